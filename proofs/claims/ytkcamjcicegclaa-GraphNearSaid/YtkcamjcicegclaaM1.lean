/- V, M1: its structural form. Conditions: none. -/
import Derived.Test.YtkcamjcicegclaaM0
set_option linter.unusedVariables false
set_option linter.unusedSimpArgs false
set_option linter.unnecessarySimpa false
/- V, part C: the functional is monotone and continuous, so its least fixed point meets its equation. Conditions: none. -/
namespace Go.Proofs.Ytkcamjcicegclaa.V
open Go

def le (S S' : Or) : Prop := ∀ j r, S j = some r → S' j = some r
/-- U is the limit of the chain C. -/
structure Lim (C : Nat → Or) (U : Or) : Prop where
  up : ∀ n m, n ≤ m → le (C n) (C m)
  lim : ∀ j r, U j = some r ↔ ∃ n, C n j = some r
structure Cts {α : Type} (Φ : Or → Option α) : Prop where
  mono : ∀ {S S'}, le S S' → ∀ {r}, Φ S = some r → Φ S' = some r
  cont : ∀ {C U}, Lim C U → ∀ {r}, Φ U = some r → ∃ n, Φ (C n) = some r

theorem Cts.const {α : Type} (x : Option α) : Cts (fun _ => x) := ⟨fun _ _ h => h, fun _ _ h => ⟨0, h⟩⟩
theorem Cts.job (j : Job) : Cts (fun S => S j) := ⟨fun h _ hr => h _ _ hr, fun h _ hr => (h.lim _ _).1 hr⟩
theorem Cts.bind {α β : Type} {Φ : Or → Option α} {Ψ : α → Or → Option β} (h : Cts Φ) (k : ∀ a, Cts (Ψ a)) : Cts (fun S => (Φ S).bind fun a => Ψ a S) := by
  constructor
  · intro S S' hS r hr
    simp only [Option.bind_eq_some_iff] at hr ⊢
    obtain ⟨a, ha, hb⟩ := hr
    exact ⟨a, h.mono hS ha, (k a).mono hS hb⟩
  · intro C U hC r hr
    simp only [Option.bind_eq_some_iff] at hr ⊢
    obtain ⟨a, ha, hb⟩ := hr
    obtain ⟨n, hn⟩ := h.cont hC ha
    obtain ⟨m, hm⟩ := (k a).cont hC hb
    exact ⟨max n m, a, h.mono (hC.up _ _ (Nat.le_max_left _ _)) hn, (k a).mono (hC.up _ _ (Nat.le_max_right _ _)) hm⟩
theorem Cts.map {α β : Type} {Φ : Or → Option α} (f : α → β) (h : Cts Φ) : Cts (fun S => (Φ S).map f) := by
  have := h.bind (Ψ := fun a _ => some (f a)) (fun a => .const _)
  simpa [Option.map_eq_bind, Function.comp_def] using this
theorem Cts.obind {α β : Type} (x : Option α) {Ψ : α → Or → Option β} (k : ∀ a, Cts (Ψ a)) : Cts (fun S => x.bind fun a => Ψ a S) := (Cts.const x).bind k
theorem Cts.ite {α : Type} (c : Prop) [Decidable c] {Φ Ψ : Or → Option α} (h : Cts Φ) (k : Cts Ψ) : Cts (fun S => if c then Φ S else Ψ S) := by
  by_cases hc : c
  · simpa [hc] using h
  · simpa [hc] using k

variable (P : Program) (A : Ann)

theorem cts_callE (f : FuncId) (args : List AV) (u : UM) (H : AH) : Cts (fun S => S.callE f args u H) :=
  (Cts.job _).bind fun o => by cases o <;> exact .const _
theorem cts_roundE (l : Nat) (args : List AV) (H : AH) : Cts (fun S => S.roundE l args H) :=
  (Cts.job _).bind fun o => by cases o <;> exact .const _
theorem cts_leaveE (f : FuncId) (t : List AV) (ds : List AD) (m : UM) (H : AH) : Cts (fun S => S.leaveE f t ds m H) :=
  (Cts.job _).bind fun o => by cases o <;> exact .const _
theorem cts_execX (cx : Cx) (c : Code) (st : St) : Cts (fun S => S.execX cx c st) :=
  (Cts.job _).bind fun o => by cases o <;> exact .const _

theorem cts_opS (cx : Cx) (draw : Bool) (o : Oper) (old : List AH) (st : St) : Cts (fun S => opS P A S cx draw o old st) := by
  unfold opS
  refine .obind _ fun r => ?_
  cases r with
  | enter f args => exact (cts_callE _ _ _ _).bind fun x => .const _
  | yield l args => exact (cts_roundE _ _ _).bind fun x => .const _
  | _ => exact .const _

theorem cts_runOps (cx : Cx) (ops : Array Oper) (draw : Bool) (hb l : List Nat) : ∀ sk sn st, Cts (fun S => runOps P A S cx ops draw hb l sk sn st) := by
  induction l with
  | nil => exact fun sk sn st => .const _
  | cons i rest ih =>
    intro sk sn st
    simp only [runOps]
    cases nthO ops.toList i with
    | none => exact .const _
    | some o =>
      dsimp only
      cases wantedA ops sk st.t o with
      | none => exact .const _
      | some b =>
        cases b with
        | false => exact ih _ _ _
        | true => exact (cts_opS P A cx draw o _ st).bind fun x => by obtain ⟨e, st'⟩ := x; cases e <;> first | exact ih _ _ _ | exact .const _
theorem cts_runRegion (cx : Cx) (id : Nat) (ops : Array Oper) (draw : Bool) (st : St) : Cts (fun S => runRegion P A S cx id ops draw st) := by
  unfold runRegion
  refine .ite _ ?_ (cts_runOps P A cx ops _ _ _ _ _ st)
  cases A.plan cx.fid id with
  | none => exact .const _
  | some p => exact cts_runOps P A cx ops _ _ _ _ _ st

theorem cts_callV (f : AV) (args : List AV) (H : AH) : Cts (fun S => callV S f args H) := by
  unfold callV
  split
  · exact cts_callE _ _ _ _
  · exact .const _
theorem cts_rangeA (cx : Cx) (f : AV) (ps : Array Tmp) (asg body : Code) (st : St) : Cts (fun S => rangeA A S cx f ps asg body st) := by
  unfold rangeA
  refine (cts_callV _ _ _).bind fun x => ?_
  obtain ⟨e, u, H'⟩ := x
  cases e with
  | panicked ch => exact .const _
  | returned v =>
    dsimp only
    split
    · refine .ite _ (.const _) ?_
      split <;> exact .const _
    · exact .const _

theorem cts_F (j : Job) : Cts (fun S => F P A S j) := by
  cases j with
  | call f args u H =>
    simp only [F]
    refine .obind _ fun fn => .obind _ fun c => (cts_execX _ _ _).bind fun x => ?_
    obtain ⟨e, st⟩ := x
    dsimp only
    exact .obind _ fun m => (cts_leaveE _ _ _ _ _).bind fun y => .const _
  | leave f t ds m H =>
    cases ds with
    | nil => cases m <;> exact .const _
    | cons d ds =>
      cases d with
      | fn f' cap args =>
        cases f' with
        | func g =>
          simp only [F]
          refine (cts_callE _ _ _ _).bind fun x => ?_
          obtain ⟨e, u, H'⟩ := x
          cases e <;> exact .job _
        | _ => exact .const _
  | exec cx c st =>
    cases c with
    | region id ops draw => simp only [F]; exact (cts_runRegion P A cx id ops draw st).map _
    | seq a b => simp only [F]; exact (cts_execX _ _ _).bind fun x => by obtain ⟨e, st'⟩ := x; cases e <;> first | exact .job _ | exact .const _
    | cond c a b => simp only [F]; split <;> first | exact .job _ | exact .const _
    | block id b => simp only [F]; exact (cts_execX _ _ _).bind fun x => by obtain ⟨e, st'⟩ := x; cases e <;> exact .const _
    | loop b => simp only [F]; exact (cts_execX _ _ _).bind fun x => by obtain ⟨e, st'⟩ := x; cases e <;> first | exact .job _ | exact .const _
    | scope b => simp only [F]; exact .job _
    | rangeFunc f ps asg body =>
      simp only [F]; exact cts_rangeA _ _ _ _ _ _ _
    | _ => exact .const _
  | scope cx b r st =>
    simp only [F]
    refine (cts_execX _ _ _).bind fun x => ?_
    obtain ⟨e, st'⟩ := x
    cases e with
    | goto l => dsimp only; split <;> first | exact .job _ | exact .const _
    | _ => exact .const _
  | round l args H =>
    simp only [F]
    split
    · refine .ite _ ?_ (.const _)
      refine (cts_execX _ _ _).bind fun x => ?_
      obtain ⟨e, st⟩ := x
      cases e with
      | normal =>
        dsimp only
        split
        · refine .ite _ ?_ (.const _)
          refine (cts_execX _ _ _).bind fun y => .const _
        · exact .const _
      | _ => exact .const _
    · exact .const _

/-! ### The fixed point -/
noncomputable def sem : Nat → Or
  | 0 => fun _ => none
  | n + 1 => F P A (sem n)
theorem sem_up1 (n : Nat) : le (sem P A n) (sem P A (n + 1)) := by
  induction n with
  | zero => intro j r h; simp [sem] at h
  | succ n ih => intro j r h; exact (cts_F P A j).mono ih h
theorem sem_up (n m : Nat) (h : n ≤ m) : le (sem P A n) (sem P A m) := by
  induction h with
  | refl => exact fun _ _ h => h
  | step _ ih => exact fun j r hr => sem_up1 P A _ j r (ih j r hr)
open Classical in
noncomputable def ω : Or := fun j => if h : ∃ n r, sem P A n j = some r then sem P A h.choose j else none
theorem ω_iff (j : Job) (r : Out) : ω P A j = some r ↔ ∃ n, sem P A n j = some r := by
  unfold ω
  constructor
  · intro h
    split at h
    · exact ⟨_, h⟩
    · cases h
  · rintro ⟨n, hn⟩
    have hx : ∃ n r, sem P A n j = some r := ⟨n, r, hn⟩
    rw [dif_pos hx]
    obtain ⟨r', hr'⟩ := hx.choose_spec
    have h1 := sem_up P A _ _ (Nat.le_max_left n hx.choose) j _ hn
    have h2 := sem_up P A _ _ (Nat.le_max_right n hx.choose) j _ hr'
    rw [hr', ← h2, h1]
theorem ω_lim : Lim (sem P A) (ω P A) := ⟨sem_up P A, ω_iff P A⟩
theorem ω_eq (j : Job) : ω P A j = F P A (ω P A) j := by
  apply Option.ext
  intro r
  rw [ω_iff]
  constructor
  · rintro ⟨n, hn⟩
    cases n with
    | zero => simp [sem] at hn
    | succ n => exact (cts_F P A j).mono (fun j r h => (ω_iff P A j r).2 ⟨n, h⟩) hn
  · intro h
    obtain ⟨n, hn⟩ := (cts_F P A j).cont (ω_lim P A) h
    exact ⟨n + 1, hn⟩

/-! ### What a prover works with -/
noncomputable def call (f : FuncId) (args : List AV) (u : UM) (H : AH) : Option (AEnd × UM × AH) := (ω P A).callE f args u H
noncomputable def exec (cx : Cx) (c : Code) (st : St) : Option (Ex × St) := (ω P A).execX cx c st

/-! ### The same with what follows as a continuation: the form that is printed -/
theorem opK_eq {β : Type} (dr : Bool) (t : List AV) (H : AH) (old : List AH) (o : Oper)
    (kv : AV → AH → Option β) (kc : FuncId → List AV → Option β) (ky : Nat → List AV → Option β) (kd : AD → Option β) (kr : Option β) (kp : AV → Option β) :
    opK P A dr t H old o kv kc ky kd kr kp = (op1 P A dr t H old o).bind fun | .val v H => kv v H | .enter f a => kc f a | .yield l a => ky l a | .defer d => kd d | .recover => kr | .panic v => kp v := by
  unfold op1 opK
  split <;> (try simp only [asB, asP, asI, applyA, deferA, Option.bind_assoc, Option.bind_some]) <;> (repeat' split) <;> simp_all [Option.bind_assoc]

abbrev Kont (β : Type) := Ex → St → Option β

/-- A test with the value known on either way. -/
def asT {β : Type} (v : AV) (kT kF : Option β) : Option β := match v with | .s (.bool true) => kT | .s (.bool false) => kF | _ => none
def onEnd {β : Type} (r : AEnd × UM × AH) (kv : AV → AH → Option β) (kp : List APanic → AH → Option β) : Option β := match r.1 with | .returned v => kv v r.2.2 | .panicked ch => kp ch r.2.2
def onEnd2 {β : Type} (r : AEnd × AH) (kv : AV → AH → Option β) (kp : List APanic → AH → Option β) : Option β := match r.1 with | .returned v => kv v r.2 | .panicked ch => kp ch r.2
def onRec {β : Type} (u : UM) (k : AV → UM → Option β) : Option β := match u with | .panicking (⟨v, false⟩ :: older) => k v (.panicking (⟨v, true⟩ :: older)) | u => k (.s .nilIface) u

noncomputable def wantK {β : Type} (ops : Array Oper) (sk : List Nat) (t : List AV) (o : Oper) (kw ks : List AV → Option β) : Option β :=
  match o.guard with
  | none => kw t
  | some (j, want) =>
    if memN sk j = true then ks t else
    match (nthO ops.toList j).bind (·.dst) with
    | none => ks t
    | some d => asT (nth .bot t d) (if want = true then kw (setN t d (.s (.bool true))) else ks (setN t d (.s (.bool true)))) (if want = true then ks (setN t d (.s (.bool false))) else kw (setN t d (.s (.bool false))))
/-- A list's spine, written out before the rest is asked for (it changes nothing; it keeps the kernel's terms small). -/
noncomputable def spine {β : Type} (l : List AV) (k : List AV → β) : β := List.rec (motive := fun _ => (List AV → β) → β) (fun k => k []) (fun a _ ih k => ih fun l' => k (a :: l')) l k
theorem spine_eq {β : Type} (l : List AV) : ∀ (k : List AV → β), spine l k = k l := by
  induction l with
  | nil => intro k; rfl
  | cons a l ih => intro k; exact ih _
def snap {β : Type} (b : Bool) (sn : List AH) (H : AH) (k : List AH → β) : β := match b with | true => k (sn ++ [H]) | false => k sn
theorem snap_eq {β : Type} (b : Bool) (sn : List AH) (H : AH) (k : List AH → β) : snap b sn H k = k (if b = true then sn ++ [H] else sn) := by cases b <;> rfl
def pick2 {β : Type} (b : Bool) (x y : β) : β := match b with | true => x | false => y
theorem pick2_eq {β : Type} (b : Bool) (x y : β) : pick2 b x y = if b = true then x else y := by cases b <;> rfl

noncomputable def runK {β : Type} (cx : Cx) (ops : Array Oper) (draw : Bool) (hb : List Nat) (order : List Nat) : List Nat → List AH → Kont β → List AV → List AD → UM → AH → Option β :=
  List.rec (motive := fun _ => List Nat → List AH → Kont β → List AV → List AD → UM → AH → Option β)
    (fun _ _ K t ds u H => K .normal ⟨t, ds, u, H⟩)
    (fun i _ run sk sn K t ds u H =>
      match nthO ops.toList i with
      | none => none
      | some o =>
        wantK ops sk t o
          (fun t => opK P A draw t H (pick2 draw (sn.drop (nth 0 hb i)) []) o
            (fun v H' => spine (putA t o.dst v) fun t => snap (draw && heavy o) sn H fun sn => run sk sn K t ds u H')
            (fun f args => (call P A f args .none H).bind fun r => onEnd r
              (fun v H' => spine (putA t o.dst v) fun t => snap (draw && heavy o) sn H fun sn => run sk sn K t ds u H')
              (fun ch H' => pick2 draw none (K (.panic ch) ⟨t, ds, u, H'⟩)))
            (fun l args => ((ω P A).roundE l args H).bind fun r => onEnd2 r
              (fun v H' => spine (putA t o.dst v) fun t => snap (draw && heavy o) sn H fun sn => run sk sn K t ds u H')
              (fun ch H' => pick2 draw none (K (.panic ch) ⟨t, ds, u, H'⟩)))
            (fun d => pick2 cx.rnd.isSome none (spine (putA t o.dst (.tup [])) fun t => snap (draw && heavy o) sn H fun sn => run sk sn K t (d :: ds) u H))
            (pick2 cx.rnd.isSome none (onRec u fun v u => spine (putA t o.dst v) fun t => snap (draw && heavy o) sn H fun sn => run sk sn K t ds u H))
            (fun v => pick2 draw none (K (.panic [⟨v, false⟩]) ⟨t, ds, u, H⟩)))
          (fun t => spine (putA t o.dst (.tup [])) fun t => snap (draw && heavy o) sn H fun sn => run (i :: sk) sn K t ds u H))
    order
theorem runK_cons {β : Type} (cx : Cx) (ops : Array Oper) (draw : Bool) (hb : List Nat) (i : Nat) (rest sk : List Nat) (sn : List AH) (K : Kont β) (t : List AV) (ds : List AD) (u : UM) (H : AH) :
    runK P A cx ops draw hb (i :: rest) sk sn K t ds u H =
      match nthO ops.toList i with
      | none => none
      | some o =>
        wantK ops sk t o
          (fun t => opK P A draw t H (pick2 draw (sn.drop (nth 0 hb i)) []) o
            (fun v H' => spine (putA t o.dst v) fun t => snap (draw && heavy o) sn H fun sn => runK P A cx ops draw hb rest sk sn K t ds u H')
            (fun f args => (call P A f args .none H).bind fun r => onEnd r
              (fun v H' => spine (putA t o.dst v) fun t => snap (draw && heavy o) sn H fun sn => runK P A cx ops draw hb rest sk sn K t ds u H')
              (fun ch H' => pick2 draw none (K (.panic ch) ⟨t, ds, u, H'⟩)))
            (fun l args => ((ω P A).roundE l args H).bind fun r => onEnd2 r
              (fun v H' => spine (putA t o.dst v) fun t => snap (draw && heavy o) sn H fun sn => runK P A cx ops draw hb rest sk sn K t ds u H')
              (fun ch H' => pick2 draw none (K (.panic ch) ⟨t, ds, u, H'⟩)))
            (fun d => pick2 cx.rnd.isSome none (spine (putA t o.dst (.tup [])) fun t => snap (draw && heavy o) sn H fun sn => runK P A cx ops draw hb rest sk sn K t (d :: ds) u H))
            (pick2 cx.rnd.isSome none (onRec u fun v u => spine (putA t o.dst v) fun t => snap (draw && heavy o) sn H fun sn => runK P A cx ops draw hb rest sk sn K t ds u H))
            (fun v => pick2 draw none (K (.panic [⟨v, false⟩]) ⟨t, ds, u, H⟩)))
          (fun t => spine (putA t o.dst (.tup [])) fun t => snap (draw && heavy o) sn H fun sn => runK P A cx ops draw hb rest (i :: sk) sn K t ds u H) := rfl

theorem set_same {t : List AV} {d : Nat} {v : AV} (h : nth .bot t d = v) (hv : v ≠ .bot) : setN t d v = t := by
  rw [nth_eq] at h; rw [setN_eq]
  apply List.ext_getElem?
  intro i
  rw [List.getElem?_set]
  by_cases hi : d = i
  · subst hi
    rw [if_pos rfl]
    rw [List.getD_eq_getElem?_getD] at h
    cases hx : t[d]? with
    | none => rw [hx] at h; simp at h; exact absurd h.symm hv
    | some x => rw [hx] at h; simp at h; subst h; have := (List.getElem?_eq_some_iff.1 hx).1; simp [this]
  · rw [if_neg hi]

theorem wantK_eq {β : Type} (ops : Array Oper) (sk : List Nat) (t : List AV) (o : Oper) (kw ks : List AV → Option β) :
    wantK ops sk t o kw ks = match wantedA ops sk t o with | none => none | some true => kw t | some false => ks t := by
  unfold wantK wantedA
  cases o.guard with
  | none => rfl
  | some g =>
    obtain ⟨j, want⟩ := g
    dsimp only
    split
    · rfl
    · cases (nthO ops.toList j).bind (·.dst) with
      | none => rfl
      | some d =>
        dsimp only
        unfold asT
        cases hv : nth .bot t d with
        | s v =>
          cases v with
          | bool b => cases b <;> cases want <;> simp [set_same hv]
          | _ => rfl
        | _ => rfl

theorem runK_eq {β : Type} (cx : Cx) (ops : Array Oper) (draw : Bool) (hb l : List Nat) : ∀ (sk : List Nat) (sn : List AH) (K : Kont β) (st : St),
    runK P A cx ops draw hb l sk sn K st.t st.ds st.u st.H = (runOps P A (ω P A) cx ops draw hb l sk sn st).bind fun x => K x.1 x.2 := by
  induction l with
  | nil => intro sk sn K st; rfl
  | cons i rest ih =>
    intro sk sn K st
    rw [runK_cons]
    simp only [runOps]
    cases nthO ops.toList i with
    | none => rfl
    | some o =>
      dsimp only
      rw [wantK_eq]
      cases wantedA ops sk st.t o with
      | none => rfl
      | some b =>
        cases b with
        | false => dsimp only; rw [spine_eq, snap_eq, ← ih]
        | true =>
          dsimp only
          rw [opK_eq, pick2_eq]
          unfold opS
          cases op1 P A draw st.t st.H (if draw = true then sn.drop (nth 0 hb i) else []) o with
          | none => rfl
          | some r =>
            simp only [Option.bind_some]
            cases r with
            | val v H => dsimp only [Option.bind_some]; rw [spine_eq, snap_eq, ← ih]
            | enter f args =>
              show ((call P A f args .none st.H).bind _) = (((call P A f args .none st.H).bind _).bind _).bind _
              cases call P A f args .none st.H with
              | none => rfl
              | some r =>
                obtain ⟨e, u, H⟩ := r
                cases e with
                | returned v => simp only [Option.bind_some, onEnd]; rw [spine_eq, snap_eq, ← ih]
                | panicked ch => simp only [Option.bind_some, onEnd]; cases draw <;> rfl
            | yield l args =>
              dsimp only
              cases (ω P A).roundE l args st.H with
              | none => rfl
              | some r =>
                obtain ⟨e, H⟩ := r
                cases e with
                | returned v => simp only [Option.bind_some, onEnd2]; rw [spine_eq, snap_eq, ← ih]
                | panicked ch => simp only [Option.bind_some, onEnd2]; cases draw <;> rfl
            | defer d =>
              dsimp only
              cases cx.rnd with
              | some l => rfl
              | none => simp only [Option.isSome_none, pick2, Bool.false_eq_true, if_false, Option.bind_some]; rw [spine_eq, snap_eq, ← ih]
            | recover =>
              dsimp only
              cases cx.rnd with
              | some l => rfl
              | none =>
                simp only [Option.isSome_none, pick2, Bool.false_eq_true, if_false]
                unfold onRec
                split
                · rename_i h; simp only [h, Option.bind_some]; rw [spine_eq, snap_eq, ← ih]
                · rename_i h
                  split
                  · rename_i h2; exact absurd h2 (h _ _)
                  · simp only [Option.bind_some]; rw [spine_eq, snap_eq, ← ih]
            | panic v => dsimp only; cases draw <;> rfl

/-- Continuations, by name. -/
noncomputable def kblock {β : Type} (id : Nat) (K : Kont β) : Kont β := fun e st => match e with | .exit i => if i = id then K .normal st else K (.exit i) st | e => K e st
/-- A region. -/
noncomputable def denR {β : Type} (cx : Cx) (id : Nat) (ops : Array Oper) (draw : Bool) (K : Kont β) (st : St) : Option β :=
  if draw = true then
    match A.plan cx.fid id with
    | some (order, hb) => runK P A cx ops true hb order [] [] K st.t st.ds st.u st.H
    | none => none
  else runK P A cx ops false [] (List.range ops.size) [] [] K st.t st.ds st.u st.H
/-- Behind the call of a range over a function. -/
def onRange {β : Type} (l : Nat) (r : AEnd × UM × AH) (kn kr : AH → Option β) (kx kg : Nat → AH → Option β) (kp : List APanic → AH → Option β) : Option β :=
  match r.1 with
  | .panicked ch => kp ch r.2.2
  | .returned _ =>
    match r.2.2[l]? with
    | some (.loop s pend fid t ps asg body) =>
      if s = LoopState.busy then none else
      match pend with
      | none => kn (r.2.2.set l (.loop .exhausted none fid t ps asg body))
      | some .ret => kr (r.2.2.set l (.loop .exhausted (some .ret) fid t ps asg body))
      | some (.exit i) => kx i (r.2.2.set l (.loop .exhausted (some (.exit i)) fid t ps asg body))
      | some (.goto i) => kg i (r.2.2.set l (.loop .exhausted (some (.goto i)) fid t ps asg body))
      | some _ => none
    | _ => none
noncomputable def rangeK {β : Type} (cx : Cx) (f : AV) (ps : List Tmp) (asg body : Code) (K : Kont β) (st : St) : Option β :=
  applyA f [.fn (.yield st.H.length) [] []] (fun g args => (call P A g args .none (st.H ++ [.loop .ready none cx.fid (forget A cx.fid body st.t) ps asg body])).bind fun r =>
    onRange st.H.length r (fun H => K .normal { st with H := H }) (fun H => K .ret { st with H := H }) (fun i H => K (.exit i) { st with H := H }) (fun i H => K (.goto i) { st with H := H }) (fun ch H => K (.panic ch) { st with H := H })) (fun _ _ => none)

/-- A loop, its temporaries forgotten already. -/
noncomputable def denL {β : Type} (cx : Cx) (b : Code) (K : Kont β) (st : St) : Option β := (exec P A cx (.loop b) st).bind fun x => K x.1 x.2
/-- A scope, somewhere inside: r is what is left of its body b. -/
noncomputable def denS {β : Type} (cx : Cx) (b r : Code) (K : Kont β) (st : St) : Option β := ((ω P A).scopeX cx b r st).bind fun x => K x.1 x.2
/-- First next, then what follows. -/
def kthen {β : Type} (next : St → Option β) (K : Kont β) : Kont β := fun e st => match e with | .normal => next st | e => K e st
/-- Code with what follows: by structure; loops, calls and gotos by the fixed point. -/
noncomputable def den {β : Type} (cx : Cx) : Code → Kont β → St → Option β
  | .skip, K, st => K .normal st
  | .label _, K, st => K .normal st
  | .region id ops draw, K, st => denR P A cx id ops draw K st
  | .seq a b, K, st => den cx a (kthen (den cx b K) K) st
  | .cond c a b, K, st => asT (aev st.t c) (den cx a K st) (den cx b K st)
  | .block id b, K, st => den cx b (kblock id K) st
  | .exit id, K, st => K (.exit id) st
  | .goto l, K, st => K (.goto l) st
  | .ret, K, st => K .ret st
  | .rangeFunc f ps asg body, K, st => rangeK P A cx (aev st.t f) ps.toList asg body K st
  | .loop b, K, st => denL P A cx b K { st with t := forget A cx.fid b st.t }
  | .scope b, K, st => denS P A cx b b K { st with t := forget A cx.fid b st.t }
  | .refuse _, _, _ => none
theorem exec_eq (cx : Cx) (c : Code) (st : St) : exec P A cx c st = (F P A (ω P A) (.exec cx c st)).bind Out.toX := by
  unfold exec Or.execX; exact congrArg (Option.bind · _) (ω_eq P A _)

theorem rangeK_eq {β : Type} (cx : Cx) (f : AV) (ps : Array Tmp) (asg body : Code) (st : St) (K : Kont β) :
    rangeK P A cx f ps.toList asg body K st = ((rangeA A (ω P A) cx f ps asg body st).bind Out.toX).bind fun x => K x.1 x.2 := by
  unfold rangeA rangeK callV applyA
  split
  · rename_i g first cap
    show (call P A _ _ _ _).bind _ = (((call P A _ _ _ _).bind _).bind _).bind _
    cases call P A g (first ++ [.fn (.yield st.H.length) [] []] ++ cap) .none (st.H ++ [.loop .ready none cx.fid (forget A cx.fid body st.t) ps.toList asg body]) with
    | none => rfl
    | some r =>
      obtain ⟨e, u, H'⟩ := r
      cases e with
      | panicked ch => rfl
      | returned v =>
        simp only [Option.bind_some, onRange]
        cases H'[st.H.length]? with
        | none => rfl
        | some o =>
          cases o with
          | loop s pend fid t ps asg body =>
            dsimp only
            split
            · rfl
            · cases pend with
              | none => rfl
              | some c => cases c <;> rfl
          | _ => rfl
  · rfl
  · rename_i h1 h2
    cases f with
    | fn g a b => cases g with
      | func g => exact absurd rfl (h1 g a b)
      | _ => rfl
    | _ => rfl

theorem keepOnly_twice (l : List Nat) (t : List AV) : ∀ i, keepOnly l (keepOnly l t i) i = keepOnly l t i := by
  induction t with
  | nil => intro i; rfl
  | cons v vs ih =>
    intro i
    simp only [keepOnly, ih]
    split <;> rfl
theorem forget_forget (fid : FuncId) (c : Code) (t : List AV) : forget A fid c (forget A fid c t) = forget A fid c t := by
  unfold forget
  cases (firstRegion c).bind (A.live fid) with
  | none => rfl
  | some l => exact keepOnly_twice l t 0

theorem den_eq {β : Type} (cx : Cx) (c : Code) : ∀ (K : Kont β) (st : St), den P A cx c K st = (exec P A cx c st).bind fun x => K x.1 x.2 := by
  induction c with
  | skip => intro K st; rw [exec_eq]; rfl
  | label l => intro K st; rw [exec_eq]; rfl
  | exit l => intro K st; rw [exec_eq]; rfl
  | goto l => intro K st; rw [exec_eq]; rfl
  | ret => intro K st; rw [exec_eq]; rfl
  | region id ops draw =>
    intro K st; rw [exec_eq]; simp only [F, den, denR, runRegion]
    cases draw with
    | false => simp only [Bool.false_eq_true, if_false]; rw [runK_eq]; cases runOps P A (ω P A) cx ops false [] (List.range ops.size) [] [] st <;> rfl
    | true =>
      simp only [if_true]
      cases A.plan cx.fid id with
      | none => rfl
      | some p => obtain ⟨order, hb⟩ := p; dsimp only; rw [runK_eq]; cases runOps P A (ω P A) cx ops true hb order [] [] st <;> rfl
  | seq a b iha ihb =>
    intro K st
    rw [exec_eq]; simp only [F, den, iha]
    show _ = (((exec P A cx a st).bind _).bind _).bind _
    cases exec P A cx a st with
    | none => rfl
    | some x =>
      obtain ⟨e, st'⟩ := x
      cases e with
      | normal => simp only [Option.bind_some, kthen]; rw [ihb]; rfl
      | _ => simp only [Option.bind_some, kthen]; rfl
  | cond c a b iha ihb =>
    intro K st
    rw [exec_eq]; simp only [F, den]
    cases hc : aev st.t c with
    | s v =>
      cases v with
      | bool v => cases v with
        | true => simp only [asT]; rw [iha]; rfl
        | false => simp only [asT]; rw [ihb]; rfl
      | _ => rfl
    | _ => rfl
  | block id b ih =>
    intro K st
    rw [exec_eq]; simp only [F, den, ih]
    show _ = (((exec P A cx b st).bind _).bind _).bind _
    cases exec P A cx b st with
    | none => rfl
    | some x =>
      obtain ⟨e, st'⟩ := x
      cases e with
      | exit i => simp only [Option.bind_some, kblock]; split <;> rfl
      | _ => rfl
  | loop b =>
    intro K st
    simp only [den, denL]
    rw [exec_eq, exec_eq]; simp only [F, forget_forget]
  | rangeFunc f ps asg body =>
    intro K st
    rw [exec_eq]; simp only [F, den]; exact rangeK_eq P A cx _ ps asg body st K
  | scope b => intro K st; rw [exec_eq]; simp only [den, denS, F, Or.scopeX]; rw [ω_eq, ω_eq]; simp only [F, forget_forget]
  | refuse => intro K st; rw [exec_eq]; rfl

/-- A loop's one round. -/
noncomputable def kloop {β : Type} (cx : Cx) (b : Code) (K : Kont β) : Kont β := fun e st => match e with | .normal => denL P A cx b K { st with t := forget A cx.fid b st.t } | e => K e st
theorem denL_eq {β : Type} (cx : Cx) (b : Code) (K : Kont β) (st : St) :
    denL P A cx b K st = den P A cx b (kloop P A cx b K) { st with t := forget A cx.fid b st.t } := by
  rw [den_eq]
  unfold denL
  rw [exec_eq]
  simp only [F]
  show (((exec P A cx b _).bind _).bind _).bind _ = _
  cases exec P A cx b { st with t := forget A cx.fid b st.t } with
  | none => rfl
  | some x =>
    obtain ⟨e, st'⟩ := x
    cases e with
    | normal =>
      simp only [Option.bind_some, kloop]
      have := den_eq P A cx (.loop b) K st'
      simp only [den] at this
      rw [this]; rfl
    | _ => rfl

noncomputable def kscope {β : Type} (cx : Cx) (b : Code) (K : Kont β) : Kont β := fun e st => match e with
  | .goto l => match findLabel b l with
    | some r => denS P A cx b r K { st with t := forget A cx.fid r st.t }
    | none => K (.goto l) st
  | e => K e st
theorem denS_eq {β : Type} (cx : Cx) (b r : Code) (K : Kont β) (st : St) : denS P A cx b r K st = den P A cx r (kscope P A cx b K) { st with t := forget A cx.fid r st.t } := by
  rw [den_eq]
  unfold denS Or.scopeX
  rw [ω_eq]
  simp only [F]
  show (((exec P A cx r _).bind _).bind _).bind _ = _
  cases exec P A cx r { st with t := forget A cx.fid r st.t } with
  | none => rfl
  | some x =>
    obtain ⟨e, st'⟩ := x
    cases e with
    | goto l =>
      simp only [Option.bind_some, kscope]
      cases findLabel b l with
      | none => rfl
      | some r' => simp only [denS, Or.scopeX]; rw [ω_eq P A (.scope cx b r' st'), ω_eq P A (.scope cx b r' _)]; simp only [F, forget_forget]
    | _ => rfl

/-- Behind a deferred call. -/
def onEndM {β : Type} (r : AEnd × UM × AH) (k : UM → AH → Option β) : Option β := match r.1 with | .returned _ => k (settleU r.2.1) r.2.2 | .panicked ch => k (raiseU r.2.1 ch) r.2.2
/-- How a call ends, its objects dropped if its mode says so. -/
noncomputable def shutE (keep : Bool) (H0 : AH) (u : UM) (e : AEnd) (H : AH) : Option (AEnd × UM × AH) := (shut keep H0 (e, u, H)).bind Out.toE
def onMode {β : Type} (m : UM) (kr : Option β) (kp : List APanic → Option β) : Option β := match m with | .returning => kr | .panicking ch => kp ch | .none => none
/-- The deferred calls, one behind the other, then the results. -/
noncomputable def leaveK {β : Type} (f : FuncId) (t : List AV) (k : AEnd → AH → Option β) : List AD → UM → AH → Option β
  | [], m, H => onMode m (match P.funcs[f]? with | some fn => resK P H t fn.results.toList [] fun v => k (.returned v) H | none => none) (fun ch => k (.panicked ch) H)
  | .fn (.func g) cap args :: ds, m, H => (call P A g (args ++ cap) m H).bind fun r => onEndM r fun m H => leaveK f t k ds m H
  | _, _, _ => none
noncomputable def kret (f : FuncId) (H0 : AH) : Kont (AEnd × UM × AH) := fun e st =>
  match modeOf e with
  | some m => leaveK P A f st.t (fun e H => shutE (A.keep f) H0 st.u e H) st.ds m st.H
  | none => none

theorem resK_eq {β : Type} (H : AH) (t : List AV) (rs : List ResultVar) (k : AV → Option β) : ∀ acc, resK P H t rs acc k = (resK P H t rs acc some).bind k := by
  induction rs with
  | nil => intro acc; rfl
  | cons r rs ih =>
    intro acc
    cases r with
    | tmp i => exact ih _
    | cell a ty =>
      simp only [resK]
      cases loadVarA P H ty (nth (.tup []) t a) with
      | none => rfl
      | some v => exact ih _
theorem leaveK_eq {β : Type} (f : FuncId) (t : List AV) (k : AEnd → AH → Option β) (ds : List AD) : ∀ (m : UM) (H : AH),
    leaveK P A f t k ds m H = ((ω P A).leaveE f t ds m H).bind fun x => k x.1 x.2 := by
  induction ds with
  | nil =>
    intro m H
    unfold Or.leaveE; rw [ω_eq]
    cases m with
    | none => rfl
    | panicking ch => rfl
    | returning =>
      simp only [F, leaveK, onMode]
      cases P.funcs[f]? with
      | none => rfl
      | some fn => simp only [Option.bind_some]; rw [resK_eq]; unfold resultsA; cases resK P H t fn.results.toList [] some <;> rfl
  | cons d ds ih =>
    intro m H
    unfold Or.leaveE; rw [ω_eq]
    cases d with
    | fn f' cap args =>
      cases f' with
      | func g =>
        simp only [F, leaveK]
        show (call P A g (args ++ cap) m H).bind _ = (((call P A g (args ++ cap) m H).bind _).bind _).bind _
        cases call P A g (args ++ cap) m H with
        | none => rfl
        | some r =>
          obtain ⟨e, u, H'⟩ := r
          cases e with
          | returned v => simp only [Option.bind_some, onEndM]; rw [ih]; rfl
          | panicked ch => simp only [Option.bind_some, onEndM]; rw [ih]; rfl
      | _ => rfl

theorem kret_eq (f : FuncId) (H0 : AH) (e : Ex) (st : St) :
    kret P A f H0 e st = (modeOf e).bind fun m => ((ω P A).leaveE f st.t st.ds m st.H).bind fun x => (shut (A.keep f) H0 (x.1, st.u, x.2)).bind Out.toE := by
  unfold kret
  cases modeOf e with
  | none => rfl
  | some m => exact leaveK_eq P A f st.t _ st.ds m st.H

theorem call_eq (f : FuncId) (args : List AV) (u : UM) (H : AH) :
    call P A f args u H = match P.funcs[f]? with
      | some fn => match fn.body with
        | some c => den P A ⟨f, none⟩ c (kret P A f H) ⟨args ++ List.replicate (fn.ntmps - args.length) (.tup []), [], u, H⟩
        | none => none
      | none => none := by
  unfold call Or.callE
  rw [ω_eq]
  simp only [F]
  cases P.funcs[f]? with
  | none => rfl
  | some fn =>
    simp only [Option.bind_some]
    cases fn.body with
    | none => rfl
    | some c =>
      simp only [Option.bind_some, den_eq]
      show (((exec P A _ c _).bind _).bind _) = _
      cases exec P A ⟨f, none⟩ c ⟨args ++ List.replicate (fn.ntmps - args.length) (.tup []), [], u, H⟩ with
      | none => rfl
      | some x =>
        obtain ⟨e, st⟩ := x
        simp only [Option.bind_some, kret_eq]
        cases modeOf e with
        | none => rfl
        | some m =>
          simp only [Option.bind_some]
          cases (ω P A).leaveE f st.t st.ds m st.H <;> rfl

/-! ### What printed texts name -/
def codeAt : List Nat → Code → Code
  | [], c => c
  | i :: p, .seq a b => codeAt p (if i = 0 then a else b)
  | i :: p, .cond _ a b => codeAt p (if i = 0 then a else b)
  | _ :: p, .block _ b => codeAt p b
  | _ :: p, .loop b => codeAt p b
  | _ :: p, .scope b => codeAt p b
  | i :: p, .rangeFunc _ _ a b => codeAt p (if i = 0 then a else b)
  | _, c => c
def bodyOf (fn : Func) : Code := match fn.body with | some c => c | none => .skip
def labelAt (b : Code) (l : Nat) : Code := match findLabel b l with | some r => r | none => .skip
/-- A call of a function value. -/
noncomputable def callF {β : Type} (f : AV) (args : List AV) (H : AH) (kv : AV → AH → Option β) (kp : List APanic → AH → Option β) : Option β :=
  applyA f args (fun g args => (call P A g args .none H).bind fun r => onEnd r kv kp) (fun l args => ((ω P A).roundE l args H).bind fun r => onEnd2 r kv kp)
noncomputable def rangeF {β : Type} (f : AV) (H : AH) (rec : AO) (kn kr : AH → Option β) (kx kg : Nat → AH → Option β) (kp : List APanic → AH → Option β) : Option β :=
  applyA f [.fn (.yield H.length) [] []] (fun g args => (call P A g args .none (H ++ [rec])).bind fun r => onRange H.length r kn kr kx kg kp) (fun _ _ => none)
def annOf (keep : List Nat) (live : List (Nat × List (Nat × List Nat))) (plan : List (Nat × List (Nat × List Nat × List Nat))) (eqs : List (Nat × List Nat)) : Ann :=
  { keep := fun f => keep.any (Nat.beq f),
    live := fun f r => (live.find? fun x => Nat.beq x.1 f).bind fun x => (x.2.find? fun y => Nat.beq y.1 r).map (·.2),
    plan := fun f r => (plan.find? fun x => Nat.beq x.1 f).bind fun x => (x.2.find? fun y => Nat.beq y.1 r).map (·.2),
    eqs := eqs }

/-! ### A round of a range over a function -/
def endRoundA (H : AH) (l : Nat) (jump : Option Code) : Option (AEnd × AH) :=
  match H[l]? with
  | some (.loop _ _ fid t ps asg body) => some (.returned (.s (.bool jump.isNone)), H.set l (.loop (if jump.isNone = true then .ready else .done) jump fid t ps asg body))
  | _ => none
def panRoundA (H : AH) (l : Nat) (ch : List APanic) : Option (AEnd × AH) := match H[l]? with | some (.loop ..) => some (.panicked ch, H) | _ => none
def kround (l : Nat) : Kont (AEnd × AH) := fun e st =>
  match e with
  | .normal => endRoundA st.H l none
  | .ret => endRoundA st.H l (some .ret)
  | .exit i => endRoundA st.H l (some (.exit i))
  | .goto i => endRoundA st.H l (some (.goto i))
  | .panic ch => panRoundA st.H l ch
def onBusy {β : Type} (H : AH) (l : Nat) (next : AH → Option β) : Option β :=
  match H[l]? with
  | some (.loop s pend fid t ps asg body) => if s = .ready then next (H.set l (.loop .busy pend fid t ps asg body)) else none
  | _ => none
def kbusy (l : Nat) (next : St → Option (AEnd × AH)) : Kont (AEnd × AH) := fun e st =>
  match e with
  | .normal => onBusy st.H l fun H => next { st with H := H }
  | _ => none
theorem round_eq (l : Nat) (args : List AV) (H : AH) {s : LoopState} {pend : Option Code} {fid : FuncId} {t : List AV} {ps : List Tmp} {asg body : Code}
    (h : H[l]? = some (.loop s pend fid t ps asg body)) (hn : args.length = ps.length)
    (hkeep : ∀ e st, exec P A ⟨fid, some l⟩ asg ⟨(ps.zip args).foldl (fun t (x : Tmp × AV) => t.set x.1 x.2) t, [], .none, H⟩ = some (e, st) → ∃ s' pend', st.H[l]? = some (.loop s' pend' fid t ps asg body)) :
    (ω P A).roundE l args H = den P A ⟨fid, some l⟩ asg (kbusy l (den P A ⟨fid, some l⟩ body (kround l))) ⟨(ps.zip args).foldl (fun t (x : Tmp × AV) => t.set x.1 x.2) t, [], .none, H⟩ := by
  unfold Or.roundE
  rw [ω_eq]
  simp only [F, h, hn, if_true]
  rw [den_eq]
  show (((exec P A _ _ _).bind _)).bind _ = _
  cases hx : exec P A ⟨fid, some l⟩ asg ⟨(ps.zip args).foldl (fun t (x : Tmp × AV) => t.set x.1 x.2) t, [], .none, H⟩ with
  | none => rfl
  | some x =>
    obtain ⟨e, st⟩ := x
    obtain ⟨s', pend', hl⟩ := hkeep _ _ hx
    cases e with
    | normal =>
      simp only [Option.bind_some, kbusy, onBusy, hl]
      split
      · rw [den_eq]
        show (((exec P A _ _ _).bind _)).bind _ = _
        cases exec P A ⟨fid, some l⟩ body { st with H := st.H.set l (.loop .busy pend' fid t ps asg body) } with
        | none => rfl
        | some y =>
          obtain ⟨e2, st2⟩ := y
          simp only [Option.bind_some]
          cases hy : st2.H[l]? with
          | none => cases e2 <;> simp [kround, endRoundA, panRoundA, hy]
          | some o => cases o <;> cases e2 <;> simp [kround, endRoundA, panRoundA, hy, Out.toE2]
      · rfl
    | _ => rfl

end Go.Proofs.Ytkcamjcicegclaa.V
