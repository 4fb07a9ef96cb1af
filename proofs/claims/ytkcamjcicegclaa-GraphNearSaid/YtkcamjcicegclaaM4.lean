/- V, M4: V is sound (a part of the proof). Conditions: none. -/
import Derived.Test.YtkcamjcicegclaaM3
import Derived.Laws.StructEq
set_option linter.unusedVariables false
set_option linter.unusedSimpArgs false
set_option linter.unnecessarySimpa false
/- V, part I: equality, and the other operations of V, met by the model's. Conditions: none. -/
namespace Go.Proofs.Ytkcamjcicegclaa.V
open Go

variable {P : Program} {A : Ann} {k : KW} {H : AH}

structure AnnOk (P : Program) (A : Ann) : Prop where
  eqs : ∀ t gs, (A.eqs.find? fun x => Nat.beq x.1 t).map (·.2) = some gs → eqTy P t gs = true
  codes : funcsOk P A 0 P.funcs.toList = true
  mixed : P.follows .mixedOrders = true

/-! ### Equality -/
def partV (P : Program) (t : TypeId) (xs : Array Value) (off : Nat) : Value := if isAggP P t = true then .agg (xs.extract off (off + szP P t)) else xs.getD off undef

theorem part_run (w : World) {t : TypeId} (hi : (P.info? t).isSome = true) (hd : (P.underlying t).isSome = true) {xs : Array Value} {off : Nat} (h : isAggP P t = true ∨ off < xs.size) : (part t xs off).run P w = .ok (partV P t xs off) w := by
  unfold part partV
  simp only [Sem.run_bind, isAgg_run hd, Result.andThen_ok]
  cases ha : isAggP P t with
  | true => simp [sizeOf_run hi]
  | false =>
    rw [ha] at h
    have : off < xs.size := by simpa using h
    simp [this, Array.getD]

def kindOf (P : Program) (t : TypeId) : Nat → Prop
  | 0 => ∃ kk, P.underlying t = some (.int kk)
  | 1 => P.underlying t = some .bool
  | 2 => P.underlying t = some .string
  | _ => False
theorem eqVal_run (w : World) (d : Nat) {t : TypeId} {x y : Value} {b : Bool} {g : Nat} (h : eqVal g x y = some b) (ht : kindOf P t g) : (Op.equalIn (d + 1) t x y).run P w = .ok b w := by
  unfold eqVal at h
  split at h
  · split at h
    · rename_i k2 a k3 c e
      subst e
      obtain ⟨kk, ht⟩ := ht
      injection h with h; subst h
      exact run_equalIn_int w d t k2 kk a c ht
    · cases h
  · injection h with h; subst h; exact run_equalIn_bool' w d t _ _ ht
  · injection h with h; subst h; rw [run_equalIn_string w d t _ _ ht, beq_toListBytes]
  · cases h

/-- The leaves' comparisons, one by one. -/
def eqAt (X Y : Array Value) : List (Nat × Nat) → Option Bool
  | [] => some true
  | (i, g) :: ls => (eqVal g (X.getD i undef) (Y.getD i undef)).bind fun e => (eqAt X Y ls).map fun r => e && r
theorem eqAt_append (X Y : Array Value) (a : List (Nat × Nat)) : ∀ (b : List (Nat × Nat)) (r : Bool), eqAt X Y (a ++ b) = some r → ∃ r1 r2, eqAt X Y a = some r1 ∧ eqAt X Y b = some r2 ∧ r = (r1 && r2) := by
  induction a with
  | nil => intro b r h; exact ⟨true, r, rfl, h, rfl⟩
  | cons x a ih =>
    intro b r h
    obtain ⟨i, g⟩ := x
    simp only [List.cons_append, eqAt] at h ⊢
    cases he : eqVal g (X.getD i undef) (Y.getD i undef) with
    | none => rw [he] at h; cases h
    | some e =>
      rw [he] at h
      simp only [Option.bind_some] at h ⊢
      cases hr : eqAt X Y (a ++ b) with
      | none => rw [hr] at h; cases h
      | some r' =>
        rw [hr] at h
        simp only [Option.map_some] at h
        injection h with h
        obtain ⟨r1, r2, h1, h2, h3⟩ := ih b r' hr
        refine ⟨e && r1, r2, by rw [h1]; rfl, h2, ?_⟩
        rw [← h, h3, Bool.and_assoc]

theorem leaves_run : ∀ (n : Nat) (t : TypeId) (off : Nat) (ls : List (Nat × Nat)), leavesP P n t off = some ls → ∀ (d : Nat), n ≤ d → ∀ (X Y : Array Value), X.size = Y.size → off + szP P t ≤ X.size → (isAggP P t = true ∨ off < X.size) → ∀ (b : Bool), eqAt X Y ls = some b → ∀ w : World,
    (Op.equalIn d t (partV P t X off) (partV P t Y off)).run P w = .ok b w := by
  intro n
  induction n with
  | zero => intro t off ls h; simp [leavesP] at h
  | succ n ih =>
    intro t off ls h d hd X Y hsz hoff hin b hb w
    obtain ⟨d, rfl⟩ : ∃ m, d = m + 1 := ⟨d - 1, by omega⟩
    simp only [leavesP] at h
    have leaf : ∀ g, isAggP P t = false → kindOf P t g → some [(off, g)] = some ls → (Op.equalIn (d + 1) t (partV P t X off) (partV P t Y off)).run P w = .ok b w := by
      intro g ha hk hls
      injection hls with hls; subst hls
      simp only [eqAt] at hb
      cases he : eqVal g (X.getD off undef) (Y.getD off undef) with
      | none => rw [he] at hb; cases hb
      | some e =>
        rw [he] at hb
        simp at hb; subst hb
        simp only [partV, ha, Bool.false_eq_true, if_false]
        exact eqVal_run w d he hk
    cases hu : P.underlying t with
    | none => rw [hu] at h; cases h
    | some u =>
      rw [hu] at h
      cases u with
      | int kk => exact leaf 0 (by simp [isAggP, hu]) ⟨kk, hu⟩ h
      | bool => exact leaf 1 (by simp [isAggP, hu]) hu h
      | string => exact leaf 2 (by simp [isAggP, hu]) hu h
      | struct fs =>
        dsimp only at h
        split at h
        · rename_i hst
          have ha : isAggP P t = true := by simp [isAggP, hu]
          simp only [partV, ha, if_true]
          have hf : P.fieldsOf t = fs := by simp [Program.fieldsOf, hu]
          rw [run_equalIn_struct w d t _ _ (by rw [hf]; exact hu) hst, hf]
          clear hf hu leaf
          generalize fs.toList = fl at h
          induction fl generalizing ls b with
          | nil =>
            simp only [leavesP.leavesF] at h; injection h with h; subst h
            simp only [eqAt] at hb; injection hb with hb; subst hb
            simp [Op.eqFields]
          | cons f fl ihf =>
            simp only [leavesP.leavesF] at h
            split at h
            · rename_i hc
              obtain ⟨hname, hle, hin2⟩ := hc
              cases h1 : leavesP P n f.type (off + f.offset) with
              | none => rw [h1] at h; cases h
              | some l1 =>
                rw [h1] at h
                cases h2 : leavesP.leavesF P (leavesP P n) t off fl with
                | none => rw [h2] at h; cases h
                | some l2 =>
                  rw [h2] at h
                  injection h with h; subst h
                  obtain ⟨r1, r2, e1, e2, rfl⟩ := eqAt_append X Y l1 l2 b hb
                  have hdef : (P.underlying f.type).isSome = true := by
                    cases n with
                    | zero => simp [leavesP] at h1
                    | succ n => simp only [leavesP] at h1; cases hx : P.underlying f.type with
                      | none => rw [hx] at h1; cases h1
                      | some _ => rfl
                  have hinf := info_of_underlying hdef
                  have hpart : ∀ Z : Array Value, Z.size = X.size → partV P f.type (Z.extract off (off + szP P t)) f.offset = partV P f.type Z (off + f.offset) := by
                    intro Z hZ
                    unfold partV
                    split
                    · congr 1
                      rw [Array.extract_extract]
                      congr 1 <;> omega
                    · rename_i hna
                      have hlt : f.offset < szP P t := by rcases hin2 with h | h; exact absurd h hna; exact h
                      have hh : off + f.offset < Z.size := by omega
                      have hh2 : f.offset < (Z.extract off (off + szP P t)).size := by simp; omega
                      simp only [Array.getD, hh, hh2, dif_pos]
                      exact Array.getElem_extract ..
                  have hsize : ∀ Z : Array Value, Z.size = X.size → isAggP P f.type = true ∨ f.offset < (Z.extract off (off + szP P t)).size := by
                    intro Z hZ
                    rcases hin2 with h | h
                    · exact .inl h
                    · exact .inr (by simp; omega)
                  simp only [Op.eqFields, hname, ne_eq, not_false_eq_true, if_true, Sem.run_bind, part_run w hinf hdef (hsize X rfl), part_run w hinf hdef (hsize Y hsz.symm), Result.andThen_ok]
                  rw [hpart X rfl, hpart Y hsz.symm]
                  rw [ih f.type _ l1 h1 d (by omega) X Y hsz (by omega) (by rcases hin2 with h | h; exact .inl h; exact .inr (by omega)) r1 e1 w]
                  simp only [Result.andThen_ok]
                  cases r1 with
                  | false => simp
                  | true => simp only [Bool.not_true, Bool.false_eq_true, if_false, Bool.true_and]; exact ihf l2 r2 e2 h2
            · cases h
        · cases h
      | _ => cases h

theorem agg_inv {cs : List AV} {v' : Value} (h : VR k (.agg cs) v') : ∃ cs', v' = .agg cs' ∧ VRs k cs cs'.toList := by
  cases h with
  | agg hl hr _ _ => exact ⟨_, rfl, by simpa using hl, fun i x y hx hy => hr i x y hx (by simpa using hy)⟩

theorem eqCells_at {X Y : Array Value} : ∀ (gs : List Nat) (a b : List AV) (o : Nat) (r : Bool), eqCells gs a b = some r → (∀ (i : Nat) x, a[i]? = some x → ∃ y, X[o + i]? = some y ∧ VR k x y) → (∀ (i : Nat) x, b[i]? = some x → ∃ y, Y[o + i]? = some y ∧ VR k x y) →
    gs.length = a.length ∧ eqAt X Y ((List.range' o gs.length).zip gs) = some r := by
  intro gs
  induction gs with
  | nil =>
    intro a b o r h ha hb
    cases a <;> cases b <;> simp [eqCells] at h
    subst h
    exact ⟨rfl, rfl⟩
  | cons g gs ih =>
    intro a b o r h ha hb
    cases a with
    | nil => simp [eqCells] at h
    | cons x a =>
      cases b with
      | nil => simp [eqCells] at h
      | cons y b =>
        simp only [eqCells] at h
        cases he : eqCell g x y with
        | none => rw [he] at h; cases h
        | some e =>
          rw [he] at h
          simp only [Option.bind_some] at h
          cases hr : eqCells gs a b with
          | none => rw [hr] at h; cases h
          | some r' =>
            rw [hr] at h
            simp only [Option.map_some] at h
            injection h with h; subst h
            obtain ⟨h1, h2⟩ := ih a b (o + 1) r' hr (fun i z hz => by have := ha (i + 1) z (by simpa using hz); rwa [Nat.add_assoc, Nat.add_comm 1 i])
              (fun i z hz => by have := hb (i + 1) z (by simpa using hz); rwa [Nat.add_assoc, Nat.add_comm 1 i])
            refine ⟨by simp [h1], ?_⟩
            simp only [List.length_cons, List.range'_succ, List.zip_cons_cons, eqAt]
            obtain ⟨x', hx', hxr⟩ := ha 0 x rfl
            obtain ⟨y', hy', hyr⟩ := hb 0 y rfl
            have he' : eqVal g x' y' = some e := by
              unfold eqCell at he
              split at he
              · obtain ⟨rfl, _⟩ := plain_inv hxr; obtain ⟨rfl, _⟩ := plain_inv hyr; exact he
              · cases he
            have e1 : X.getD o undef = x' := by simp at hx'; simp [Array.getD_eq_getD_getElem?, hx']
            have e2 : Y.getD o undef = y' := by simp at hy'; simp [Array.getD_eq_getD_getElem?, hy']
            rw [e1, e2, he', h2]; rfl

/-- What nilA tells. -/
theorem nilA_inv {c : EqK} {x : AV} {x' : Value} (hx : VR k x x') {b : Bool} (h : nilA c x = some b) :
    match c with
    | .ptr _ => ∃ a, x' = .pointer a ∧ b = a.isNone
    | .slice => ∃ a l cp, x' = .slice a l cp ∧ b = a.isNone
    | .map => ∃ a, x' = .map a ∧ b = a.isNone
    | .func => (x' = .nilFunc ∧ b = true) ∨ (∃ f p q, x' = .func f p q ∧ b = false)
    | .iface _ => (x' = .nilIface ∧ b = true) ∨ (∃ t v, x' = .iface t v ∧ b = false)
    | _ => False := by
  unfold nilA at h
  split at h <;> first | cases h | (injection h with h; subst h)
  · obtain ⟨rfl, _⟩ := plain_inv hx; exact ⟨none, rfl, rfl⟩
  · cases hx with | ptr => exact ⟨_, rfl, rfl⟩
  · cases hx with | pv => exact ⟨_, rfl, rfl⟩
  · obtain ⟨rfl, _⟩ := plain_inv hx; exact ⟨none, 0, 0, rfl, rfl⟩
  · cases hx with | slr => exact ⟨_, _, _, rfl, rfl⟩
  · cases hx with
    | sl => exact ⟨_, _, _, rfl, rfl⟩
    | sl0 => exact ⟨_, _, _, rfl, rfl⟩
  · obtain ⟨rfl, _⟩ := plain_inv hx; exact ⟨none, rfl, rfl⟩
  · cases hx with | mp => exact ⟨_, rfl, rfl⟩
  · obtain ⟨rfl, _⟩ := plain_inv hx; exact .inl ⟨rfl, rfl⟩
  · cases hx with
    | fnF => exact .inr ⟨_, _, _, rfl, rfl⟩
    | fnY => exact .inr ⟨_, _, _, rfl, rfl⟩
  · obtain ⟨rfl, _⟩ := plain_inv hx; exact .inl ⟨rfl, rfl⟩
  · cases hx with | iface => exact .inr ⟨_, _, rfl, rfl⟩

/-- The test for equality as the model makes it: the guard, then the comparison. -/
def eqRun (P : Program) (op : BinOp) (t : TypeId) (ox oy : Operand) (x' y' : Value) : Sem Value := do eqGuard op t ox oy x' y'; binOp op t x' y'

theorem run_eq_ptr (w : World) (d : Nat) {t e : TypeId} (hu : P.underlying t = some (.pointer e)) (a c : Option Addr) (h : a.isNone = true ∨ c.isNone = true) : (Op.equalIn (d + 1) t (.pointer a) (.pointer c)).run P w = .ok (a.isNone && c.isNone) w := by
  cases a <;> cases c <;> simp_all [Op.equalIn, underlying_run hu]
theorem run_eq_ptr2 (w : World) (d : Nat) {t e : TypeId} (hu : P.underlying t = some (.pointer e)) (hi : (P.info? e).isSome = true) (hs : szP P e ≠ 0) (b o1 o2 : Nat) : (Op.equalIn (d + 1) t (.pointer (some ⟨b, o1, none⟩)) (.pointer (some ⟨b, o2, none⟩))).run P w = .ok (o1 == o2) w := by
  have : ((⟨b, o1, none⟩ : Addr) == ⟨b, o2, none⟩) = (o1 == o2) := by
    rw [Bool.eq_iff_iff]; simp
  simp [Op.equalIn, underlying_run hu, sizeOf_run hi, hs, sameAddr, this]
theorem run_eq_slice (w : World) (d : Nat) {t e : TypeId} (hu : P.underlying t = some (.slice e)) (a c : Option Addr) (l1 l2 c1 c2 : Nat) (h : a.isNone = true ∨ c.isNone = true) : (Op.equalIn (d + 1) t (.slice a l1 c1) (.slice c l2 c2)).run P w = .ok (a.isNone && c.isNone) w := by
  cases a <;> cases c <;> simp_all [Op.equalIn, underlying_run hu]
theorem run_eq_map (w : World) (d : Nat) {t e e2 : TypeId} (hu : P.underlying t = some (.map e e2)) (a c : Option Nat) (h : a.isNone = true ∨ c.isNone = true) : (Op.equalIn (d + 1) t (.map a) (.map c)).run P w = .ok (a.isNone && c.isNone) w := by
  cases a <;> cases c <;> simp_all [Op.equalIn, underlying_run hu]
theorem run_eq_func (w : World) (d : Nat) {t : TypeId} {a b : Array TypeId} {c : Bool} (hu : P.underlying t = some (.func a b c)) {x y : Value} {r s : Bool} (hx : (x = .nilFunc ∧ r = true) ∨ (∃ f p q, x = .func f p q ∧ r = false)) (hy : (y = .nilFunc ∧ s = true) ∨ (∃ f p q, y = .func f p q ∧ s = false)) (h : r = true ∨ s = true) :
    (Op.equalIn (d + 1) t x y).run P w = .ok (r && s) w := by
  rcases hx with ⟨rfl, rfl⟩ | ⟨f, p, q, rfl, rfl⟩ <;> rcases hy with ⟨rfl, rfl⟩ | ⟨f', p', q', rfl, rfl⟩ <;> simp_all [Op.equalIn, underlying_run hu]
theorem run_eq_iface (w : World) (d : Nat) {t : TypeId} {a : Array (String × TypeId)} (hu : P.underlying t = some (.interface a)) {x y : Value} {r s : Bool} (hx : (x = .nilIface ∧ r = true) ∨ (∃ f p, x = .iface f p ∧ r = false)) (hy : (y = .nilIface ∧ s = true) ∨ (∃ f p, y = .iface f p ∧ s = false)) (h : r = true ∨ s = true) :
    (Op.equalIn (d + 1) t x y).run P w = .ok (r && s) w := by
  rcases hx with ⟨rfl, rfl⟩ | ⟨f, p, rfl, rfl⟩ <;> rcases hy with ⟨rfl, rfl⟩ | ⟨f', p', rfl, rfl⟩ <;> simp_all [Op.equalIn, underlying_run hu]

theorem eq_of_equal {t : TypeId} {x' y' : Value} {b : Bool} (ox oy : Operand) (w : World) (hg : ∀ op, (eqGuard op t ox oy x' y').run P w = .ok () w) (he : ∀ d, 8 ≤ d → (Op.equalIn (d + 1) t x' y').run P w = .ok b w)
    (hb : ∀ op, op = .eql ∨ op = .neq → binOp op t x' y' = (match op with | .eql => (do pure (.bool (← Op.equal t x' y')) : Sem Value) | _ => do pure (.bool (!(← Op.equal t x' y'))))) :
    (eqRun P .eql t ox oy x' y').run P w = .ok (.bool b) w ∧ (eqRun P .neq t ox oy x' y').run P w = .ok (.bool (!b)) w := by
  have heq : (Op.equal t x' y').run P w = .ok b w := he 9999 (by decide)
  constructor
  · simp only [eqRun, Sem.run_bind, hg, Result.andThen_ok, hb .eql (.inl rfl), heq, Sem.run_pure]
  · simp only [eqRun, Sem.run_bind, hg, Result.andThen_ok, hb .neq (.inr rfl), heq, Sem.run_pure]

theorem guard_plain (op : BinOp) (t : TypeId) (ox oy : Operand) (x y : Value) (w : World) (h : (∀ a, x ≠ .agg a) ∧ x ≠ .nilIface ∨ (∀ a, y ≠ .agg a) ∧ y ≠ .nilIface) : (eqGuard op t ox oy x y).run P w = .ok () w := by
  have key : (match x, y with
    | .nilIface, .nilIface => (do
      if (ox matches .const _) || (oy matches .const _) then return
      if ← Op.eqGuardIn Op.maxDepth t x y then unsupported (.noEntry "binop/eql: two nil values of an interface type with methods, neither of them the literal nil") : Sem Unit)
    | .agg _, .agg _ => do
      if !(← program).eqGuardType (← program).depth t then return
      if ← Op.eqGuardIn Op.maxDepth t x y then unsupported (.noEntry "binop/eql: two nil values of an interface type with methods, in a part of a struct or an array")
    | _, _ => pure ()).run P w = .ok () w := by
    split
    · rcases h with h | h <;> exact (h.2 rfl).elim
    · rcases h with h | h <;> exact (h.1 _ rfl).elim
    · exact Sem.run_pure _ _ _
  unfold eqGuard
  split
  · rw [if_neg (by simp)]; exact key
  · rw [if_neg (by simp)]; exact key
  · rw [if_pos (by simp)]; exact Sem.run_pure _ _ _

theorem guard_cst (op : BinOp) (t : TypeId) (ox oy : Operand) (w : World) (hc : (isCst ox || isCst oy) = true) : (eqGuard op t ox oy .nilIface .nilIface).run P w = .ok () w := by
  unfold eqGuard
  rcases Bool.or_eq_true _ _ |>.mp hc with hc | hc
  · cases ox with
    | const v =>
      split
      · rw [if_neg (by simp)]; simp
      · rw [if_neg (by simp)]; simp
      · rw [if_pos (by simp)]; exact Sem.run_pure _ _ _
    | _ => cases hc
  · cases oy with
    | const v =>
      split
      · rw [if_neg (by simp)]; simp
      · rw [if_neg (by simp)]; simp
      · rw [if_pos (by simp)]; exact Sem.run_pure _ _ _
    | _ => cases hc

theorem eqA_sound (hA : AnnOk P A) {t : TypeId} {ox oy : Operand} {x y : AV} {x' y' : Value} (hx : VR k x x') (hy : VR k y y') {b : Bool} (h : eqA (eqkP P A t (isCst ox || isCst oy)) x y = some b) (w : World) :
    (eqRun P .eql t ox oy x' y').run P w = .ok (.bool b) w ∧ (eqRun P .neq t ox oy x' y').run P w = .ok (.bool (!b)) w := by
  cases hu : P.underlying t with
  | none => simp [eqkP, hu, eqA] at h
  | some u =>
    -- two values each of which may be nil
    have two : ∀ (c : EqK), (nilA c x).bind (fun a => (nilA c y).bind fun b => if a = true ∨ b = true then some (a && b) else none) = some b → ∃ a1 b1, nilA c x = some a1 ∧ nilA c y = some b1 ∧ (a1 = true ∨ b1 = true) ∧ b = (a1 && b1) := by
      intro c h
      cases h1 : nilA c x with
      | none => rw [h1] at h; cases h
      | some a1 =>
        cases h2 : nilA c y with
        | none => rw [h1, h2] at h; cases h
        | some b1 =>
          rw [h1, h2] at h
          simp only [Option.bind_some] at h
          split at h
          · rename_i hc; injection h with h; exact ⟨a1, b1, rfl, rfl, hc, h.symm⟩
          · cases h
    have two' : ∀ op : BinOp, op = .eql ∨ op = .neq → True := fun _ _ => trivial
    cases u with
    | pointer e =>
      have hk : eqkP P A t (isCst ox || isCst oy) = .ptr ((P.info? e).isSome && !Nat.beq (szP P e) 0) := by simp [eqkP, hu]
      rw [hk] at h
      have nils : ∀ nz, (nilA (.ptr nz) x).bind (fun a => (nilA (.ptr nz) y).bind fun b => if a = true ∨ b = true then some (a && b) else none) = some b →
          (eqRun P .eql t ox oy x' y').run P w = .ok (.bool b) w ∧ (eqRun P .neq t ox oy x' y').run P w = .ok (.bool (!b)) w := by
        intro nz h
        obtain ⟨a1, b1, h1, h2, h3, rfl⟩ := two _ h
        obtain ⟨a, rfl, rfl⟩ := nilA_inv hx h1
        obtain ⟨c, rfl, rfl⟩ := nilA_inv hy h2
        exact eq_of_equal ox oy w (fun op => guard_plain op t ox oy _ _ w (.inl ⟨(fun a h => by cases h), (fun h => by cases h)⟩)) (fun d _ => run_eq_ptr w d hu a c h3) (fun op ho => by rcases ho with rfl | rfl <;> rfl)
      simp only [eqA] at h
      split at h
      · rename_i i o1 j o2
        split at h
        · rename_i hc
          obtain ⟨rfl, hnz⟩ := hc
          injection h with h; subst h
          rw [Bool.and_eq_true] at hnz
          cases hx with
          | ptr hl =>
            rename_i l
            cases hy with
            | ptr hl' =>
              rw [hl] at hl'; injection hl' with hl'; subst hl'
              have hsz : szP P e ≠ 0 := fun e0 => by rw [e0] at hnz; simp at hnz
              have hoff : (l.s + o1 == l.s + o2) = (o1 == o2) := by rw [Bool.eq_iff_iff]; simp
              rw [← hoff]
              exact eq_of_equal ox oy w (fun op => guard_plain op t ox oy _ _ w (.inl ⟨(fun a h => by cases h), (fun h => by cases h)⟩)) (fun d _ => run_eq_ptr2 w d hu hnz.1 hsz _ _ _) (fun op ho => by rcases ho with rfl | rfl <;> rfl)
        · cases h
      · exact nils _ h
    | slice e =>
      have hk : eqkP P A t (isCst ox || isCst oy) = .slice := by simp [eqkP, hu]
      rw [hk] at h
      obtain ⟨a1, b1, h1, h2, h3, rfl⟩ := two _ h
      obtain ⟨a, l1, c1, rfl, rfl⟩ := nilA_inv hx h1
      obtain ⟨c, l2, c2, rfl, rfl⟩ := nilA_inv hy h2
      exact eq_of_equal ox oy w (fun op => guard_plain op t ox oy _ _ w (.inl ⟨(fun a h => by cases h), (fun h => by cases h)⟩)) (fun d _ => run_eq_slice w d hu a c _ _ _ _ h3) (fun op ho => by rcases ho with rfl | rfl <;> rfl)
    | map e e2 =>
      have hk : eqkP P A t (isCst ox || isCst oy) = .map := by simp [eqkP, hu]
      rw [hk] at h
      obtain ⟨a1, b1, h1, h2, h3, rfl⟩ := two _ h
      obtain ⟨a, rfl, rfl⟩ := nilA_inv hx h1
      obtain ⟨c, rfl, rfl⟩ := nilA_inv hy h2
      exact eq_of_equal ox oy w (fun op => guard_plain op t ox oy _ _ w (.inl ⟨(fun a h => by cases h), (fun h => by cases h)⟩)) (fun d _ => run_eq_map w d hu a c h3) (fun op ho => by rcases ho with rfl | rfl <;> rfl)
    | func p q c =>
      have hk : eqkP P A t (isCst ox || isCst oy) = .func := by simp [eqkP, hu]
      rw [hk] at h
      obtain ⟨a1, b1, h1, h2, h3, rfl⟩ := two _ h
      have f1 := nilA_inv hx h1
      have f2 := nilA_inv hy h2
      refine eq_of_equal ox oy w (fun op => guard_plain op t ox oy _ _ w (.inl ?_)) (fun d _ => run_eq_func w d hu f1 f2 h3) (fun op ho => ?_)
      · rcases f1 with ⟨rfl, _⟩ | ⟨f, p, q, rfl, _⟩ <;> exact ⟨(fun a h => by cases h), (fun h => by cases h)⟩
      · rcases f1 with ⟨rfl, _⟩ | ⟨f, p, q, rfl, _⟩ <;> rcases f2 with ⟨rfl, _⟩ | ⟨f', p', q', rfl, _⟩ <;> rcases ho with rfl | rfl <;> rfl
    | interface ms =>
      have hk : eqkP P A t (isCst ox || isCst oy) = .iface (isCst ox || isCst oy) := by simp [eqkP, hu]
      rw [hk] at h
      simp only [eqA] at h
      cases h1 : nilA (.iface (isCst ox || isCst oy)) x with
      | none => rw [h1] at h; cases h
      | some a1 =>
        cases h2 : nilA (.iface (isCst ox || isCst oy)) y with
        | none => rw [h1, h2] at h; cases h
        | some b1 =>
          rw [h1, h2] at h
          simp only [Option.bind_some] at h
          have f1 := nilA_inv hx h1
          have f2 := nilA_inv hy h2
          have h3 : (a1 = true ∨ b1 = true) ∧ b = (a1 && b1) ∧ (a1 = true → b1 = true → (isCst ox || isCst oy) = true) := by
            split at h
            · rename_i hc
              split at h
              · rename_i hcst
                injection h with h; subst h
                exact ⟨.inl hc.1, by rw [hc.1, hc.2]; rfl, fun _ _ => hcst⟩
              · cases h
            · rename_i hc
              split at h
              · rename_i hor
                injection h with h; subst h
                refine ⟨hor, ?_, fun e1 e2 => absurd ⟨e1, e2⟩ hc⟩
                cases a1 <;> cases b1 <;> simp_all
              · cases h
          obtain ⟨h3, rfl, hcst⟩ := h3
          refine eq_of_equal ox oy w (fun op => ?_) (fun d _ => run_eq_iface w d hu f1 f2 h3) (fun op ho => ?_)
          · rcases f1 with ⟨rfl, rfl⟩ | ⟨f, p, rfl, rfl⟩
            · rcases f2 with ⟨rfl, rfl⟩ | ⟨f', p', rfl, rfl⟩
              · exact guard_cst op t ox oy w (hcst rfl rfl)
              · exact guard_plain op t ox oy _ _ w (.inr ⟨(fun a h => by cases h), (fun h => by cases h)⟩)
            · exact guard_plain op t ox oy _ _ w (.inl ⟨(fun a h => by cases h), (fun h => by cases h)⟩)
          · rcases f1 with ⟨rfl, _⟩ | ⟨f, p, rfl, _⟩ <;> rcases f2 with ⟨rfl, _⟩ | ⟨f', p', rfl, _⟩ <;> rcases ho with rfl | rfl <;> rfl
    | struct fs =>
      cases hg : (A.eqs.find? fun x => Nat.beq x.1 t).map (·.2) with
      | none => simp [eqkP, hu, hg, eqA] at h
      | some gs =>
        have hk : eqkP P A t (isCst ox || isCst oy) = .cells gs := by simp [eqkP, hu, hg]
        rw [hk] at h
        have hty := hA.eqs t gs hg
        simp only [eqTy, Bool.and_eq_true, decide_eq_true_eq] at hty
        obtain ⟨⟨⟨hls, hgl⟩, hgt⟩, hagg⟩ := hty
        have hgt : P.eqGuardType P.depth t = false := by simpa using hgt
        simp only [eqA] at h
        split at h
        · rename_i a c
          obtain ⟨X, rfl, hX⟩ := agg_inv hx
          obtain ⟨Y, rfl, hY⟩ := agg_inv hy
          obtain ⟨hl1, hat⟩ := eqCells_at gs a c 0 b h (fun i x hx => by obtain ⟨y, hy, hr⟩ := hX.get hx; exact ⟨y, by simpa using hy, hr⟩) (fun i x hx => by obtain ⟨y, hy, hr⟩ := hY.get hx; exact ⟨y, by simpa using hy, hr⟩)
          have hlen : ∀ (gs : List Nat) (a b : List AV) (r : Bool), eqCells gs a b = some r → a.length = b.length := by
            intro gs
            induction gs with
            | nil => intro a b r h; cases a <;> cases b <;> simp_all [eqCells]
            | cons g gs ih =>
              intro a b r h
              cases a with
              | nil => simp [eqCells] at h
              | cons x a =>
                cases b with
                | nil => simp [eqCells] at h
                | cons y b =>
                  simp only [eqCells] at h
                  cases he : eqCell g x y with
                  | none => rw [he] at h; cases h
                  | some e =>
                    rw [he] at h
                    simp only [Option.bind_some] at h
                    cases hr : eqCells gs a b with
                    | none => rw [hr] at h; cases h
                    | some r' => simp [ih a b r' hr]
          have hac := hlen gs a c b h
          have hXs : X.size = szP P t := by rw [← hgl, hl1, hX.1]; exact Array.length_toList.symm
          have hYs : Y.size = X.size := by
            have h1 : Y.size = c.length := by rw [hY.1]; exact Array.length_toList.symm
            have h2 : X.size = a.length := by rw [hX.1]; exact Array.length_toList.symm
            omega
          have hpx : partV P t X 0 = .agg X := by simp [partV, hagg, ← hXs]
          have hpy : partV P t Y 0 = .agg Y := by simp [partV, hagg, ← hXs, ← hYs]
          have hat' : eqAt X Y ((List.range (szP P t)).zip gs) = some b := by rw [← hgl, List.range_eq_range']; exact hat
          refine eq_of_equal ox oy w (fun op => run_eqGuard_agg w op t ox oy X Y hgt) (fun d hd => ?_) (fun op ho => by rcases ho with rfl | rfl <;> rfl)
          have := leaves_run 8 t 0 _ hls (d + 1) (by omega) X Y hYs.symm (by omega) (.inl hagg) b hat' w
          rwa [hpx, hpy] at this
        · cases h
    | _ => simp [eqkP, hu, eqA] at h

end Go.Proofs.Ytkcamjcicegclaa.V

/- V, part J: the operators, minima and maxima, lengths and capacities of V, met by the model's. Conditions: none. -/
namespace Go.Proofs.Ytkcamjcicegclaa.V
open Go

variable {P : Program} {A : Ann} {k : KW} {H : AH}

theorem binInt_plain {op : BinOp} {kk : IntKind} {x y : Int} {v : Value} (h : binInt op kk x y = some v) : plain v = true := by
  cases op <;> simp only [binInt] at h <;> first
    | (injection h with h; subst h; rfl)
    | (split at h
       · cases h
       · injection h with h; subst h; rfl)
    | cases h
theorem shV_plain {op : BinOp} {kk : IntKind} {x y : Int} {v : Value} (h : shV op kk x y = some v) : plain v = true := by
  simp only [shV] at h
  split at h
  · cases h
  · cases op <;> first | (injection h with h; subst h; rfl) | cases h
theorem binStr_plain {op : BinOp} {x y : ByteArray} {v : Value} (h : binStr op x y = some v) : plain v = true := by
  cases op <;> simp only [binStr] at h <;> first
    | (injection h with h; subst h; rfl)
    | (split at h
       · injection h with h; subst h; rfl
       · cases h)
    | cases h

theorem eqRun_plain {op : BinOp} {t : TypeId} {ox oy : Operand} {x y v : Value} {w : World} (h : (∀ a, x ≠ .agg a) ∧ x ≠ .nilIface) (hb : (binOp op t x y).run P w = .ok v w) : (eqRun P op t ox oy x y).run P w = .ok v w := by
  simp only [eqRun, Sem.run_bind, guard_plain op t ox oy x y w (.inl h), Result.andThen_ok, hb]

theorem run_eq_bool (w : World) (d : Nat) {t : TypeId} (hu : P.underlying t = some .bool) (a b : Bool) : (Op.equalIn (d + 1) t (.bool a) (.bool b)).run P w = .ok (a == b) w := by
  simp [Op.equalIn, underlying_run hu]

theorem eqk_bool {t : TypeId} {c : Bool} (h : eqkP P A t c = .bool) : P.underlying t = some .bool := by
  unfold eqkP at h
  split at h <;> first | assumption | cases h | (split at h <;> cases h)

theorem binA_sound (hA : AnnOk P A) {op : BinOp} {t : TypeId} {ox oy : Operand} {x y r : AV} {x' y' : Value} (hx : VR k x x') (hy : VR k y y') (h : binA (eqkP P A t (isCst ox || isCst oy)) op x y = some r) (w : World) :
    ∃ r', (eqRun P op t ox oy x' y').run P w = .ok r' w ∧ VR k r r' := by
  unfold binA at h
  split at h
  · obtain ⟨v, hv, rfl⟩ := Option.map_eq_some_iff.1 h
    obtain ⟨rfl, _⟩ := plain_inv hx
    obtain ⟨rfl, _⟩ := plain_inv hy
    exact ⟨v, eqRun_plain ⟨(fun a h => by cases h), (fun h => by cases h)⟩ (shV_run w t (.inl rfl) hv), .s (shV_plain hv)⟩
  · obtain ⟨v, hv, rfl⟩ := Option.map_eq_some_iff.1 h
    obtain ⟨rfl, _⟩ := plain_inv hx
    obtain ⟨rfl, _⟩ := plain_inv hy
    exact ⟨v, eqRun_plain ⟨(fun a h => by cases h), (fun h => by cases h)⟩ (shV_run w t (.inr rfl) hv), .s (shV_plain hv)⟩
  · split at h
    · rename_i hk
      subst hk
      obtain ⟨v, hv, rfl⟩ := Option.map_eq_some_iff.1 h
      obtain ⟨rfl, _⟩ := plain_inv hx
      obtain ⟨rfl, _⟩ := plain_inv hy
      exact ⟨v, eqRun_plain ⟨(fun a h => by cases h), (fun h => by cases h)⟩ (binInt_run w t hv), .s (binInt_plain hv)⟩
    · cases h
  · obtain ⟨v, hv, rfl⟩ := Option.map_eq_some_iff.1 h
    obtain ⟨rfl, _⟩ := plain_inv hx
    obtain ⟨rfl, _⟩ := plain_inv hy
    exact ⟨v, eqRun_plain ⟨(fun a h => by cases h), (fun h => by cases h)⟩ (binStr_run w t hv), .s (binStr_plain hv)⟩
  · split at h
    · rename_i a b hk
      injection h with h; subst h
      obtain ⟨rfl, _⟩ := plain_inv hx
      obtain ⟨rfl, _⟩ := plain_inv hy
      exact ⟨_, (eq_of_equal ox oy w (fun op => guard_plain op t ox oy _ _ w (.inl ⟨(fun a h => by cases h), (fun h => by cases h)⟩)) (fun d _ => run_eq_bool w d (eqk_bool hk) _ _) (fun op ho => by rcases ho with rfl | rfl <;> rfl)).1, .s rfl⟩
    · cases h
  · split at h
    · rename_i a b hk
      injection h with h; subst h
      obtain ⟨rfl, _⟩ := plain_inv hx
      obtain ⟨rfl, _⟩ := plain_inv hy
      exact ⟨_, (eq_of_equal ox oy w (fun op => guard_plain op t ox oy _ _ w (.inl ⟨(fun a h => by cases h), (fun h => by cases h)⟩)) (fun d _ => run_eq_bool w d (eqk_bool hk) _ _) (fun op ho => by rcases ho with rfl | rfl <;> rfl)).2, .s rfl⟩
    · cases h
  · obtain ⟨b, hv, rfl⟩ := Option.map_eq_some_iff.1 h
    exact ⟨_, (eqA_sound hA hx hy hv w).1, .s rfl⟩
  · obtain ⟨b, hv, rfl⟩ := Option.map_eq_some_iff.1 h
    exact ⟨_, (eqA_sound hA hx hy hv w).2, .s rfl⟩
  · cases h

theorem unA_sound {op : UnOp} {x r : AV} {x' : Value} (hx : VR k x x') (h : unA op x = some r) (w : World) : ∃ r', (Op.unary op x').run P w = .ok r' w ∧ VR k r r' := by
  unfold unA at h
  split at h
  · injection h with h; subst h
    obtain ⟨rfl, _⟩ := plain_inv hx
    exact ⟨_, Sem.run_pure _ _ _, .s rfl⟩
  · obtain ⟨v, hv, rfl⟩ := Option.map_eq_some_iff.1 h
    obtain ⟨rfl, _⟩ := plain_inv hx
    refine ⟨v, ?_, .s (binInt_plain hv)⟩
    have := binInt_run (P := P) w 0 hv
    simpa [binOp, Op.unary] using this
  · injection h with h; subst h
    obtain ⟨rfl, _⟩ := plain_inv hx
    exact ⟨_, Sem.run_pure _ _ _, .s rfl⟩
  · cases h

theorem min2A_sound {x y r : AV} {x' y' : Value} (hx : VR k x x') (hy : VR k y y') (h : min2A x y = some r) (w : World) : ∃ r', (Builtin.min2 x' y').run P w = .ok r' w ∧ VR k r r' := by
  unfold min2A at h
  split at h
  · split at h
    · injection h with h; subst h
      obtain ⟨rfl, _⟩ := plain_inv hx
      obtain ⟨rfl, _⟩ := plain_inv hy
      exact ⟨_, Sem.run_pure _ _ _, .s rfl⟩
    · cases h
  · cases h
theorem max2A_sound {x y r : AV} {x' y' : Value} (hx : VR k x x') (hy : VR k y y') (h : max2A x y = some r) (w : World) : ∃ r', (Builtin.max2 x' y').run P w = .ok r' w ∧ VR k r r' := by
  unfold max2A at h
  split at h
  · split at h
    · injection h with h; subst h
      obtain ⟨rfl, _⟩ := plain_inv hx
      obtain ⟨rfl, _⟩ := plain_inv hy
      exact ⟨_, Sem.run_pure _ _ _, .s rfl⟩
    · cases h
  · cases h
theorem fold2_sound (w : World) {f : AV → AV → Option AV} {g : Value → Value → Sem Value} (hf : ∀ x y r x' y', VR k x x' → VR k y y' → f x y = some r → ∃ r', (g x' y').run P w = .ok r' w ∧ VR k r r') :
    ∀ (ys : List AV) (x r : AV) (x' : Value) (ys' : List Value), VR k x x' → VRs k ys ys' → fold2 f x ys = some r → ∃ r', (ys'.foldlM g x').run P w = .ok r' w ∧ VR k r r'
  | [], x, r, x', ys', hx, hys, h => by
    cases ys' with
    | cons _ _ => exact absurd hys.1 (by simp)
    | nil =>
      injection h with h; subst h
      exact ⟨x', Sem.run_pure _ _ _, hx⟩
  | y :: ys, x, r, x', ys', hx, hys, h => by
    cases ys' with
    | nil => exact absurd hys.1 (by simp)
    | cons y' ys' =>
      obtain ⟨hy, hys⟩ := hys.head
      simp only [fold2] at h
      obtain ⟨z, hz, h⟩ := Option.bind_eq_some_iff.1 h
      obtain ⟨z', hz', hr⟩ := hf _ _ _ _ _ hx hy hz
      obtain ⟨r', h1, h2⟩ := fold2_sound w hf ys z r z' ys' hr hys h
      exact ⟨r', by simp only [List.foldlM_cons, Sem.run_bind, hz', Result.andThen_ok, h1], h2⟩
theorem minA_sound {xs : List AV} {r : AV} {xs' : Array Value} (hx : VRs k xs xs'.toList) (h : minA xs = some r) (a : Array TypeId) (t : TypeId) (w : World) : ∃ r', (Builtin.min_ a t xs').run P w = .ok r' w ∧ VR k r r' := by
  unfold minA at h
  split at h
  · cases h
  · unfold Builtin.min_
    generalize xs'.toList = l at hx
    cases l with
    | nil => exact absurd hx.1 (by simp)
    | cons y l => exact fold2_sound w (fun x y r x' y' hx hy h => min2A_sound hx hy h w) _ _ _ _ _ hx.head.1 hx.head.2 h
theorem maxA_sound {xs : List AV} {r : AV} {xs' : Array Value} (hx : VRs k xs xs'.toList) (h : maxA xs = some r) (a : Array TypeId) (t : TypeId) (w : World) : ∃ r', (Builtin.max_ a t xs').run P w = .ok r' w ∧ VR k r r' := by
  unfold maxA at h
  split at h
  · cases h
  · unfold Builtin.max_
    generalize xs'.toList = l at hx
    cases l with
    | nil => exact absurd hx.1 (by simp)
    | cons y l => exact fold2_sound w (fun x y r x' y' hx hy h => max2A_sound hx hy h w) _ _ _ _ _ hx.head.1 hx.head.2 h

theorem strIdx_sound {x i r : AV} {x' i' : Value} (hx : VR k x x') (hi : VR k i i') {t : TypeId} (ht : P.underlying t = some .string) (h : strIdx x i = some r) (w : World) : ∃ r', (Instr.index t x' i').run P w = .ok r' w ∧ VR k r r' := by
  unfold strIdx at h
  split at h
  · split at h
    · rename_i b kk i hb
      obtain ⟨rfl, _⟩ := plain_inv hx
      obtain ⟨rfl, _⟩ := plain_inv hi
      obtain ⟨c, hc, rfl⟩ := Option.map_eq_some_iff.1 h
      refine ⟨.int .u8 c.toNat, ?_, .s rfl⟩
      simp [Instr.index, asIntOf, underlying_run ht, hb.1, hc]
    · cases h
  · cases h

theorem agg_inv' {cs : List AV} {v' : Value} (h : VR k (.agg cs) v') : ∃ cs', v' = .agg cs' ∧ VRs k cs cs'.toList ∧ (∀ x ∈ cs, x.one = true) ∧ ∀ y ∈ cs', y.oneCell' = true := by
  cases h with
  | agg hl hr h1 h2 =>
    refine ⟨_, rfl, ⟨by simpa using hl, fun i x y hx hy => hr i x y hx (by simpa using hy)⟩, fun x hx => ?_, fun y hy => ?_⟩
    · obtain ⟨i, hi⟩ := List.getElem?_of_mem hx; exact h1 i x hi
    · obtain ⟨i, hi⟩ := Array.getElem?_of_mem hy; exact h2 i y hi

theorem aggAt_sound {x r : AV} {x' : Value} (hx : VR k x x') {t : TypeId} {off : Nat} (hu : (P.underlying t).isSome = true) (h : aggAt (szP P t) (isAggP P t) x off = some r) (w : World) :
    ∃ X r', x' = .agg X ∧ (part t X off).run P w = .ok r' w ∧ VR k r r' := by
  unfold aggAt at h
  split at h
  · rename_i cs
    obtain ⟨X, rfl, hX, hc, hd⟩ := agg_inv' hx
    refine ⟨X, partV P t X off, rfl, ?_, ?_⟩
    · apply part_run w (info_of_underlying hu) hu
      split at h
      · rename_i ha; exact .inl ha
      · right
        have := (List.getElem?_eq_some_iff.1 h).1
        rw [hX.1] at this
        simpa using this
    · unfold partV
      split at h
      · rename_i ha
        injection h with h; subst h
        rw [if_pos ha]
        have hv : VRs k ((cs.drop off).take (szP P t)) (X.extract off (off + szP P t)).toList := by
          have := (hX.drop off).take (szP P t)
          simpa [Array.toList_extract, List.extract_eq_take_drop] using this
        refine .agg (by rw [hv.1]; exact Array.length_toList) (fun i x y hx hy => hv.2 i x y hx (by rw [Array.getElem?_toList]; exact hy)) (fun i x hx => hc x (List.mem_of_mem_drop (List.mem_of_mem_take (List.mem_of_getElem? hx)))) (fun i y hy => hd y ?_)
        have hy := Array.mem_of_getElem? hy
        have := Array.mem_toList_iff.2 hy
        rw [Array.toList_extract, List.extract_eq_take_drop] at this
        exact Array.mem_toList_iff.1 (List.mem_of_mem_drop (List.mem_of_mem_take this))
      · rename_i ha
        rw [if_neg ha]
        obtain ⟨y, hy, hr⟩ := hX.get h
        have hy : X[off]? = some y := by simpa using hy
        rw [Array.getD_eq_getD_getElem?, hy]
        exact hr
  · cases h

theorem arrIdx_sound {x i r : AV} {x' i' : Value} (hx : VR k x x') (hi : VR k i i') {t e : TypeId} {n : Nat} (ht : P.underlying t = some (.array n e)) (hu : (P.underlying e).isSome = true) (h : arrIdx (szP P e) (isAggP P e) n x i = some r) (w : World) :
    ∃ r', (Instr.index t x' i').run P w = .ok r' w ∧ VR k r r' := by
  unfold arrIdx at h
  split at h
  · split at h
    · rename_i kk i hb
      obtain ⟨rfl, _⟩ := plain_inv hi
      obtain ⟨X, r', rfl, h1, h2⟩ := aggAt_sound hx hu h w
      refine ⟨r', ?_, h2⟩
      simp [Instr.index, asIntOf, underlying_run ht, hb, sizeOf_run (info_of_underlying hu), h1]
    · cases h
  · cases h

theorem field_sound {x r : AV} {x' : Value} (hx : VR k x x') {t : TypeId} {fs : Array Field} {i : Nat} {f : Field} (ht : P.underlying t = some (.struct fs)) (hf : fs[i]? = some f) (hu : (P.underlying f.type).isSome = true) (h : aggAt (szP P f.type) (isAggP P f.type) x f.offset = some r) (w : World) :
    ∃ r', (Instr.field t x' i).run P w = .ok r' w ∧ VR k r r' := by
  obtain ⟨X, r', rfl, h1, h2⟩ := aggAt_sound hx hu h w
  refine ⟨r', ?_, h2⟩
  simp [Instr.field, asAgg, underlying_run ht, hf, h1]

theorem tup_inv {vs : List AV} {x' : Value} (hx : VR k (.tup vs) x') : ∃ X, x' = .tuple X ∧ VRs k vs X.toList := by
  cases hx with
  | tup hl hr => exact ⟨_, rfl, by simpa using hl, fun i x y hx hy => hr i x y hx (by simpa using hy)⟩

theorem tupAt_sound {x r : AV} {x' : Value} (hx : VR k x x') {i : Nat} (h : tupAt x i = some r) (w : World) : ∃ r', (Instr.extract x' i).run P w = .ok r' w ∧ VR k r r' := by
  unfold tupAt at h
  split at h
  · obtain ⟨X, rfl, hX⟩ := tup_inv hx
    obtain ⟨y, hy, hr⟩ := hX.get h
    have hy : X[i]? = some y := by simpa using hy
    exact ⟨y, by simp [Instr.extract, hy], hr⟩
  · cases h

theorem assertA_sound {x r : AV} {x' : Value} (hx : VR k x x') {xt asserted : TypeId} {ok : Bool} {d : TypeDesc} (ht : P.underlying asserted = some d) (hd : ∀ ms, d ≠ .interface ms) (h : assertA asserted (zeroP P asserted) ok x = some r) (w : World) :
    ∃ r', (Instr.typeAssert x' xt asserted ok).run P w = .ok r' w ∧ VR k r r' := by
  have pair : ∀ {a : AV} {a' : Value} (b : Bool), VR k a a' → VR k (.tup [a, .s (.bool b)]) (.tuple #[a', .bool b]) := by
    intro a a' b ha
    have := VRs.cons ha (VRs.cons (.s rfl : VR k (.s (.bool b)) (.bool b)) (VRs.nil k))
    exact .tup this.1 (fun i x y hx hy => this.2 i x y hx (by simpa using hy))
  unfold assertA at h
  split at h
  · rename_i t v
    cases hx with
    | iface hv =>
      rename_i v'
      split at h
      · rename_i e
        injection h with h; subst h
        refine ⟨if ok then .tuple #[v', .bool true] else v', ?_, ?_⟩
        · unfold Instr.typeAssert
          simp only [Sem.run_bind, underlying_run ht, Result.andThen_ok]
          cases d <;> first | exact absurd rfl (hd _) | simp [e]
        · cases ok
          · exact hv
          · exact pair true hv
      · rename_i e
        split at h
        · rename_i hok
          obtain ⟨z, hz, rfl⟩ := Option.map_eq_some_iff.1 h
          refine ⟨.tuple #[z, .bool false], ?_, pair false (absC_sound z)⟩
          unfold Instr.typeAssert
          simp only [Sem.run_bind, underlying_run ht, Result.andThen_ok]
          cases d <;> first | exact absurd rfl (hd _) | simp [e, hok, zeroValue_run hz]
        · cases h
  · obtain ⟨rfl, _⟩ := plain_inv hx
    split at h
    · rename_i hok
      obtain ⟨z, hz, rfl⟩ := Option.map_eq_some_iff.1 h
      refine ⟨.tuple #[z, .bool false], ?_, pair false (absC_sound z)⟩
      unfold Instr.typeAssert
      simp only [Sem.run_bind, underlying_run ht, Result.andThen_ok]
      cases d <;> first | exact absurd rfl (hd _) | simp [hok, zeroValue_run hz]
    · cases h
  · cases h

theorem toInt_sound {x r : AV} {x' : Value} (hx : VR k x x') {kk : IntKind} {src dst : TypeId} {d : TypeDesc} (hs : P.underlying src = some d) (hd : P.underlying dst = some (.int kk)) (h : toInt kk x = some r) (w : World) :
    ∃ r', (convert src dst x').run P w = .ok r' w ∧ VR k r r' := by
  unfold toInt at h
  split at h
  · injection h with h; subst h
    obtain ⟨rfl, _⟩ := plain_inv hx
    refine ⟨_, ?_, .s rfl⟩
    unfold convert
    simp only [Sem.run_bind, underlying_run hs, underlying_run hd, Result.andThen_ok]
    exact Sem.run_pure _ _ _
  · cases h

theorem asStr_sound {x r : AV} {x' : Value} (hx : VR k x x') {src dst : TypeId} (hs : P.underlying src = some .string) (hd : P.underlying dst = some .string) (h : asStr x = some r) (w : World) :
    ∃ r', (convert src dst x').run P w = .ok r' w ∧ VR k r r' := by
  unfold asStr at h
  split at h
  · injection h with h; subst h
    obtain ⟨rfl, _⟩ := plain_inv hx
    refine ⟨_, ?_, .s rfl⟩
    unfold convert
    simp only [Sem.run_bind, underlying_run hs, underlying_run hd, Result.andThen_ok]
    exact Sem.run_pure _ _ _
  · cases h

theorem lenV_sound {x r : AV} {x' : Value} (hx : VR k x x') (h : lenV x = some r) {as : Array TypeId} {t e : TypeId} (hat : as[0]? = some t) (ht : P.underlying t = some (.slice e)) (ty : TypeId) {xs' : Array Value} (h0 : xs'[0]? = some x') (w : World) :
    ∃ r', (Builtin.len_ as ty xs').run P w = .ok r' w ∧ VR k r r' := by
  have : ∃ a m c, x' = .slice a m c ∧ r = .s (.int .i64 (m : Int)) := by
    unfold lenV at h
    split at h
    · injection h with h; subst h
      cases hx with
      | slr => exact ⟨_, _, _, rfl, rfl⟩
    · injection h with h; subst h
      cases hx with
      | sl0 => exact ⟨_, _, _, rfl, rfl⟩
      | sl => exact ⟨_, _, _, rfl, rfl⟩
    · injection h with h; subst h
      obtain ⟨rfl, _⟩ := plain_inv hx
      exact ⟨_, _, _, rfl, rfl⟩
    · cases h
  obtain ⟨a, m, c, rfl, rfl⟩ := this
  exact ⟨goInt m, by simp [Builtin.len_, hat, h0, underlying_run ht], .s rfl⟩

theorem lenS_sound {x r : AV} {x' : Value} (hx : VR k x x') (h : lenS x = some r) {as : Array TypeId} {t : TypeId} (hat : as[0]? = some t) (ht : P.underlying t = some .string) (ty : TypeId) {xs' : Array Value} (h0 : xs'[0]? = some x') (w : World) :
    ∃ r', (Builtin.len_ as ty xs').run P w = .ok r' w ∧ VR k r r' := by
  unfold lenS at h
  split at h
  · rename_i b
    injection h with h; subst h
    obtain ⟨rfl, _⟩ := plain_inv hx
    exact ⟨goInt b.size, by simp [Builtin.len_, hat, h0, underlying_run ht], .s rfl⟩
  · cases h

theorem len_array {x' : Value} {as : Array TypeId} {t e : TypeId} {n : Nat} (hat : as[0]? = some t) (ht : P.underlying t = some (.array n e)) (ty : TypeId) {xs' : Array Value} (h0 : xs'[0]? = some x') (w : World) :
    (Builtin.len_ as ty xs').run P w = .ok (.int .i64 n) w := by
  simp [Builtin.len_, hat, h0, underlying_run ht, goInt]

theorem capV_sound {x r : AV} {x' : Value} (hx : VR k x x') (h : capV x = some r) {as : Array TypeId} {t e : TypeId} (hat : as[0]? = some t) (ht : P.underlying t = some (.slice e)) (ty : TypeId) {xs' : Array Value} (h0 : xs'[0]? = some x') (w : World) :
    ∃ r', (Builtin.cap_ as ty xs').run P w = .ok r' w ∧ VR k r r' := by
  have : ∃ a m c, x' = .slice a m c ∧ r = .s (.int .i64 (c : Int)) := by
    unfold capV at h
    split at h
    · injection h with h; subst h
      cases hx with
      | slr hl hc hle hn ha => exact ⟨_, _, _, rfl, by rw [hc _ rfl]⟩
    · injection h with h; subst h
      cases hx with
      | sl0 hf => exact ⟨_, _, _, rfl, by simp_all⟩
      | sl f hI hc hr hf hle => exact ⟨_, _, _, rfl, by simp_all⟩
    · injection h with h; subst h
      obtain ⟨rfl, _⟩ := plain_inv hx
      exact ⟨_, _, _, rfl, rfl⟩
    · cases h
  obtain ⟨a, m, c, rfl, rfl⟩ := this
  exact ⟨goInt c, by simp [Builtin.cap_, hat, h0, underlying_run ht], .s rfl⟩

end Go.Proofs.Ytkcamjcicegclaa.V

/- V, part K: loads, stores and slice expressions of V, met by the model's. Conditions: none. -/
namespace Go.Proofs.Ytkcamjcicegclaa.V
open Go

variable {P : Program} {A : Ann} {k : KW} {H : AH}

/-! ### Loads and stores -/
theorem ldA_run (hS : Sim P A k H) {a r : AV} {a' : Value} {t : TypeId} (hu : (P.underlying t).isSome = true) (hag : isAggP P t = true) (ha : VR k a a') (h : ldA H (szP P t) a = some r) :
    ∃ ad r', a' = .pointer (some ad) ∧ (loadVar t ad).run P k.w = .ok r' k.w ∧ VR k r r' := by
  obtain ⟨cells, hc, rfl⟩ := Option.map_eq_some_iff.1 h
  obtain ⟨ad, vs, rfl, hl, hv, h1, h2⟩ := ldCells_sound hS ha hc
  refine ⟨ad, .agg vs, rfl, ?_, .agg (by rw [hv.1]; exact Array.length_toList) (fun i x y hx hy => hv.2 i x y hx (by rw [Array.getElem?_toList]; exact hy)) h1 h2⟩
  simp [loadVar, isAgg_run hu, hag, sizeOf_run (info_of_underlying hu), hl]

theorem ld1_run (hS : Sim P A k H) {a r : AV} {a' : Value} {t : TypeId} (hu : (P.underlying t).isSome = true) (hag : isAggP P t = false) (ha : VR k a a') (h : ld1 H a = some r) :
    ∃ ad r', a' = .pointer (some ad) ∧ (loadVar t ad).run P k.w = .ok r' k.w ∧ VR k r r' := by
  obtain ⟨ad, v', rfl, hc, _, _, hv⟩ := ld1_sound hS ha h
  refine ⟨ad, v', rfl, ?_, hv⟩
  simp [loadVar, isAgg_run hu, hag, load, Sem.run, hc]

theorem stA_run (hS : Sim P A k H) {a v : AV} {a' v' : Value} {t : TypeId} {H' : AH} (hu : (P.underlying t).isSome = true) (ha : VR k a a') (hv : VR k v v') (h : stA (szP P t) H a v = some H') :
    ∃ ad w', a' = .pointer (some ad) ∧ (storeVar t ad v').run P k.w = .ok () w' ∧ KLe k ⟨k.L, k.I, w'⟩ ∧ Sim P A ⟨k.L, k.I, w'⟩ H' := by
  unfold stA at h
  split at h
  · rename_i hn
    have hone : v.cells.all AV.one = true := by
      unfold stCells at h
      split at h
      · split at h
        · split at h
          · rename_i hc; exact hc.2
          · cases h
        · cases h
      · cases h
    obtain ⟨hc, h1⟩ := cells_sound hv hone
    obtain ⟨ad, w', rfl, hr, hle, hS'⟩ := stCells_sound hS ha hc h1 h
    refine ⟨ad, w', rfl, ?_, hle, hS'⟩
    have hsz : v'.cells.size = szP P t := by rw [← hn, hc.1]; exact Array.length_toList.symm
    simp [storeVar, sizeOf_run (info_of_underlying hu), hsz, hr]
  · cases h

/-! ### Slice expressions -/
theorem slcStr_sound (w : World) {x r : AV} {lo hi : Option AV} {x' : Value} {lo' hi' : Option Value} {t : TypeId} (hx : VR k x x') (hlo : VRo k lo lo') (hhi : VRo k hi hi') (ht : P.underlying t = some .string) (h : slcStr x lo hi = some r) :
    ∃ v', (Instr.sliceAt t x' lo' hi' none).run P w = .ok v' w ∧ VR k r v' := by
  unfold slcStr at h
  split at h
  · rename_i b
    obtain ⟨l, h1, h⟩ := Option.bind_eq_some_iff.1 h
    obtain ⟨hh, h2, h⟩ := Option.bind_eq_some_iff.1 h
    split at h
    · rename_i hc
      injection h with h; subst h
      obtain ⟨rfl, _⟩ := plain_inv hx
      have hb := bounds_none (P := P) w hlo hhi false h1 h2 hc.1 hc.2.1 hc.2.2
      refine ⟨.string (b.extract l.toNat hh.toNat), ?_, .s rfl⟩
      unfold Instr.sliceAt Instr.slice
      simp [underlying_run ht, hb]
    · cases h
  · cases h

theorem slcArr_sound (w : World) {x r : AV} {lo hi mx : Option AV} {x' : Value} {lo' hi' mx' : Option Value} {sz n : Nat} {t e : TypeId} (hx : VR k x x') (hlo : VRo k lo lo') (hhi : VRo k hi hi') (hmx : VRo k mx mx') (ht : P.underlying t = some (.array n e)) (he : szP P e = sz) (hie : (P.info? e).isSome = true)
    (h : slcArr sz n x lo hi mx = some r) : ∃ v', (Instr.sliceAt t x' lo' hi' mx').run P w = .ok v' w ∧ VR k r v' := by
  unfold slcArr at h
  split at h
  · rename_i id off
    cases hx with
    | ptr hl =>
      rename_i l0
      have key : ∀ l hh m : Nat, l ≤ hh → hh ≤ m → (Instr.sliceBounds false n n lo' hi' mx').run P w = .ok (l, hh, m) w →
          ∃ v', (Instr.sliceAt t (.pointer (some ⟨l0.b, l0.s + off, none⟩)) lo' hi' mx').run P w = .ok v' w ∧ VR k (.slr id (off + l * sz) (hh - l) sz (some (m - l))) v' := by
        intro l hh m hlh hhm hb
        refine ⟨.slice (some (if m = l then ⟨l0.b, l0.s + off, none⟩ else Addr.add ⟨l0.b, l0.s + off, none⟩ (l * sz))) (hh - l) (m - l), ?_, ?_⟩
        · unfold Instr.sliceAt
          simp [underlying_run ht, Instr.sureAddr, hb, sizeOf_run hie, he]
        · refine .slr hl (fun x hx => by injection hx) (by omega) (fun h => by cases h) (fun hpos => ?_)
          rw [if_neg (by omega)]
          simp [Addr.add, Nat.add_assoc]
      obtain ⟨l, h1, h⟩ := Option.bind_eq_some_iff.1 h
      split at h
      · obtain ⟨hh, h2, h⟩ := Option.bind_eq_some_iff.1 h
        split at h
        · rename_i hc
          injection h with h; subst h
          cases mx' with
          | some v => cases hmx
          | none =>
            have hb := bounds_none (P := P) w hlo hhi false (cap := n) h1 h2 hc.1 hc.2.1 hc.2.2
            have := key l.toNat hh.toNat n (by omega) (by omega) hb
            rwa [toNat_sub' _ _ hc.1 hc.2.1]
        · cases h
      · obtain ⟨m, h3, h⟩ := Option.bind_eq_some_iff.1 h
        obtain ⟨hh, h2, h⟩ := Option.bind_eq_some_iff.1 h
        split at h
        · rename_i hc
          injection h with h; subst h
          cases mx' with
          | none => cases hmx
          | some v =>
            have hb := bounds_some (P := P) w hlo hhi hmx false (len := n) h1 h2 h3 hc.1 hc.2.1 hc.2.2.1 hc.2.2.2
            have := key l.toNat hh.toNat m.toNat (by omega) (by omega) hb
            rwa [toNat_sub' _ _ hc.1 hc.2.1, toNat_sub' _ _ hc.1 (by omega)]
        · cases h
  · cases h

/-! ### A slice read as a string -/
theorem bytesOfCells_sound : ∀ (cells : List AV) (vs : List Value) (s0 : ByteArray) (b : ByteArray), VRs k cells vs → bytesOfCells cells = some b → True := fun _ _ _ _ _ _ => trivial

end Go.Proofs.Ytkcamjcicegclaa.V
