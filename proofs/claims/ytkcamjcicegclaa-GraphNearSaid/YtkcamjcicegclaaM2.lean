/- V, M2: V is sound (a part of the proof). Conditions: none. -/
import Derived.Test.YtkcamjcicegclaaM1
import Derived.Laws.World
set_option linter.unusedVariables false
set_option linter.unusedSimpArgs false
set_option linter.unnecessarySimpa false
/- V, part D: how abstract values and heaps stand to the model's: the relation, its keeping, and memory's basic steps. Conditions: none. -/
namespace Go.Proofs.Ytkcamjcicegclaa.V
open Go

/-- Where an abstract object lies: its block, its first cell, the block's end. -/
structure Loc where
  b : Nat
  s : Nat
  e : Nat
/-- A world, where the abstract objects lie in it, and which blocks never change any more. -/
structure KW where
  L : Nat → Option Loc
  I : Nat → Prop
  w : World

inductive VR (k : KW) : AV → Value → Prop
  | s {v : Value} : plain v = true → VR k (.s v) v
  | ptr {id off : Nat} {l : Loc} : k.L id = some l → VR k (.ptr id off) (.pointer (some ⟨l.b, l.s + off, none⟩))
  | pv {cells : List AV} {off b o : Nat} (f : Nat → Value) : k.I b → (∀ (i : Nat) c, cells[i]? = some c → c.one = true ∧ (f i).oneCell' = true ∧ k.w.cell? ⟨b, o + i, none⟩ = some (f i)) →
      (∀ (i : Nat) c, cells[i]? = some c → VR k c (f i)) → VR k (.pv cells off) (.pointer (some ⟨b, o + off, none⟩))
  | sl0 {full : Bool} {a : Addr} {c : Nat} : (full = true → c = 0) → VR k (.sl 0 [] full) (.slice (some a) 0 c)
  | sl {len : Nat} {cells : List AV} {full : Bool} {b o c : Nat} (f : Nat → Value) : k.I b → (∀ (i : Nat) c, cells[i]? = some c → c.one = true ∧ (f i).oneCell' = true ∧ k.w.cell? ⟨b, o + i, none⟩ = some (f i)) →
      (∀ (i : Nat) c, cells[i]? = some c → VR k c (f i)) → (full = true → c = len) → len ≤ c → VR k (.sl len cells full) (.slice (some ⟨b, o, none⟩) len c)
  | slr {id off len sz c : Nat} {cap : Option Nat} {l : Loc} {a : Addr} : k.L id = some l → (∀ n, cap = some n → c = n) → len ≤ c → (cap = none → l.s + off + c * sz = l.e) →
      (0 < c → a = ⟨l.b, l.s + off, none⟩) → VR k (.slr id off len sz cap) (.slice (some a) len c)
  | fnF {g : FuncId} {a b : List AV} {a' b' : Array Value} : a.length = a'.size → b.length = b'.size → (∀ (i : Nat) x y, a[i]? = some x → a'[i]? = some y → VR k x y) →
      (∀ (i : Nat) x y, b[i]? = some x → b'[i]? = some y → VR k x y) → VR k (.fn (.func g) a b) (.func (.func g) a' b')
  | fnY {id : Nat} {l : Loc} {a b : List AV} {a' b' : Array Value} : k.L id = some l → a.length = a'.size → b.length = b'.size → (∀ (i : Nat) x y, a[i]? = some x → a'[i]? = some y → VR k x y) →
      (∀ (i : Nat) x y, b[i]? = some x → b'[i]? = some y → VR k x y) → VR k (.fn (.yield id) a b) (.func (.yield l.b) a' b')
  | iface {t : TypeId} {v : AV} {v' : Value} : VR k v v' → VR k (.iface t v) (.iface t v')
  | agg {cs : List AV} {cs' : Array Value} : cs.length = cs'.size → (∀ (i : Nat) x y, cs[i]? = some x → cs'[i]? = some y → VR k x y) → (∀ (i : Nat) x, cs[i]? = some x → x.one = true) → (∀ (i : Nat) y, cs'[i]? = some y → y.oneCell' = true) → VR k (.agg cs) (.agg cs')
  | tup {vs : List AV} {vs' : Array Value} : vs.length = vs'.size → (∀ (i : Nat) x y, vs[i]? = some x → vs'[i]? = some y → VR k x y) → VR k (.tup vs) (.tuple vs')
  | mp {id : Nat} {l : Loc} : k.L id = some l → VR k (.mp id) (.map (some l.b))
  | bot {v : Value} : VR k .bot v

/-- A list of values, each related. -/
def VRs (k : KW) (xs : List AV) (ys : List Value) : Prop := xs.length = ys.length ∧ ∀ (i : Nat) x y, xs[i]? = some x → ys[i]? = some y → VR k x y

/-- A loop's record stays one of the same loop. -/
def SameL (r r' : Loop) : Prop := r'.fn = r.fn ∧ r'.body = r.body
structure KLe (k k' : KW) : Prop where
  L : ∀ id l, k.L id = some l → k'.L id = some l
  I : ∀ b, k.I b → k'.I b
  size : k.w.heap.size ≤ k'.w.heap.size
  blk : ∀ b, k.I b → k'.w.heap[b]? = k.w.heap[b]?
  fr : ∀ b, b < k.w.heap.size → (∀ id l, k.L id = some l → l.b ≠ b) → k'.w.heap[b]? = k.w.heap[b]? ∧ (∀ id l, k'.L id = some l → l.b ≠ b) ∧ (k'.I b → k.I b)
  os : k'.w.os = k.w.os
  out : k'.w.output = k.w.output
  tape : k'.w.tape = k.w.tape
  lp : ∀ (b : Nat) (r : Loop), k.w.heap[b]? = some (Obj.loop r) → ∃ r' : Loop, k'.w.heap[b]? = some (Obj.loop r') ∧ SameL r r'

theorem KLe.refl (k : KW) : KLe k k := ⟨fun _ _ h => h, fun _ h => h, Nat.le_refl _, fun _ _ => rfl, fun _ _ h => ⟨rfl, h, id⟩, rfl, rfl, rfl, fun _ r h => ⟨r, h, rfl, rfl⟩⟩
theorem KLe.trans {a b c : KW} (h : KLe a b) (g : KLe b c) : KLe a c where
  L id l x := g.L _ _ (h.L _ _ x)
  I b x := g.I _ (h.I _ x)
  size := Nat.le_trans h.size g.size
  blk b x := (g.blk _ (h.I _ x)).trans (h.blk _ x)
  fr b hb hn := by
    obtain ⟨h1, h2, h3⟩ := h.fr b hb hn
    obtain ⟨g1, g2, g3⟩ := g.fr b (Nat.lt_of_lt_of_le hb h.size) h2
    exact ⟨g1.trans h1, g2, fun x => h3 (g3 x)⟩
  os := g.os.trans h.os
  out := g.out.trans h.out
  tape := g.tape.trans h.tape
  lp b r hb := by
    obtain ⟨r', h', h1, h2⟩ := h.lp b r hb
    obtain ⟨r2, g', g1, g2⟩ := g.lp b r' h'
    exact ⟨r2, g', g1.trans h1, g2.trans h2⟩

theorem cell_of_heap {w w' : World} {b : Nat} (h : w'.heap[b]? = w.heap[b]?) (o : Nat) : w'.cell? ⟨b, o, none⟩ = w.cell? ⟨b, o, none⟩ := by
  simp only [World.cell?, h]

theorem VR.turn {k k' : KW} (hL : ∀ id l, k.L id = some l → k'.L id = some l) (hI : ∀ b, k.I b → k'.I b) (hB : ∀ b, k.I b → k'.w.heap[b]? = k.w.heap[b]?) {v : AV} {v' : Value} (hv : VR k v v') : VR k' v v' := by
  induction hv with
  | s hp => exact .s hp
  | ptr hl => exact .ptr (hL _ _ hl)
  | pv f hi hc hr ih => exact .pv f (hI _ hi) (fun i c h => ⟨(hc i c h).1, (hc i c h).2.1, (cell_of_heap (hB _ hi) _).trans (hc i c h).2.2⟩) ih
  | sl0 hf => exact .sl0 hf
  | sl f hi hc hr hf hl ih => exact .sl f (hI _ hi) (fun i c h => ⟨(hc i c h).1, (hc i c h).2.1, (cell_of_heap (hB _ hi) _).trans (hc i c h).2.2⟩) ih hf hl
  | slr hl hc hle hn ha => exact .slr (hL _ _ hl) hc hle hn ha
  | fnF ha hb _ _ iha ihb => exact .fnF ha hb iha ihb
  | fnY hl ha hb _ _ iha ihb => exact .fnY (hL _ _ hl) ha hb iha ihb
  | iface _ ih => exact .iface ih
  | agg hl _ h1 h2 ih => exact .agg hl ih h1 h2
  | tup hl _ ih => exact .tup hl ih
  | mp hl => exact .mp (hL _ _ hl)
  | bot => exact .bot
theorem VR.mono {k k' : KW} (h : KLe k k') {v : AV} {v' : Value} (hv : VR k v v') : VR k' v v' := hv.turn h.L h.I h.blk
theorem VRs.mono {k k' : KW} (h : KLe k k') {xs : List AV} {ys : List Value} (hv : VRs k xs ys) : VRs k' xs ys := ⟨hv.1, fun i x y hx hy => (hv.2 i x y hx hy).mono h⟩
theorem VRs.nil (k : KW) : VRs k [] [] := ⟨rfl, fun i x y hx => by simp at hx⟩
theorem VRs.cons {k : KW} {x : AV} {y : Value} {xs : List AV} {ys : List Value} (h : VR k x y) (hs : VRs k xs ys) : VRs k (x :: xs) (y :: ys) := by
  refine ⟨by simp [hs.1], fun i a b ha hb => ?_⟩
  cases i with
  | zero => simp at ha hb; subst ha; subst hb; exact h
  | succ i => exact hs.2 i a b (by simpa using ha) (by simpa using hb)
theorem VRs.head {k : KW} {x : AV} {y : Value} {xs : List AV} {ys : List Value} (h : VRs k (x :: xs) (y :: ys)) : VR k x y ∧ VRs k xs ys :=
  ⟨h.2 0 x y rfl rfl, by simpa using h.1, fun i a b ha hb => h.2 (i + 1) a b (by simpa using ha) (by simpa using hb)⟩
theorem VRs.append {k : KW} {xs xs' : List AV} {ys ys' : List Value} (h : VRs k xs ys) (h' : VRs k xs' ys') : VRs k (xs ++ xs') (ys ++ ys') := by
  refine ⟨by simp [h.1, h'.1], fun i a b ha hb => ?_⟩
  rcases Nat.lt_or_ge i xs.length with hi | hi
  · rw [List.getElem?_append_left hi] at ha
    rw [List.getElem?_append_left (h.1 ▸ hi)] at hb
    exact h.2 i a b ha hb
  · rw [List.getElem?_append_right hi] at ha
    rw [List.getElem?_append_right (h.1 ▸ hi)] at hb
    rw [← h.1] at hb
    exact h'.2 _ a b ha hb
theorem VRs.get {k : KW} {xs : List AV} {ys : List Value} (h : VRs k xs ys) {i : Nat} {x : AV} (hx : xs[i]? = some x) : ∃ y, ys[i]? = some y ∧ VR k x y := by
  have hi : i < ys.length := by rw [← h.1]; exact (List.getElem?_eq_some_iff.1 hx).1
  exact ⟨ys[i], List.getElem?_eq_getElem hi, h.2 i x _ hx (List.getElem?_eq_getElem hi)⟩
theorem VRs.drop {k : KW} {xs : List AV} {ys : List Value} (h : VRs k xs ys) (n : Nat) : VRs k (xs.drop n) (ys.drop n) :=
  ⟨by simp [h.1], fun i x y hx hy => h.2 (n + i) x y (by simpa using hx) (by simpa using hy)⟩
theorem VRs.take {k : KW} {xs : List AV} {ys : List Value} (h : VRs k xs ys) (n : Nat) : VRs k (xs.take n) (ys.take n) := by
  refine ⟨by simp [h.1], fun i x y hx hy => ?_⟩
  rw [List.getElem?_take] at hx hy
  split at hx
  · rename_i hi; rw [if_pos hi] at hy; exact h.2 i x y hx hy
  · cases hx

def AO.alive : AO → Bool
  | .dead => false
  | _ => true

/-- A loop's record. -/
structure LoopR (P : Program) (A : Ann) (k : KW) (l : Loc) (st : LoopState) (pend : Option Code) (fn : FuncId) (tmps : List AV) (ps : List Tmp) (asg body : Code) : Prop where
  ex : ∃ r : Loop, k.w.heap[l.b]? = some (.loop r) ∧ r.state = st ∧ r.pending = pend ∧ r.fn = fn ∧ r.params = ps.toArray ∧ r.assign = asg ∧ r.body = body ∧ VRs k tmps r.tmps.toList
  okA : codeOk P A fn asg = true
  okB : codeOk P A fn body = true
  okF : (P.funcs[fn]?).isSome = true

structure Sim (P : Program) (A : Ann) (k : KW) (H : AH) : Prop where
  dom : ∀ id l, k.L id = some l → id < H.length
  imm : ∀ b, k.I b → b < k.w.heap.size
  rng : ∀ id l, k.L id = some l → l.b < k.w.heap.size
  sep : ∀ id o l, H[id]? = some o → o.alive = true → k.L id = some l → ¬ k.I l.b
  inj : ∀ id id' o o' l l', H[id]? = some o → o.alive = true → H[id']? = some o' → o'.alive = true → k.L id = some l → k.L id' = some l' → l.b = l'.b → id = id'
  arr : ∀ id cells, H[id]? = some (AO.arr cells) → ∃ l cs elem, k.L id = some l ∧ k.w.heap[l.b]? = some (.cells cs elem (0, 0)) ∧ cs.size = l.e ∧ l.s + cells.length ≤ l.e ∧
    ∀ (i : Nat) c, cells[i]? = some c → c.one = true ∧ ∃ v, cs[l.s + i]? = some v ∧ v.oneCell' = true ∧ VR k c v
  maps : ∀ (id : Nat) (es : List (AV × AV)), H[id]? = some (AO.map es) → False
  loop : ∀ id st pend fn tmps ps asg body, H[id]? = some (AO.loop st pend fn tmps ps asg body) → ∃ l, k.L id = some l ∧ LoopR P A k l st pend fn tmps ps asg body

theorem add_plain' (b o i : Nat) : (⟨b, o, none⟩ : Addr).add i = ⟨b, o + i, none⟩ := by
  unfold Addr.add
  split
  · rename_i h; subst h; rfl
  · rfl

/-! ### Reading -/
theorem ld1_sound {P : Program} {A : Ann} {k : KW} {H : AH} (hS : Sim P A k H) {a v : AV} {a' : Value} (ha : VR k a a') (h : ld1 H a = some v) :
    ∃ ad v', a' = .pointer (some ad) ∧ k.w.cell? ad = some v' ∧ v'.oneCell' = true ∧ v.one = true ∧ VR k v v' := by
  cases ha with
  | ptr hl =>
    rename_i id off l
    simp only [ld1] at h
    cases ho : H[id]? with
    | none => rw [ho] at h; cases h
    | some o =>
      rw [ho] at h
      cases o with
      | arr cells =>
        dsimp only at h
        obtain ⟨l', cs, elem, hl', hb, hsz, hle, hc⟩ := hS.arr id cells ho
        rw [hl] at hl'; cases hl'
        obtain ⟨h1, v', hv', h2, h3⟩ := hc off v h
        exact ⟨_, v', rfl, by simp [World.cell?, hb, hv'], h2, h1, h3⟩
      | _ => cases h
  | pv f hI hc hr =>
    rename_i cells off b o
    simp only [ld1] at h
    obtain ⟨h1, h2, h3⟩ := hc off v h
    exact ⟨_, f off, rfl, h3, h2, h1, hr off v h⟩
  | _ => simp [ld1] at h

theorem run_loadCellsFrom (P : Program) (w : World) (a : Addr) (f : Nat → Value) (n : Nat) : ∀ (i : Nat) (acc : Array Value), (∀ j, i ≤ j → j < i + n → w.cell? (a.add j) = some (f j)) →
    (loadCellsFrom a i n acc).run P w = .ok (acc ++ ((List.range n).map fun j => f (i + j)).toArray) w := by
  induction n with
  | zero => intro i acc h; simp [loadCellsFrom]
  | succ n ih =>
    intro i acc h
    simp only [loadCellsFrom, Sem.run_bind, run_load, h i (Nat.le_refl _) (by omega), Result.andThen_ok]
    rw [ih (i + 1) _ (fun j h1 h2 => h j (by omega) (by omega))]
    congr 1
    rw [List.range_succ_eq_map]
    simp [Function.comp_def, Nat.add_assoc, Nat.add_comm 1]

theorem ldCells_sound {P : Program} {A : Ann} {k : KW} {H : AH} (hS : Sim P A k H) {a : AV} {cells : List AV} {n : Nat} {a' : Value} (ha : VR k a a') (h : ldCells H n a = some cells) :
    ∃ ad vs, a' = .pointer (some ad) ∧ (loadCells ad n).run P k.w = .ok vs k.w ∧ VRs k cells vs.toList ∧ (∀ (i : Nat) x, cells[i]? = some x → x.one = true) ∧ (∀ (i : Nat) (y : Value), vs[i]? = some y → y.oneCell' = true) := by
  cases ha with
  | ptr hl =>
    rename_i id off l
    simp only [ldCells] at h
    cases ho : H[id]? with
    | none => rw [ho] at h; cases h
    | some o =>
      rw [ho] at h
      cases o with
      | arr cells0 =>
        dsimp only at h
        split at h
        · rename_i hlen
          injection h with h
          subst h
          obtain ⟨l', cs, elem, hl', hb, hsz, hle, hc⟩ := hS.arr id cells0 ho
          rw [hl] at hl'; cases hl'
          have key : ∀ i, i < n → ∃ c v, cells0[off + i]? = some c ∧ cs[l.s + (off + i)]? = some v ∧ c.one = true ∧ v.oneCell' = true ∧ VR k c v := by
            intro i hi
            have hx : cells0[off + i]? = some cells0[off + i] := List.getElem?_eq_getElem (by omega)
            obtain ⟨h1, v', hv', h2, h3⟩ := hc _ _ hx
            exact ⟨_, v', hx, hv', h1, h2, h3⟩
          refine ⟨⟨l.b, l.s + off, none⟩, ((List.range n).map fun j => (cs[l.s + (off + j)]?).getD undef).toArray, rfl, ?_, ⟨by simp; omega, ?_⟩, ?_, ?_⟩
          · unfold loadCells
            rw [run_loadCellsFrom P k.w _ (fun j => (cs[l.s + (off + j)]?).getD undef) n 0 #[]]
            · simp
            · intro j _ hj
              obtain ⟨c, v, _, hv, _⟩ := key j (by omega)
              rw [add_plain']
              simp [World.cell?, hb, Nat.add_assoc, hv]
          · intro i x y hx hy
            rw [List.getElem?_take] at hx
            split at hx
            · rename_i hi
              rw [List.getElem?_drop] at hx
              obtain ⟨c, v, hcx, hv, _, _, hr⟩ := key i hi
              rw [hcx] at hx; injection hx with hx; subst hx
              simp [hi, hv] at hy
              subst hy; exact hr
            · cases hx
          · intro i x hx
            rw [List.getElem?_take] at hx
            split at hx
            · rename_i hi
              rw [List.getElem?_drop] at hx
              obtain ⟨c, v, hcx, hv, h1, _⟩ := key i hi
              rw [hcx] at hx; injection hx with hx; subst hx; exact h1
            · cases hx
          · intro i y hy
            have hi : i < n := by
              have := (Array.getElem?_eq_some_iff.1 hy).1; simpa using this
            obtain ⟨c, v, _, hv, _, h2, _⟩ := key i hi
            simp [hi, hv] at hy
            subst hy; exact h2
        · cases h
      | _ => cases h
  | pv f hI hc hr =>
    rename_i cells0 off b o
    simp only [ldCells] at h
    split at h
    · rename_i hlen
      injection h with h
      subst h
      have key : ∀ i, i < n → ∃ c, cells0[off + i]? = some c := fun i hi => ⟨_, List.getElem?_eq_getElem (by omega)⟩
      refine ⟨⟨b, o + off, none⟩, ((List.range n).map fun j => f (off + j)).toArray, rfl, ?_, ⟨by simp; omega, ?_⟩, ?_, ?_⟩
      · unfold loadCells
        rw [run_loadCellsFrom P k.w _ (fun j => f (off + j)) n 0 #[]]
        · simp
        · intro j _ hj
          obtain ⟨c, hcx⟩ := key j (by omega)
          rw [add_plain', Nat.add_assoc]
          exact (hc _ _ hcx).2.2
      · intro i x y hx hy
        rw [List.getElem?_take] at hx
        split at hx
        · rename_i hi
          rw [List.getElem?_drop] at hx
          simp [hi] at hy
          subst hy; exact hr _ _ hx
        · cases hx
      · intro i x hx
        rw [List.getElem?_take] at hx
        split at hx
        · rw [List.getElem?_drop] at hx; exact (hc _ _ hx).1
        · cases hx
      · intro i y hy
        have hi : i < n := by
          have := (Array.getElem?_eq_some_iff.1 hy).1; simpa using this
        obtain ⟨c, hcx⟩ := key i hi
        simp [hi] at hy
        subst hy; exact (hc _ _ hcx).2.1
    · cases h
  | _ => simp [ldCells] at h

/-! ### Making -/
theorem size_of_alloc (w : World) (o : Obj) : (w.alloc o).heap.size = w.heap.size + 1 := by simp
theorem heap_alloc_old (w : World) (o : Obj) {b : Nat} (h : b < w.heap.size) : (w.alloc o).heap[b]? = w.heap[b]? := by
  show (w.heap.push o)[b]? = _
  rw [Array.getElem?_push, if_neg (by omega)]
theorem heap_alloc_new (w : World) (o : Obj) : (w.alloc o).heap[w.heap.size]? = some o := by
  show (w.heap.push o)[w.heap.size]? = _
  simp

/-- With a new block, at which the new object id lies. -/
def KW.grow (k : KW) (id : Nat) (l : Loc) (w : World) : KW := ⟨fun i => if i = id then some l else k.L i, k.I, w⟩

theorem KLe.grow {P : Program} {A : Ann} {k : KW} {H : AH} (hS : Sim P A k H) (o : Obj) (e : Nat) : KLe k (k.grow H.length ⟨k.w.heap.size, 0, e⟩ (k.w.alloc o)) where
  L id l h := by
    have := hS.dom id l h
    simp only [KW.grow]; rw [if_neg (by omega)]; exact h
  I b h := h
  size := by simp [KW.grow]
  blk b h := heap_alloc_old _ _ (hS.imm b h)
  fr b hb hn := by
    refine ⟨heap_alloc_old _ _ hb, fun id l h => ?_, id⟩
    simp only [KW.grow] at h
    split at h
    · injection h with h; subst h; simp; omega
    · exact hn id l h
  os := rfl
  out := rfl
  tape := rfl
  lp b r h := ⟨r, (heap_alloc_old _ _ (by have := (Array.getElem?_eq_some_iff.1 h).1; exact this)).trans h, rfl, rfl⟩

theorem Sim.grow {P : Program} {A : Ann} {k : KW} {H : AH} (hS : Sim P A k H) (o : Obj) (ao : AO) (e : Nat)
    (harr : ∀ cells, ao = .arr cells → ∃ cs elem, o = .cells cs elem (0, 0) ∧ cs.size = e ∧ cells.length ≤ e ∧ ∀ (i : Nat) c, cells[i]? = some c → c.one = true ∧ ∃ v, cs[i]? = some v ∧ v.oneCell' = true ∧ VR k c v)
    (hmap : ∀ es, ao ≠ .map es)
    (hloop : ∀ st pend fn tmps ps asg body, ao = .loop st pend fn tmps ps asg body → codeOk P A fn asg = true ∧ codeOk P A fn body = true ∧ (P.funcs[fn]?).isSome = true ∧ ∃ r : Loop, o = .loop r ∧ r.state = st ∧ r.pending = pend ∧ r.fn = fn ∧ r.params = ps.toArray ∧ r.assign = asg ∧ r.body = body ∧ VRs k tmps r.tmps.toList) :
    Sim P A (k.grow H.length ⟨k.w.heap.size, 0, e⟩ (k.w.alloc o)) (H ++ [ao]) := by
  have hle := KLe.grow hS o e
  have hold : ∀ id o', (H ++ [ao])[id]? = some o' → id < H.length ∧ H[id]? = some o' ∨ id = H.length ∧ o' = ao := by
    intro id o' h
    rcases Nat.lt_or_ge id H.length with hi | hi
    · rw [List.getElem?_append_left hi] at h; exact .inl ⟨hi, h⟩
    · rw [List.getElem?_append_right hi] at h
      have h0 : id - H.length = 0 := by
        have := (List.getElem?_eq_some_iff.1 h).1; simp at this; omega
      rw [h0] at h; simp at h
      exact .inr ⟨by omega, h.symm⟩
  have hLo : ∀ id l, id < H.length → (k.grow H.length ⟨k.w.heap.size, 0, e⟩ (k.w.alloc o)).L id = some l → k.L id = some l := by
    intro id l hi h; simp only [KW.grow] at h; rwa [if_neg (by omega)] at h
  have hLn : ∀ l, (k.grow H.length ⟨k.w.heap.size, 0, e⟩ (k.w.alloc o)).L H.length = some l → l = ⟨k.w.heap.size, 0, e⟩ := by
    intro l h; simp [KW.grow] at h; exact h.symm
  constructor
  · intro id l h
    simp only [KW.grow] at h
    split at h
    · simp; omega
    · have := hS.dom id l h; simp; omega
  · intro b h; have := hS.imm b h; simp [KW.grow]; omega
  · intro id l h
    simp only [KW.grow] at h ⊢
    split at h
    · injection h with h; subst h; simp
    · have := hS.rng id l h; simp; omega
  · intro id o' l ho hal hl hI
    rcases hold id o' ho with ⟨hi, h⟩ | ⟨rfl, rfl⟩
    · exact hS.sep id o' l h hal (hLo _ _ hi hl) hI
    · have := hLn l hl; subst this
      have := hS.imm _ hI; simp at this
  · intro id id' o1 o2 l l' h1 ha1 h2 ha2 hl hl' hb
    rcases hold id o1 h1 with ⟨hi, h⟩ | ⟨rfl, rfl⟩
    · have g := hLo _ _ hi hl
      rcases hold id' o2 h2 with ⟨hi', h'⟩ | ⟨rfl, rfl⟩
      · exact hS.inj id id' o1 o2 l l' h ha1 h' ha2 g (hLo _ _ hi' hl') hb
      · have := hLn l' hl'; subst this
        have := hS.rng id l g; simp at hb; omega
    · have := hLn l hl; subst this
      rcases hold id' o2 h2 with ⟨hi', h'⟩ | ⟨rfl, _⟩
      · have := hS.rng id' l' (hLo _ _ hi' hl'); simp at hb; omega
      · rfl
  · intro id cells h
    rcases hold id _ h with ⟨hi, h'⟩ | ⟨rfl, h'⟩
    · obtain ⟨l, cs, elem, hl, hb, hsz, hlen, hc⟩ := hS.arr id cells h'
      refine ⟨l, cs, elem, hle.L _ _ hl, (heap_alloc_old _ _ (hS.rng id l hl)).trans hb, hsz, hlen, fun i c hi => ?_⟩
      obtain ⟨h1, v, hv, h2, h3⟩ := hc i c hi
      exact ⟨h1, v, hv, h2, h3.mono hle⟩
    · obtain ⟨cs, elem, ho, hsz, hlen, hc⟩ := harr cells h'.symm
      refine ⟨⟨k.w.heap.size, 0, e⟩, cs, elem, by simp [KW.grow], (heap_alloc_new _ _).trans (congrArg some ho), hsz, by simpa using hlen, fun i c hi => ?_⟩
      obtain ⟨h1, v, hv, h2, h3⟩ := hc i c hi
      exact ⟨h1, v, by simpa using hv, h2, h3.mono hle⟩
  · intro id es h
    rcases hold id _ h with ⟨hi, h'⟩ | ⟨rfl, h'⟩
    · exact hS.maps id es h'
    · exact hmap es h'.symm
  · intro id st pend fn tmps ps asg body h
    rcases hold id _ h with ⟨hi, h'⟩ | ⟨rfl, h'⟩
    · obtain ⟨l, hl, ⟨r, hb, hr⟩, hA, hB, hF⟩ := hS.loop id _ _ _ _ _ _ _ h'
      exact ⟨l, hle.L _ _ hl, ⟨⟨r, (heap_alloc_old _ _ (hS.rng id l hl)).trans hb, hr.1, hr.2.1, hr.2.2.1, hr.2.2.2.1, hr.2.2.2.2.1, hr.2.2.2.2.2.1, hr.2.2.2.2.2.2.mono hle⟩, hA, hB, hF⟩⟩
    · obtain ⟨hA, hB, hF, r, ho, hr⟩ := hloop _ _ _ _ _ _ _ h'.symm
      exact ⟨⟨k.w.heap.size, 0, e⟩, by simp [KW.grow], ⟨⟨r, (heap_alloc_new _ _).trans (congrArg some ho), hr.1, hr.2.1, hr.2.2.1, hr.2.2.2.1, hr.2.2.2.2.1, hr.2.2.2.2.2.1, hr.2.2.2.2.2.2.mono hle⟩, hA, hB, hF⟩⟩

/-! ### Writing -/
/-- What storing a list of cells does to a world. -/
structure Wrote (w w' : World) (b : Nat) (o : Nat) (vs : List Value) : Prop where
  size : w'.heap.size = w.heap.size
  os : w'.os = w.os
  out : w'.output = w.output
  tape : w'.tape = w.tape
  other : ∀ b', b' ≠ b → w'.heap[b']? = w.heap[b']?
  here : ∀ cs elem, w.heap[b]? = some (.cells cs elem (0, 0)) → ∃ cs', w'.heap[b]? = some (.cells cs' elem (0, 0)) ∧ cs'.size = cs.size ∧
    ∀ j, cs'[j]? = if o ≤ j ∧ j < o + vs.length ∧ j < cs.size then vs[j - o]? else cs[j]?

theorem heap_setCell (w : World) (b o : Nat) (v : Value) (b' : Nat) : (w.setCell ⟨b, o, none⟩ v).heap[b']? =
    if b = b' then (w.heap[b']?).map (fun x => match x with | .cells c elem frozen => .cells (c.setIfInBounds o v) elem frozen | o => o) else w.heap[b']? := by
  simp only [World.setCell, Array.getElem?_modify]
  split
  · cases w.heap[b']? with
    | none => rfl
    | some x => cases x <;> rfl
  · rfl

theorem run_storeCells (P : Program) (b : Nat) (vs : List Value) : ∀ (w : World) (o i : Nat) (cs : Array Value) (elem : TypeId), w.heap[b]? = some (.cells cs elem (0, 0)) → o + i + vs.length ≤ cs.size →
    (∀ v ∈ vs, v.oneCell' = true) → ∃ w', (storeCells ⟨b, o, none⟩ vs i).run P w = .ok () w' ∧ Wrote w w' b (o + i) vs := by
  induction vs with
  | nil =>
    intro w o i cs elem h hle hone
    refine ⟨w, rfl, rfl, rfl, rfl, rfl, fun _ _ => rfl, fun cs' elem' h' => ⟨cs', h', rfl, fun j => ?_⟩⟩
    rw [if_neg (by simp; omega)]
  | cons v vs ih =>
    intro w o i cs elem h hle hone
    simp only [List.length_cons] at hle
    have hcell : w.cell? ⟨b, o + i, none⟩ = some (cs[o + i]'(by omega)) := by simp [World.cell?, h]
    have hfr : w.frozen? ⟨b, o + i, none⟩ = false := by simp [World.frozen?, h]
    have hb1 : (w.setCell ⟨b, o + i, none⟩ v).heap[b]? = some (.cells (cs.setIfInBounds (o + i) v) elem (0, 0)) := by rw [heap_setCell]; simp [h]
    obtain ⟨w', hr, hw⟩ := ih (w.setCell ⟨b, o + i, none⟩ v) o (i + 1) (cs.setIfInBounds (o + i) v) elem hb1 (by simp; omega) (fun x hx => hone x (List.mem_cons_of_mem _ hx))
    refine ⟨w', ?_, ?_⟩
    · simp only [storeCells, Sem.run_bind]
      rw [run_store P w _ v .plain (hone v (List.mem_cons_self ..))]
      rw [add_plain', hcell]
      simp only [hfr, Bool.false_eq_true, if_false, Result.andThen_ok]
      exact hr
    · refine ⟨hw.size.trans (by simp), hw.os, hw.out, hw.tape, fun b' hb' => (hw.other b' hb').trans (by rw [heap_setCell, if_neg (fun e => hb' e.symm)]), fun cs2 elem2 h2 => ?_⟩
      rw [h] at h2
      injection h2 with h2; injection h2 with h2 h3; subst h2; subst h3
      obtain ⟨cs', h', hs', hc'⟩ := hw.here _ _ hb1
      refine ⟨cs', h', by simpa using hs', fun j => ?_⟩
      rw [hc' j]
      simp only [Array.size_setIfInBounds, List.length_cons]
      by_cases hj : j = o + i
      · subst hj
        rw [if_neg (by omega), if_pos (by omega)]
        rw [Array.getElem?_setIfInBounds]
        simp; omega
      · by_cases h1 : o + i ≤ j ∧ j < o + i + (vs.length + 1) ∧ j < cs.size
        · rw [if_pos h1, if_pos (by omega)]
          have : j - (o + i) = (j - (o + (i + 1))) + 1 := by omega
          rw [this, List.getElem?_cons_succ]
        · rw [if_neg h1, if_neg (by omega), Array.getElem?_setIfInBounds_ne (fun e => hj e.symm)]

/-- The same world but for what was stored into object id. -/
theorem KLe.wrote {P : Program} {A : Ann} {k : KW} {H : AH} (hS : Sim P A k H) {id : Nat} {o : AO} {l : Loc} (ho : H[id]? = some o) (hal : o.alive = true) (hl : k.L id = some l) {w' : World} (hs : w'.heap.size = k.w.heap.size) (hos : w'.os = k.w.os) (hout : w'.output = k.w.output) (htape : w'.tape = k.w.tape)
    (hother : ∀ b', b' ≠ l.b → w'.heap[b']? = k.w.heap[b']?) (hlp : ∀ r : Loop, k.w.heap[l.b]? = some (Obj.loop r) → ∃ r' : Loop, w'.heap[l.b]? = some (Obj.loop r') ∧ SameL r r') : KLe k ⟨k.L, k.I, w'⟩ where
  L _ _ h := h
  I _ h := h
  size := Nat.le_of_eq hs.symm
  blk b h := hother b (fun e => hS.sep id o l ho hal hl (e ▸ h))
  fr b hb hn := ⟨hother b (fun e => hn _ l hl e.symm), hn, fun h => h⟩
  os := hos
  out := hout
  tape := htape
  lp b r h := by
    by_cases hb : b = l.b
    · subst hb; exact hlp r h
    · exact ⟨r, (hother b hb).trans h, rfl, rfl⟩

/-- Object id's contents turned; its block with them. -/
theorem Sim.set {P : Program} {A : Ann} {k : KW} {H : AH} (hS : Sim P A k H) {id : Nat} {o o' : AO} {l : Loc} (ho : H[id]? = some o) (hal : o.alive = true) (hal' : o'.alive = true) (hl : k.L id = some l) {w' : World} (hle : KLe k ⟨k.L, k.I, w'⟩)
    (hs : w'.heap.size = k.w.heap.size) (hother : ∀ b', b' ≠ l.b → w'.heap[b']? = k.w.heap[b']?)
    (harr : ∀ cells, o' = .arr cells → ∃ cs elem, w'.heap[l.b]? = some (.cells cs elem (0, 0)) ∧ cs.size = l.e ∧ l.s + cells.length ≤ l.e ∧ ∀ (i : Nat) c, cells[i]? = some c → c.one = true ∧ ∃ v, cs[l.s + i]? = some v ∧ v.oneCell' = true ∧ VR ⟨k.L, k.I, w'⟩ c v)
    (hmap : ∀ es, o' ≠ .map es)
    (hloop : ∀ st pend fn tmps ps asg body, o' = .loop st pend fn tmps ps asg body → LoopR P A ⟨k.L, k.I, w'⟩ l st pend fn tmps ps asg body) :
    Sim P A ⟨k.L, k.I, w'⟩ (H.set id o') := by
  have hlen : id < H.length := (List.getElem?_eq_some_iff.1 ho).1
  have hold : ∀ i x, (H.set id o')[i]? = some x → i ≠ id ∧ H[i]? = some x ∨ i = id ∧ x = o' := by
    intro i x h
    rw [List.getElem?_set] at h
    split at h
    · rename_i e; subst e; simp [hlen] at h; exact .inr ⟨rfl, h.symm⟩
    · rename_i e; exact .inl ⟨fun e' => e e'.symm, h⟩
  have hali : ∀ (i : Nat) (x : AO), (H.set id o')[i]? = some x → x.alive = true → ∃ y : AO, H[i]? = some y ∧ y.alive = true := by
    intro i x h ha
    rcases hold i x h with ⟨_, h'⟩ | ⟨rfl, rfl⟩
    · exact ⟨x, h', ha⟩
    · exact ⟨o, ho, hal⟩
  constructor
  · intro i x h; rw [List.length_set]; exact hS.dom i x h
  · intro b h; show b < w'.heap.size; rw [hs]; exact hS.imm b h
  · intro i x h; show x.b < w'.heap.size; rw [hs]; exact hS.rng i x h
  · intro i x l' h ha hl' hI
    obtain ⟨y, hy, hya⟩ := hali i x h ha
    exact hS.sep i y l' hy hya hl' hI
  · intro i j x y l1 l2 h1 ha1 h2 ha2 hl1 hl2 hb
    obtain ⟨x', hx', hxa⟩ := hali i x h1 ha1
    obtain ⟨y', hy', hya⟩ := hali j y h2 ha2
    exact hS.inj i j x' y' l1 l2 hx' hxa hy' hya hl1 hl2 hb
  · intro i cells h
    rcases hold i _ h with ⟨hne, h'⟩ | ⟨rfl, h'⟩
    · obtain ⟨l', cs, elem, hl', hb, hsz, hl2, hc⟩ := hS.arr i cells h'
      have hbne : l'.b ≠ l.b := fun e => hne (hS.inj i id _ _ l' l h' rfl ho hal hl' hl e)
      refine ⟨l', cs, elem, hl', (hother _ hbne).trans hb, hsz, hl2, fun j c hj => ?_⟩
      obtain ⟨h1, v, hv, h2, h3⟩ := hc j c hj
      exact ⟨h1, v, hv, h2, h3.mono hle⟩
    · obtain ⟨cs, elem, hb, hsz, hl2, hc⟩ := harr cells h'.symm
      exact ⟨l, cs, elem, hl, hb, hsz, hl2, hc⟩
  · intro i es h
    rcases hold i _ h with ⟨hne, h'⟩ | ⟨rfl, h'⟩
    · exact hS.maps i es h'
    · exact hmap es h'.symm
  · intro i st pend fn tmps ps asg body h
    rcases hold i _ h with ⟨hne, h'⟩ | ⟨rfl, h'⟩
    · obtain ⟨l', hl', ⟨r, hb, hr⟩, hA, hB, hF⟩ := hS.loop i _ _ _ _ _ _ _ h'
      have hbne : l'.b ≠ l.b := fun e => hne (hS.inj i id _ _ l' l h' rfl ho hal hl' hl e)
      exact ⟨l', hl', ⟨⟨r, (hother _ hbne).trans hb, hr.1, hr.2.1, hr.2.2.1, hr.2.2.2.1, hr.2.2.2.2.1, hr.2.2.2.2.2.1, hr.2.2.2.2.2.2.mono hle⟩, hA, hB, hF⟩⟩
    · exact ⟨l, hl, hloop _ _ _ _ _ _ _ h'.symm⟩

theorem length_splice {cells new : List AV} {off : Nat} (h : off + new.length ≤ cells.length) : (splice cells off new).length = cells.length := by
  simp [splice]; omega
theorem get_splice {cells new : List AV} {off : Nat} (h : off + new.length ≤ cells.length) (i : Nat) : (splice cells off new)[i]? = if off ≤ i ∧ i < off + new.length then new[i - off]? else cells[i]? := by
  unfold splice
  by_cases h1 : i < off
  · rw [if_neg (by omega), List.append_assoc, List.getElem?_append_left (by simp; omega), List.getElem?_take, if_pos h1]
  · by_cases h2 : i < off + new.length
    · rw [if_pos (by omega), List.getElem?_append_left (by simp; omega), List.getElem?_append_right (by simp; omega)]
      simp [Nat.min_eq_left (show off ≤ cells.length by omega)]
    · rw [if_neg (by omega), List.getElem?_append_right (by simp; omega)]
      simp only [List.length_append, List.length_take, List.getElem?_drop]
      congr 1; omega

/-- A list of cells is stored at a pointer. -/
theorem stCells_sound {P : Program} {A : Ann} {k : KW} {H H' : AH} (hS : Sim P A k H) {a : AV} {a' : Value} {new : List AV} {vs : List Value} (ha : VR k a a') (hv : VRs k new vs) (hone : ∀ v ∈ vs, v.oneCell' = true) (h : stCells H a new = some H') :
    ∃ ad w', a' = .pointer (some ad) ∧ (storeCells ad vs).run P k.w = .ok () w' ∧ KLe k ⟨k.L, k.I, w'⟩ ∧ Sim P A ⟨k.L, k.I, w'⟩ H' := by
  cases ha with
  | ptr hl =>
    rename_i id off l
    simp only [stCells] at h
    cases ho : H[id]? with
    | none => rw [ho] at h; cases h
    | some o =>
      rw [ho] at h
      cases o with
      | arr cells =>
        dsimp only at h
        split at h
        · rename_i hcond
          obtain ⟨hlen, hall⟩ := hcond
          injection h with h
          subst h
          obtain ⟨l', cs, elem, hl', hb, hsz, hle, hc⟩ := hS.arr id cells ho
          rw [hl] at hl'; cases hl'
          obtain ⟨w', hr, hw⟩ := run_storeCells P l.b vs k.w (l.s + off) 0 cs elem hb (by rw [← hv.1]; omega) hone
          have hle' : KLe k ⟨k.L, k.I, w'⟩ := KLe.wrote hS ho rfl hl hw.size hw.os hw.out hw.tape hw.other (fun r h => by rw [hb] at h; cases h)
          refine ⟨_, w', rfl, hr, hle', ?_⟩
          refine Sim.set hS ho rfl rfl hl hle' hw.size hw.other ?_ (fun es h => by cases h) (fun _ _ _ _ _ _ _ h => by cases h)
          intro cells' hcells'
          injection hcells' with hcells'
          subst hcells'
          obtain ⟨cs', hb', hs', hc'⟩ := hw.here cs elem hb
          refine ⟨cs', elem, hb', hs'.trans hsz, by rw [length_splice hlen]; exact hle, fun i c hi => ?_⟩
          rw [get_splice hlen] at hi
          rw [hc']
          split at hi
          · rename_i hin
            obtain ⟨y, hy, hyr⟩ := hv.get hi
            refine ⟨List.all_eq_true.1 hall c (List.mem_of_getElem? hi), y, ?_, hone y (List.mem_of_getElem? hy), hyr.mono hle'⟩
            rw [if_pos (by rw [← hv.1]; omega)]
            have : l.s + i - (l.s + off + 0) = i - off := by omega
            rw [this]; exact hy
          · rename_i hin
            obtain ⟨h1, v, hv', h2, h3⟩ := hc i c hi
            refine ⟨h1, v, ?_, h2, h3.mono hle'⟩
            rw [if_neg (by rw [← hv.1]; omega)]; exact hv'
        · cases h
      | _ => cases h
  | _ => simp [stCells] at h

end Go.Proofs.Ytkcamjcicegclaa.V

/- V, part E: each operation of V, met by the model's. Conditions: none. -/
namespace Go.Proofs.Ytkcamjcicegclaa.V
open Go

variable {P : Program} {A : Ann} {k : KW} {H : AH}

theorem one_sound {v : AV} {v' : Value} (h : VR k v v') (h1 : v.one = true) : v'.oneCell' = true ∧ v'.cells = #[v'] ∧ v.cells = [v] := by
  cases h with
  | s hp => cases v' <;> simp_all [plain, Value.oneCell', Value.cells, AV.cells]
  | agg => simp [AV.one] at h1
  | tup => simp [AV.one] at h1
  | bot => simp [AV.one] at h1
  | _ => exact ⟨rfl, rfl, rfl⟩
theorem cells_sound {v : AV} {v' : Value} (h : VR k v v') (h1 : v.cells.all AV.one = true) : VRs k v.cells v'.cells.toList ∧ (∀ x ∈ v'.cells.toList, x.oneCell' = true) := by
  by_cases ho : v.one = true
  · obtain ⟨h2, h3, h4⟩ := one_sound h ho
    rw [h3, h4]
    exact ⟨VRs.cons h (VRs.nil k), fun x hx => by simp at hx; subst hx; exact h2⟩
  · cases h with
    | agg hl hr hx hy =>
      rename_i cs cs'
      refine ⟨⟨by simpa [AV.cells, Value.cells] using hl, fun i x y h1 h2 => hr i x y h1 (by simpa [Value.cells] using h2)⟩, fun x hx => ?_⟩
      obtain ⟨i, hi⟩ := List.mem_iff_getElem?.1 hx
      exact hy i x (by simpa [Value.cells] using hi)
    | tup => simp [AV.cells, AV.one] at h1
    | bot => simp [AV.cells, AV.one] at h1
    | _ => simp [AV.one] at ho
theorem plain_one {v : Value} (h : plain v = true) : v.oneCell' = true := by cases v <;> simp_all [plain, Value.oneCell']
theorem absC_sound (v : Value) : VR k (absC v) v := by
  cases v with
  | agg cs =>
    simp only [absC]
    split
    · rename_i h
      have hp : ∀ (i : Nat) y, cs[i]? = some y → plain y = true := fun i y hy => (Array.all_eq_true.1 h) i (Array.getElem?_eq_some_iff.1 hy).1 |> fun e => by obtain ⟨_, e2⟩ := Array.getElem?_eq_some_iff.1 hy; rw [← e2]; exact e
      refine .agg (by simp) (fun i x y hx hy => ?_) (fun i x hx => ?_) (fun i y hy => plain_one (hp i y hy))
      · simp [hy] at hx; subst hx; exact .s (hp i y hy)
      · simp at hx; obtain ⟨y, hy, rfl⟩ := hx; rfl
    · exact .bot
  | tuple vs =>
    simp only [absC]
    split
    · rename_i h
      have : vs = #[] := Array.eq_empty_of_size_eq_zero h
      subst this
      exact .tup rfl (fun i x y hx => by simp at hx)
    · exact .bot
  | _ => simp only [absC]; split <;> first | exact .s (by assumption) | exact .bot

theorem ev_sound {t : List AV} {a : Act} (ht : VRs k t a.tmps.toList) (x : Operand) : VR k (aev t x) (a.eval x) := by
  cases x with
  | tmp i =>
    simp only [aev, Act.eval, nth_eq]
    by_cases hi : i < t.length
    · obtain ⟨y, hy, hr⟩ := ht.get (List.getElem?_eq_getElem hi)
      have h1 : t.getD i (.tup []) = t[i] := by simp [List.getD_eq_getElem?_getD, hi]
      have h2 : a.tmps.getD i undef = y := by
        simp only [Array.getElem?_toList] at hy
        simp [Array.getD_eq_getD_getElem?, hy]
      rw [h1, h2]; exact hr
    · have h1 : t.getD i (.tup []) = .tup [] := by simp [List.getD_eq_getElem?_getD, List.getElem?_eq_none (Nat.le_of_not_lt hi)]
      have h2 : a.tmps.getD i undef = undef := by
        have : a.tmps.size ≤ i := by rw [← Array.length_toList, ← ht.1]; exact Nat.le_of_not_lt hi
        simp [Array.getD_eq_getD_getElem?, Array.getElem?_eq_none this]
      rw [h1, h2]; exact .tup rfl (fun i x y hx => by simp at hx)
  | const v => exact absC_sound v
  | global g => exact .bot
  | func f => exact .fnF rfl rfl (fun i x y hx => by simp at hx) (fun i x y hx => by simp at hx)
theorem evs_sound {t : List AV} {a : Act} (ht : VRs k t a.tmps.toList) (xs : Array Operand) : VRs k (xs.toList.map (aev t)) (xs.map a.eval).toList := by
  refine ⟨by simp, fun i x y hx hy => ?_⟩
  simp at hx hy
  obtain ⟨o, ho, rfl⟩ := hx
  simp [ho] at hy
  subst hy
  exact ev_sound ht o

/-! ### New rows -/
theorem newRow_sound (hS : Sim P A k H) (elem : TypeId) {cells : List AV} {vs : Array Value} (hv : VRs k cells vs.toList) (h1 : cells.all AV.one = true) (h2 : ∀ x ∈ vs.toList, x.oneCell' = true) :
    ∃ k', (newRow elem vs).run P k.w = .ok ⟨k.w.heap.size, 0, none⟩ k'.w ∧ k'.L H.length = some ⟨k.w.heap.size, 0, vs.size⟩ ∧ KLe k k' ∧ Sim P A k' (H ++ [.arr cells]) := by
  refine ⟨_, ?_, ?_, KLe.grow hS (.cells vs elem (0, 0)) vs.size, Sim.grow hS _ _ _ ?_ (fun es h => by cases h) (fun _ _ _ _ _ _ _ h => by cases h)⟩
  · rfl
  · simp [KW.grow]
  · intro cs hcs
    injection hcs with hcs
    subst hcs
    refine ⟨vs, elem, rfl, rfl, by have := hv.1; simp at this; omega, fun i c hi => ?_⟩
    obtain ⟨y, hy, hr⟩ := hv.get hi
    exact ⟨List.all_eq_true.1 h1 c (List.mem_of_getElem? hi), y, by simpa using hy, h2 y (List.mem_of_getElem? hy), hr⟩

theorem newA_sound (hS : Sim P A k H) (elem : TypeId) {v : AV} {v' : Value} (hv : VR k v v') {p : AV × AH} (h : newA H v.cells = some p) :
    ∃ k', (newVar elem v').run P k.w = .ok ⟨k.w.heap.size, 0, none⟩ k'.w ∧ KLe k k' ∧ Sim P A k' p.2 ∧ VR k' p.1 (.pointer (some ⟨k.w.heap.size, 0, none⟩)) := by
  simp only [newA] at h
  split at h
  · rename_i h1
    injection h with h
    subst h
    obtain ⟨hc, h2⟩ := cells_sound hv h1
    obtain ⟨k', hr, hl, hle, hS'⟩ := newRow_sound hS elem hc h1 h2
    refine ⟨k', hr, hle, hS', ?_⟩
    have := VR.ptr (k := k') (off := 0) hl
    simpa using this
  · cases h

theorem zeroValue_run {t : TypeId} {z : Value} (h : zeroP P t = some z) (w : World) : (zeroValue t).run P w = .ok z w := by
  simp only [zeroP] at h
  unfold zeroValue typeInfo
  cases hi : P.info? t with
  | none => rw [hi] at h; cases h
  | some i => rw [hi] at h; simp at h; simp [hi, h]
theorem underlying_run {t : TypeId} {d : TypeDesc} (h : P.underlying t = some d) (w : World) : (underlying t).run P w = .ok d w := by
  unfold underlying; simp [h]
theorem isAgg_run {t : TypeId} (hd : (P.underlying t).isSome = true) (w : World) : (isAgg t).run P w = .ok (isAggP P t) w := by
  unfold isAgg isAggP
  cases h : P.underlying t with
  | none => rw [h] at hd; cases hd
  | some d => simp only [Sem.run_bind, underlying_run h, Result.andThen_ok]; cases d <;> rfl
theorem sizeOf_run {t : TypeId} (hd : (P.info? t).isSome = true) (w : World) : (sizeOf t).run P w = .ok (szP P t) w := by
  unfold sizeOf typeInfo szP
  cases h : P.info? t with
  | none => rw [h] at hd; cases hd
  | some i => simp [h]
theorem info_of_underlying {t : TypeId} (hd : (P.underlying t).isSome = true) : (P.info? t).isSome = true := by
  unfold Program.underlying at hd
  cases h : P.info? t with
  | some i => rfl
  | none => simp [h] at hd

/-! ### Parts put together -/
theorem foldl_splice (vs : List Value) : ∀ (cs : Array Value) (off i : Nat), off + i + vs.length ≤ cs.size →
    (((vs.zipIdx i).foldl (fun cs (x : Value × Nat) => cs.setIfInBounds (off + x.2) x.1) cs).size = cs.size ∧
     ∀ j, ((vs.zipIdx i).foldl (fun cs (x : Value × Nat) => cs.setIfInBounds (off + x.2) x.1) cs)[j]? = if off + i ≤ j ∧ j < off + i + vs.length then vs[j - (off + i)]? else cs[j]?) := by
  induction vs with
  | nil => intro cs off i h; exact ⟨rfl, fun j => by rw [if_neg (by simp)]; rfl⟩
  | cons v vs ih =>
    intro cs off i h
    simp only [List.length_cons] at h
    simp only [List.zipIdx_cons, List.foldl_cons]
    obtain ⟨h1, h2⟩ := ih (cs.setIfInBounds (off + i) v) off (i + 1) (by simp; omega)
    refine ⟨by rw [h1]; simp, fun j => ?_⟩
    rw [h2]
    simp only [List.length_cons]
    by_cases hj : j = off + i
    · subst hj
      rw [if_neg (by omega), if_pos (by omega), Array.getElem?_setIfInBounds]
      simp
      try omega
    · by_cases h3 : off + i ≤ j ∧ j < off + i + (vs.length + 1)
      · rw [if_pos h3, if_pos (by omega)]
        have : j - (off + i) = (j - (off + (i + 1))) + 1 := by omega
        rw [this, List.getElem?_cons_succ]
      · rw [if_neg h3, if_neg (by omega), Array.getElem?_setIfInBounds_ne (fun e => hj e.symm)]

theorem fill_sound (place : Nat → Option (Nat × Nat)) : ∀ (ps : List (Nat × Nat × AV)) (parts : List (Nat × Value)) (cells out : List AV) (cs : Array Value), parts.length = ps.length →
    (∀ (i : Nat) p q, ps[i]? = some p → parts[i]? = some q → place q.1 = some (p.1, p.2.1) ∧ VR k p.2.2 q.2) →
    VRs k cells cs.toList → cells.all AV.one = true → (∀ x ∈ cs.toList, x.oneCell' = true) → fillA cells ps = some out →
    ∃ cs', Instr.fill place cs parts = some cs' ∧ (∀ x ∈ cs'.toList, x.oneCell' = true) ∧ out.all AV.one = true ∧ VRs k out cs'.toList := by
  intro ps
  induction ps with
  | nil =>
    intro parts cells out cs hl hp hc h1 h2 h
    have : parts = [] := List.eq_nil_of_length_eq_zero hl
    subst this
    simp only [fillA] at h; injection h with h; subst h
    exact ⟨cs, rfl, h2, h1, hc⟩
  | cons p ps ih =>
    intro parts cells out cs hl hp hc h1 h2 h
    obtain ⟨off, size, v⟩ := p
    cases parts with
    | nil => simp at hl
    | cons q parts =>
      obtain ⟨i, w⟩ := q
      simp only [fillA] at h
      split at h
      · rename_i hcond
        obtain ⟨hsz, hle, hone⟩ := hcond
        obtain ⟨hpl, hvr⟩ := hp 0 _ _ rfl rfl
        dsimp only at hpl hvr
        obtain ⟨hvc, hv1⟩ := cells_sound hvr hone
        have hlc : cells.length = cs.size := by rw [hc.1]; exact Array.length_toList
        have hlw : w.cells.size = v.cells.length := by rw [hvc.1]; exact Array.length_toList.symm
        obtain ⟨f1, f2⟩ := foldl_splice w.cells.toList cs off 0 (by rw [← hvc.1]; omega)
        have hfold : (w.cells.zipIdx.foldl (fun cs (x : Value × Nat) => cs.setIfInBounds (off + x.2) x.1) cs) = ((w.cells.toList.zipIdx 0).foldl (fun cs (x : Value × Nat) => cs.setIfInBounds (off + x.2) x.1) cs) := by
          rw [← Array.foldl_toList]; simp
        have hget : ∀ j, (w.cells.zipIdx.foldl (fun cs (x : Value × Nat) => cs.setIfInBounds (off + x.2) x.1) cs)[j]? = if off ≤ j ∧ j < off + v.cells.length then w.cells[j - off]? else cs[j]? := by
          intro j
          rw [hfold, f2 j, ← hvc.1]
          simp
        have hsp : off + v.cells.length ≤ cells.length := by omega
        have hnew : VRs k (splice cells off v.cells) (w.cells.zipIdx.foldl (fun cs (x : Value × Nat) => cs.setIfInBounds (off + x.2) x.1) cs).toList := by
          refine ⟨?_, fun j x y hx hy => ?_⟩
          · exact (length_splice hsp).trans (hlc.trans ((f1.symm.trans (congrArg Array.size hfold.symm)).trans Array.length_toList.symm))
          · rw [get_splice hsp] at hx
            rw [Array.getElem?_toList, hget j] at hy
            split at hx
            · rename_i hin; rw [if_pos hin] at hy; exact hvc.2 _ x y hx (by simpa using hy)
            · rename_i hin; rw [if_neg hin] at hy; exact hc.2 j x y hx (by simpa using hy)
        have hnew1 : (splice cells off v.cells).all AV.one = true := by
          simp only [splice, List.all_append, Bool.and_eq_true]
          refine ⟨⟨?_, hone⟩, ?_⟩
          · exact List.all_eq_true.2 fun x hx => List.all_eq_true.1 h1 x (List.mem_of_mem_take hx)
          · exact List.all_eq_true.2 fun x hx => List.all_eq_true.1 h1 x (List.mem_of_mem_drop hx)
        have hnew2 : ∀ x ∈ (w.cells.zipIdx.foldl (fun cs (x : Value × Nat) => cs.setIfInBounds (off + x.2) x.1) cs).toList, x.oneCell' = true := by
          intro x hx
          obtain ⟨j, hj⟩ := List.mem_iff_getElem?.1 hx
          rw [Array.getElem?_toList, hget j] at hj
          split at hj
          · exact hv1 x (List.mem_of_getElem? (by simpa using hj))
          · exact h2 x (List.mem_of_getElem? (by simpa using hj))
        obtain ⟨cs', hf, ho⟩ := ih parts _ out _ (by simpa using hl) (fun j p q hp1 hq1 => hp (j + 1) p q hp1 hq1) hnew hnew1 hnew2 h
        refine ⟨cs', ?_, ho⟩
        rw [Instr.fill, hpl]
        dsimp only
        rw [if_neg (by simp; omega)]
        exact hf
      · cases h

/-! ### Results -/
inductive DR (k : KW) : AD → Deferred → Prop
  | fn {g : FuncId} {cap args : List AV} {cap' args' : Array Value} : VRs k cap cap'.toList → VRs k args args'.toList → DR k (.fn (.func g) cap args) { target := .fn (.func g) cap', args := args' }

def OpR (P : Program) (A : Ann) (k : KW) (H : AH) (r : R1) (res : Result Next) : Prop :=
  match r with
  | .val v H' => ∃ k' v', (res = .ok (.value v') k'.w ∨ res = .ok .skip k'.w ∧ v' = undef) ∧ KLe k k' ∧ Sim P A k' H' ∧ VR k' v v'
  | .enter f args => ∃ args' : Array Value, res = (callFunc f args').run P k.w ∧ VRs k args args'.toList
  | .yield id args => ∃ (l : Loc) (args' : Array Value), k.L id = some l ∧ res = (Instr.yield l.b args').run P k.w ∧ VRs k args args'.toList
  | .defer d => ∃ d', res = .ok (.defer d') k.w ∧ DR k d d'
  | .recover => res = .ok .recover k.w
  | .panic v => ∃ v', res = .halt (.panic v') k.w ∧ VR k v v'

/-- A value, memory as it was. -/
theorem OpR.same (hS : Sim P A k H) {v : AV} {v' : Value} {res : Result Next} (hr : res = .ok (.value v') k.w) (hv : VR k v v') : OpR P A k H (.val v H) res :=
  ⟨k, v', .inl hr, KLe.refl k, hS, hv⟩

theorem plain_inv {v : Value} {v' : Value} (h : VR k (.s v) v') : v' = v ∧ plain v = true := by cases h with | s hp => exact ⟨rfl, hp⟩

/-! ### Operators -/
theorem binInt_run (w : World) {op : BinOp} {kk : IntKind} {x y : Int} {v : Value} (t : TypeId) (h : binInt op kk x y = some v) : (binOp op t (.int kk x) (.int kk y)).run P w = .ok v w := by
  cases op <;> simp only [binInt] at h <;> first
    | (injection h with h; subst h; simp [binOp, Op.intArith, Op.intBits, Op.intCmp]; done)
    | (split at h
       · cases h
       · rename_i hy; injection h with h; subst h; simp [binOp, Op.intDiv, hy])
    | cases h
theorem shV_run (w : World) {op : BinOp} {kk k2 : IntKind} {x y : Int} {v : Value} (t : TypeId) (hop : op = .shl ∨ op = .shr) (h : shV op kk x y = some v) : (binOp op t (.int kk x) (.int k2 y)).run P w = .ok v w := by
  simp only [shV] at h
  split at h
  · cases h
  · rename_i hy
    rcases hop with rfl | rfl <;> (injection h with h; subst h; simp [binOp, Op.shift, hy])
theorem binStr_run (w : World) {op : BinOp} {x y : ByteArray} {v : Value} (t : TypeId) (h : binStr op x y = some v) : (binOp op t (.string x) (.string y)).run P w = .ok v w := by
  cases op <;> simp only [binStr] at h <;> first
    | (injection h with h; subst h; simp [binOp, Op.stringOp]; done)
    | (split at h
       · rename_i hle
         injection h with h; subst h
         have hm : ¬ ((x.size + y.size : Nat) : Int) > IntKind.i64.max := by
           have : IntKind.i64.max = 9223372036854775807 := by decide
           omega
         simp [binOp, Op.stringOp, hm]
         omega
       · cases h)
    | cases h

end Go.Proofs.Ytkcamjcicegclaa.V

/- V, part F: operations that make values out of values, and slices. Conditions: none. -/
namespace Go.Proofs.Ytkcamjcicegclaa.V
open Go

variable {P : Program} {A : Ann} {k : KW} {H : AH}

theorem asB_inv {β : Type} {v : AV} {v' : Value} (h : VR k v v') {f : Bool → Option β} {r : β} (hr : asB v f = some r) : ∃ b, v = .s (.bool b) ∧ v' = .bool b ∧ f b = some r := by
  unfold asB at hr
  split at hr
  · rename_i b; obtain ⟨h1, _⟩ := plain_inv h; exact ⟨b, rfl, h1, hr⟩
  · cases hr

theorem intA_inv {v : AV} {v' : Value} (h : VR k v v') {n : Int} (hn : intA v = some n) : ∃ kk, v = .s (.int kk n) ∧ v' = .int kk n := by
  unfold intA at hn
  split at hn
  · rename_i kk m; injection hn with hn; subst hn; obtain ⟨h1, _⟩ := plain_inv h; exact ⟨kk, rfl, h1⟩
  · cases hn

/-! ### Addresses -/
theorem addA_sound {v r : AV} {v' : Value} {n : Nat} (hv : VR k v v') (h : addA v n = some r) : ∃ ad, v' = .pointer (some ad) ∧ VR k r (.pointer (some (ad.add n))) := by
  unfold addA at h
  split at h
  · injection h with h; subst h
    cases hv with | ptr hl => exact ⟨_, rfl, by rw [add_plain', Nat.add_assoc]; exact .ptr hl⟩
  · injection h with h; subst h
    cases hv with | pv f hI hc hr => exact ⟨_, rfl, by rw [add_plain', Nat.add_assoc]; exact .pv f hI hc hr⟩
  · cases h

theorem idxAddr_sound (w : World) {x i r : AV} {x' i' : Value} {sz : Nat} {t e : TypeId} (hx : VR k x x') (hi : VR k i i') (ht : P.underlying t = some (.slice e)) (he : szP P e = sz) (hie : (P.info? e).isSome = true) (h : idxAddr sz x i = some r) :
    ∃ v', (Instr.indexAt t x' i').run P w = .ok v' w ∧ VR k r v' := by
  unfold idxAddr at h
  split at h
  · rename_i kk n
    obtain ⟨rfl, _⟩ := plain_inv hi
    have key : ∀ (len cap : Nat) (a : Addr), x' = .slice (some a) len cap → 0 ≤ n → n < (len : Int) → (Instr.indexAt t x' (.int kk n)).run P w = .ok (.pointer (some (a.add (n.toNat * sz)))) w := by
      intro len cap a hx' h0 h1
      subst hx'
      unfold Instr.indexAt
      simp [asIntOf, underlying_run ht, sizeOf_run hie, he, h0, h1]
    split at h
    · rename_i len cells full
      split at h
      · rename_i hc
        injection h with h; subst h
        cases hx with
        | sl0 => simp at hc; omega
        | sl f hI hcells hr hf hle =>
          exact ⟨_, key _ _ _ rfl hc.1 hc.2, by rw [add_plain']; exact .pv f hI hcells hr⟩
      · cases h
    · rename_i id off len sz' cap
      split at h
      · rename_i hc
        injection h with h; subst h
        cases hx with
        | slr hl hcap hle hn ha =>
          have := ha (by omega)
          subst this
          exact ⟨_, key _ _ _ rfl hc.1 hc.2, by rw [add_plain', Nat.add_assoc]; exact .ptr hl⟩
      · cases h
    · cases h
  · cases h

theorem idxArr_sound (w : World) {x i r : AV} {x' i' : Value} {sz n : Nat} {t e : TypeId} (hx : VR k x x') (hi : VR k i i') (ht : P.underlying t = some (.array n e)) (he : szP P e = sz) (hie : (P.info? e).isSome = true) (h : idxArr sz n x i = some r) :
    ∃ v', (Instr.indexAt t x' i').run P w = .ok v' w ∧ VR k r v' := by
  unfold idxArr at h
  split at h
  · rename_i kk m
    obtain ⟨rfl, _⟩ := plain_inv hi
    split at h
    · rename_i hc
      have key : ∀ (a : Addr), x' = .pointer (some a) → (Instr.indexAt t x' (.int kk m)).run P w = .ok (.pointer (some (a.add (m.toNat * sz)))) w := by
        intro a hx'
        subst hx'
        unfold Instr.indexAt
        simp [asIntOf, underlying_run ht, sizeOf_run hie, he, hc.1, hc.2, Instr.sureAddr]
      split at h
      · injection h with h; subst h
        cases hx with | ptr hl => exact ⟨_, key _ rfl, by rw [add_plain', Nat.add_assoc]; exact .ptr hl⟩
      · injection h with h; subst h
        cases hx with | pv f hI hc' hr => exact ⟨_, key _ rfl, by rw [add_plain', Nat.add_assoc]; exact .pv f hI hc' hr⟩
      · cases h
    · cases h
  · cases h

/-! ### Slices of slices -/
theorem bound_run (w : World) {v : AV} {v' : Value} (hv : VR k v v') {n : Int} (hn : intA v = some n) {y : Nat} (h0 : 0 ≤ n) (h1 : n ≤ (y : Int)) (code : BoundsCode) : (Instr.sliceBound v' y code).run P w = .ok n.toNat w := by
  obtain ⟨kk, _, rfl⟩ := intA_inv hv hn
  simp [Instr.sliceBound, asIntOf, h0, h1]

/-- An optional operand, related. -/
def VRo (k : KW) (x : Option AV) (y : Option Value) : Prop := match x, y with | none, none => True | some v, some v' => VR k v v' | _, _ => False

/-- The bounds of a slice expression, as V reckons them. -/
theorem bounds_none (w : World) {lo hi : Option AV} {lo' hi' : Option Value} (hlo : VRo k lo lo') (hhi : VRo k hi hi') (isS : Bool) {len cap : Nat} {l h : Int} (h1 : hiOf 0 lo = some l) (h2 : hiOf len hi = some h) (hl : 0 ≤ l) (hlh : l ≤ h) (hc : h ≤ (cap : Int)) :
    (Instr.sliceBounds isS len cap lo' hi' none).run P w = .ok (l.toNat, h.toNat, cap) w := by
  unfold Instr.sliceBounds
  cases hi with
  | none => cases hi' with
    | some v => cases hhi
    | none =>
      simp only [hiOf] at h2; injection h2 with h2; subst h2
      cases lo with
      | none => cases lo' with
        | some v => cases hlo
        | none => simp only [hiOf] at h1; injection h1 with h1; subst h1; simp
      | some v => cases lo' with
        | none => cases hlo
        | some v' => simp only [Sem.run_bind, Sem.run_pure, Result.andThen_ok]; rw [bound_run w hlo h1 hl (show l ≤ (len : Int) by omega)]; simp
  | some v => cases hi' with
    | none => cases hhi
    | some v' =>
      have hb := fun code => bound_run (P := P) w hhi h2 (show 0 ≤ h by omega) hc code
      cases lo with
      | none => cases lo' with
        | some v => cases hlo
        | none => simp only [hiOf] at h1; injection h1 with h1; subst h1; simp only [Sem.run_bind, Sem.run_pure, Result.andThen_ok, hb]; simp
      | some u => cases lo' with
        | none => cases hlo
        | some u' => simp only [Sem.run_bind, Sem.run_pure, Result.andThen_ok, hb]; rw [bound_run w hlo h1 hl (show l ≤ (h.toNat : Int) by omega)]; simp
theorem bounds_some (w : World) {lo hi : Option AV} {mv : AV} {lo' hi' : Option Value} {mv' : Value} (hlo : VRo k lo lo') (hhi : VRo k hi hi') (hm : VR k mv mv') (isS : Bool) {len cap : Nat} {l h m : Int} (h1 : hiOf 0 lo = some l) (h2 : hi.bind intA = some h) (h3 : intA mv = some m)
    (hl : 0 ≤ l) (hlh : l ≤ h) (hhm : h ≤ m) (hc : m ≤ (cap : Int)) : (Instr.sliceBounds isS len cap lo' hi' (some mv')).run P w = .ok (l.toNat, h.toNat, m.toNat) w := by
  unfold Instr.sliceBounds
  have hM := fun code => bound_run (P := P) w hm h3 (show 0 ≤ m by omega) hc code
  cases hi with
  | none => cases h2
  | some v => cases hi' with
    | none => cases hhi
    | some v' =>
      simp only [Option.bind_some] at h2
      have hb := fun code => bound_run (P := P) w hhi h2 (show 0 ≤ h by omega) (show h ≤ (m.toNat : Int) by omega) code
      cases lo with
      | none => cases lo' with
        | none => simp only [hiOf] at h1; injection h1 with h1; subst h1; simp only [Sem.run_bind, Sem.run_pure, Result.andThen_ok, hM, hb]; simp
        | some v => cases hlo
      | some v => cases lo' with
        | none => cases hlo
        | some v' => simp only [Sem.run_bind, Sem.run_pure, Result.andThen_ok, hM, hb]; rw [bound_run w hlo h1 hl (show l ≤ (h.toNat : Int) by omega)]; simp

/-- A part of a by-value slice. -/
theorem sl_part {n c : Nat} {cells : List AV} {full full' : Bool} {a : Option Addr} (hx : VR k (.sl n cells full) (.slice a n c)) (sz l h m : Nat) (hlh : l ≤ h) (hhn : h ≤ n) (hhm : h ≤ m) (hmc : m ≤ c) (hf : full' = true → m = h) :
    VR k (.sl (h - l) ((cells.drop (l * sz)).take ((h - l) * sz)) full') (.slice (if m = l then a else a.map (·.add (l * sz))) (h - l) (m - l)) := by
  cases hx with
  | sl0 hf' =>
    have h0 : h = 0 := by omega
    have l0 : l = 0 := by omega
    subst h0; subst l0
    simp only [List.drop_nil, List.take_nil, Nat.sub_self, Nat.sub_zero]
    rename_i a0
    have hex : ∃ a', (if m = 0 then some a0 else (some a0).map (·.add (0 * sz))) = some a' := by split <;> exact ⟨_, rfl⟩
    obtain ⟨a', ha'⟩ := hex
    rw [ha']
    exact .sl0 (fun e => by have := hf e; omega)
  | sl f hI hc hr hf' hle =>
    rename_i b o
    by_cases hml : m = l
    · have : h - l = 0 := by omega
      rw [this]
      simp only [Nat.zero_mul, List.take_zero]
      rw [if_pos hml]
      exact .sl0 (fun e => by omega)
    · rw [if_neg hml]
      simp only [Option.map_some, add_plain']
      refine .sl (fun i => f (l * sz + i)) hI (fun i x hi => ?_) (fun i x hi => ?_) (fun e => by have := hf e; omega) (by omega)
      · rw [List.getElem?_take] at hi
        split at hi
        · rw [List.getElem?_drop] at hi
          obtain ⟨h1, h2, h3⟩ := hc _ _ hi
          exact ⟨h1, h2, by rw [Nat.add_assoc]; exact h3⟩
        · cases hi
      · rw [List.getElem?_take] at hi
        split at hi
        · rw [List.getElem?_drop] at hi; exact hr _ _ hi
        · cases hi
/-- A part of an own slice. -/
theorem slr_part {id off n sz c : Nat} {cap : Option Nat} {a : Option Addr} (hx : VR k (.slr id off n sz cap) (.slice a n c)) (l h m : Nat) (hlh : l ≤ h) (hhm : h ≤ m) (hmc : m ≤ c) (cap' : Option Nat) (hcap : ∀ x, cap' = some x → m - l = x) (hno : cap' = none → cap = none ∧ m = c) :
    VR k (.slr id (off + l * sz) (h - l) sz cap') (.slice (if m = l then a else a.map (·.add (l * sz))) (h - l) (m - l)) := by
  cases hx with
  | slr hl hc hle hn ha =>
    rename_i loc a
    have key : ∀ a' : Addr, (0 < m - l → a' = ⟨loc.b, loc.s + (off + l * sz), none⟩) → VR k (.slr id (off + l * sz) (h - l) sz cap') (.slice (some a') (h - l) (m - l)) := by
      intro a' ha'
      refine .slr hl hcap (by omega) (fun e => ?_) ha'
      obtain ⟨h1, h2⟩ := hno e
      have h3 := hn h1
      subst h2
      have h4 : m * sz = l * sz + (m - l) * sz := by rw [← Nat.add_mul]; congr 1; omega
      omega
    by_cases hml : m = l
    · rw [if_pos hml]; exact key a (fun h => by omega)
    · rw [if_neg hml]
      simp only [Option.map_some]
      refine key _ (fun _ => ?_)
      rw [ha (by omega), add_plain', Nat.add_assoc]

theorem toNat_sub' (a b : Int) (h : 0 ≤ b) (h2 : b ≤ a) : (a - b).toNat = a.toNat - b.toNat := by omega

theorem slcA_sound (w : World) {x r : AV} {lo hi mx : Option AV} {x' : Value} {lo' hi' mx' : Option Value} {sz : Nat} {t e : TypeId} (hx : VR k x x') (hlo : VRo k lo lo') (hhi : VRo k hi hi') (hmx : VRo k mx mx') (ht : P.underlying t = some (.slice e)) (he : szP P e = sz) (hie : (P.info? e).isSome = true)
    (h : slcA sz x lo hi mx = some r) : ∃ v', (Instr.sliceAt t x' lo' hi' mx').run P w = .ok v' w ∧ VR k r v' := by
  have key : ∀ (a : Option Addr) (len cap l hh m : Nat), x' = .slice a len cap → (Instr.sliceBounds true len cap lo' hi' mx').run P w = .ok (l, hh, m) w →
      (Instr.sliceAt t x' lo' hi' mx').run P w = .ok (.slice (if m = l then a else a.map (·.add (l * sz))) (hh - l) (m - l)) w := by
    intro a len cap l hh m hx' hb
    subst hx'
    unfold Instr.sliceAt Instr.slice
    simp [underlying_run ht, hb, sizeOf_run hie, he]
  unfold slcA at h
  cases hl1 : hiOf 0 lo with
  | none => rw [hl1] at h; cases h
  | some l =>
    rw [hl1] at h
    simp only [Option.bind_some] at h
    cases mx with
    | none =>
      cases mx' with
      | some v => cases hmx
      | none =>
        dsimp only at h
        split at h
        · obtain ⟨rfl, hp⟩ := plain_inv hx
          cases hh : hiOf 0 hi with
          | none => rw [hh] at h; cases h
          | some hv =>
            rw [hh] at h
            simp only [Option.bind_some] at h
            split at h
            · rename_i hc; obtain ⟨rfl, rfl⟩ := hc
              injection h with h; subst h
              have := key none 0 0 0 0 0 rfl (bounds_none w hlo hhi true hl1 hh (by omega) (by omega) (by omega))
              exact ⟨_, this, hx⟩
            · cases h
        · rename_i n cells full
          cases hh : hiOf n hi with
          | none => rw [hh] at h; cases h
          | some hv =>
            rw [hh] at h
            simp only [Option.bind_some] at h
            split at h
            · rename_i hc
              injection h with h; subst h
              have hform : ∃ a c, x' = .slice a n c ∧ n ≤ c ∧ (full = true → c = n) := by
                cases hx with
                | sl0 hf => exact ⟨_, _, rfl, by omega, hf⟩
                | sl f _ _ _ hf hle => exact ⟨_, _, rfl, hle, hf⟩
              obtain ⟨a, c, rfl, hnc, hfc⟩ := hform
              refine ⟨_, key a n c _ _ _ rfl (bounds_none w hlo hhi true hl1 hh hc.1 hc.2.1 (by omega)), ?_⟩
              rw [toNat_sub' _ _ hc.1 hc.2.1]
              exact sl_part hx sz l.toNat hv.toNat c (by omega) (by omega) (by omega) (Nat.le_refl _) (fun e => by simp at e; have := hfc e.1; omega)
            · cases h
        · rename_i id off n sz' c0
          cases hh : hiOf n hi with
          | none => rw [hh] at h; cases h
          | some hv =>
            rw [hh] at h
            simp only [Option.bind_some] at h
            split at h
            · rename_i hc
              obtain ⟨rfl, hc⟩ := hc
              injection h with h; subst h
              have hform : ∃ a, x' = .slice a n c0 := by cases hx with | slr _ hcap _ _ _ => have := hcap _ rfl; subst this; exact ⟨_, rfl⟩
              obtain ⟨a, rfl⟩ := hform
              refine ⟨_, key a n c0 _ _ _ rfl (bounds_none w hlo hhi true hl1 hh hc.1 hc.2.1 hc.2.2), ?_⟩
              rw [toNat_sub' _ _ hc.1 hc.2.1]
              exact slr_part hx l.toNat hv.toNat c0 (by omega) (by omega) (Nat.le_refl _) _ (fun x e => by injection e) (fun e => by cases e)
            · cases h
        · rename_i id off n sz'
          cases hh : hiOf n hi with
          | none => rw [hh] at h; cases h
          | some hv =>
            rw [hh] at h
            simp only [Option.bind_some] at h
            split at h
            · rename_i hc
              obtain ⟨rfl, hc⟩ := hc
              injection h with h; subst h
              have hform : ∃ a c, x' = .slice a n c ∧ n ≤ c := by cases hx with | slr _ _ hle _ _ => exact ⟨_, _, rfl, hle⟩
              obtain ⟨a, c, rfl, hnc⟩ := hform
              refine ⟨_, key a n c _ _ _ rfl (bounds_none w hlo hhi true hl1 hh hc.1 hc.2.1 (by omega)), ?_⟩
              rw [toNat_sub' _ _ hc.1 hc.2.1]
              exact slr_part hx l.toNat hv.toNat c (by omega) (by omega) (Nat.le_refl _) _ (fun x e => by cases e) (fun _ => ⟨rfl, rfl⟩)
            · cases h
        · cases h
    | some mv =>
      cases mx' with
      | none => cases hmx
      | some mv' =>
        dsimp only at h
        cases hm : intA mv with
        | none => rw [hm] at h; cases h
        | some m =>
          rw [hm] at h
          simp only [Option.bind_some] at h
          cases hh : hi.bind intA with
          | none => rw [hh] at h; cases h
          | some hv =>
            rw [hh] at h
            simp only [Option.bind_some] at h
            split at h
            · obtain ⟨rfl, hp⟩ := plain_inv hx
              split at h
              · rename_i hc; obtain ⟨rfl, rfl, rfl⟩ := hc
                injection h with h; subst h
                have := key none 0 0 0 0 0 rfl (bounds_some w hlo hhi hmx true hl1 hh hm (by omega) (by omega) (by omega) (by omega))
                exact ⟨_, this, hx⟩
              · cases h
            · rename_i n cells full
              split at h
              · rename_i hc
                injection h with h; subst h
                have hform : ∃ a c, x' = .slice a n c ∧ n ≤ c := by
                  cases hx with
                  | sl0 hf => exact ⟨_, _, rfl, by omega⟩
                  | sl f _ _ _ hf hle => exact ⟨_, _, rfl, hle⟩
                obtain ⟨a, c, rfl, hnc⟩ := hform
                refine ⟨_, key a n c _ _ _ rfl (bounds_some w hlo hhi hmx true hl1 hh hm hc.1 hc.2.1 hc.2.2.1 (by omega)), ?_⟩
                rw [toNat_sub' _ _ hc.1 hc.2.1]
                exact sl_part hx sz l.toNat hv.toNat m.toNat (by omega) (by omega) (by omega) (by omega) (fun e => by simp at e; omega)
              · cases h
            · rename_i id off n sz' c0
              split at h
              · rename_i hc
                obtain ⟨rfl, hc⟩ := hc
                injection h with h; subst h
                have hform : ∃ a, x' = .slice a n c0 := by cases hx with | slr _ hcap _ _ _ => have := hcap _ rfl; subst this; exact ⟨_, rfl⟩
                obtain ⟨a, rfl⟩ := hform
                refine ⟨_, key a n c0 _ _ _ rfl (bounds_some w hlo hhi hmx true hl1 hh hm hc.1 hc.2.1 hc.2.2.1 hc.2.2.2), ?_⟩
                rw [toNat_sub' _ _ hc.1 hc.2.1]
                exact slr_part hx l.toNat hv.toNat m.toNat (by omega) (by omega) (by omega) _ (fun x e => by injection e with e; omega) (fun e => by cases e)
              · cases h
            · rename_i id off n sz'
              split at h
              · rename_i hc
                obtain ⟨rfl, hc⟩ := hc
                injection h with h; subst h
                have hform : ∃ a c, x' = .slice a n c ∧ n ≤ c := by cases hx with | slr _ _ hle _ _ => exact ⟨_, _, rfl, hle⟩
                obtain ⟨a, c, rfl, hnc⟩ := hform
                refine ⟨_, key a n c _ _ _ rfl (bounds_some w hlo hhi hmx true hl1 hh hm hc.1 hc.2.1 hc.2.2.1 (by omega)), ?_⟩
                rw [toNat_sub' _ _ hc.1 hc.2.1]
                exact slr_part hx l.toNat hv.toNat m.toNat (by omega) (by omega) (by omega) _ (fun x e => by injection e with e; omega) (fun e => by cases e)
              · cases h
            · cases h

end Go.Proofs.Ytkcamjcicegclaa.V

/- V, part G: append, copy, make. Conditions: none. -/
namespace Go.Proofs.Ytkcamjcicegclaa.V
open Go

variable {P : Program} {A : Ann} {k : KW} {H : AH}

theorem fits_iff {n bytes : Nat} : fits n bytes = true ↔ n * bytes ≤ room ∧ n ≤ 9223372036854775807 := by
  unfold fits
  rw [Bool.and_eq_true, Nat.ble_eq, Nat.ble_eq]

theorem growBy_le (newLen : Nat) : ∀ r c, Builtin.growBy newLen r c ≤ max c (newLen + (newLen + 768) / 4) := by
  intro r
  induction r with
  | zero => intro c; simp only [Builtin.growBy]; omega
  | succ r ih =>
    intro c
    simp only [Builtin.growBy]
    split
    · omega
    · have := ih (c + (c + 768) / 4); omega
theorem nextcap_le {need cap : Nat} (h : cap < need) : Builtin.nextslicecap need cap ≤ 3 * need := by
  unfold Builtin.nextslicecap
  split
  · omega
  · split
    · omega
    · have := growBy_le need 4 cap; omega

theorem byteCells_one (b : ByteArray) : (byteCells b).all AV.one = true := by
  rw [List.all_eq_true]
  intro x hx
  simp only [byteCells, List.mem_map] at hx
  obtain ⟨y, _, rfl⟩ := hx
  rfl

/-- What a slice (or string) is for append and copy: its elements' cells. -/
structure SlR (P : Program) (k : KW) (x' : Value) (sz n : Nat) (cells : List AV) (vs : Array Value) : Prop where
  len : ∀ w, (Builtin.lenOf x').run P w = .ok n w
  size : cells.length = n * sz
  rel : VRs k cells vs.toList
  one : ∀ v ∈ vs.toList, v.oneCell' = true
  first : ∀ w', w'.heap = k.w.heap → ∀ m, m ≤ n → (Builtin.firstCells sz m x').run P w' = .ok (vs.extract 0 (m * sz)) w'

/-- Cells read from memory, as many as are asked for. -/
theorem SlR.mem {a : Addr} {n c sz : Nat} {cells : List AV} (f : Nat → Value) (hlen : cells.length = n * sz) (hc : ∀ (i : Nat) x, cells[i]? = some x → (f i).oneCell' = true ∧ k.w.cell? (a.add i) = some (f i) ∧ VR k x (f i)) :
    SlR P k (.slice (some a) n c) sz n cells ((List.range (n * sz)).map f).toArray where
  len w := rfl
  size := hlen
  rel := by
    refine ⟨by simp [hlen], fun i x y hx hy => ?_⟩
    have hi : i < n * sz := by rw [← hlen]; exact (List.getElem?_eq_some_iff.1 hx).1
    simp [hi] at hy
    subst hy; exact (hc i x hx).2.2
  one v hv := by
    simp at hv
    obtain ⟨i, hi, rfl⟩ := hv
    exact (hc i cells[i] (List.getElem?_eq_getElem (by omega))).1
  first w' hw m hm := by
    have hcell : ∀ ad, w'.cell? ad = k.w.cell? ad := fun ad => by simp only [World.cell?, hw]
    have hmn : m * sz ≤ n * sz := Nat.mul_le_mul_right _ hm
    show (loadCells a (m * sz)).run P w' = _
    unfold loadCells
    rw [run_loadCellsFrom P w' a f (m * sz) 0 #[] (fun j _ hj => (hcell _).trans (hc j cells[j] (List.getElem?_eq_getElem (by omega))).2.1)]
    congr 1
    apply Array.ext'
    simp only [Nat.zero_add, Array.empty_append, List.extract_toArray, List.extract_eq_take_drop, List.drop_zero, Nat.sub_zero]
    rw [← List.map_take, List.take_range, Nat.min_eq_left hmn]
theorem SlR.empty {a : Option Addr} {c sz : Nat} : SlR P k (.slice a 0 c) sz 0 [] #[] where
  len w := rfl
  size := by simp
  rel := VRs.nil k
  one v hv := by simp at hv
  first w' hw m hm := by
    have : m = 0 := by omega
    subst this
    cases a <;> simp [Builtin.firstCells, loadCells, loadCellsFrom]

theorem readSl_sound (hS : Sim P A k H) {x : AV} {x' : Value} (hx : VR k x x') {sz n : Nat} {cells : List AV} (h : readSl H sz x = some (n, cells)) : ∃ vs, SlR P k x' sz n cells vs := by
  unfold readSl at h
  split at h
  · injection h with h; injection h with h1 h2; subst h1; subst h2
    obtain ⟨rfl, _⟩ := plain_inv hx
    exact ⟨_, SlR.empty⟩
  · rename_i b
    obtain ⟨rfl, _⟩ := plain_inv hx
    split at h
    · rename_i hs; subst hs
      injection h with h; injection h with h1 h2; subst h1; subst h2
      refine ⟨b.data.map fun x => .int .u8 x.toNat, fun w => rfl, by simp [byteCells], ⟨by simp [byteCells], fun i x y hx hy => ?_⟩, fun v hv => ?_, fun w' hw m hm => ?_⟩
      · simp only [byteCells, List.getElem?_map] at hx
        simp only [Array.toList_map, List.getElem?_map] at hy
        cases hb : b.data.toList[i]? with
        | none => rw [hb] at hx; cases hx
        | some u => rw [hb] at hx hy; simp at hx hy; subst hx; subst hy; exact .s rfl
      · simp only [Array.toList_map, List.mem_map] at hv
        obtain ⟨u, _, rfl⟩ := hv
        rfl
      · simp [Builtin.firstCells, ByteArray.extract, ByteArray.copySlice]
    · cases h
  · rename_i len cells' full
    split at h
    · rename_i hl
      injection h with h; injection h with h1 h2; subst h1; subst h2
      cases hx with
      | sl0 => exact ⟨_, SlR.empty⟩
      | sl f hI hc hr hf hle => exact ⟨_, SlR.mem f hl (fun i x hi => ⟨(hc i x hi).2.1, by rw [add_plain']; exact (hc i x hi).2.2, hr i x hi⟩)⟩
    · cases h
  · rename_i id off len sz' cap
    split at h
    · rename_i hs; subst hs
      cases ho : H[id]? with
      | none => rw [ho] at h; cases h
      | some o =>
        rw [ho] at h
        cases o with
        | arr cs0 =>
          dsimp only at h
          split at h
          · rename_i hle
            injection h with h; injection h with h1 h2; subst h1; subst h2
            cases hx with
            | slr hl hcap hlen hno ha =>
              rename_i c l a
              obtain ⟨l', cs, elem, hl', hb, hsz, hle2, hc⟩ := hS.arr id cs0 ho
              rw [hl] at hl'; cases hl'
              by_cases hn : len = 0
              · subst hn
                simp only [Nat.zero_mul, List.take_zero]
                exact ⟨_, SlR.empty⟩
              · have := ha (by omega)
                subst this
                refine ⟨_, SlR.mem (fun i => (cs[l.s + (off + i)]?).getD undef) (by simp; omega) (fun i x hi => ?_)⟩
                rw [List.getElem?_take] at hi
                split at hi
                · rw [List.getElem?_drop] at hi
                  obtain ⟨h1, v, hv, h2, h3⟩ := hc _ _ hi
                  refine ⟨by simp [hv, h2], ?_, by simpa [hv] using h3⟩
                  rw [add_plain']
                  simp [World.cell?, hb, Nat.add_assoc, hv]
                · cases hi
          · cases h
        | _ => cases h
    · cases h
  · cases h

/-! ### The builtin's two ways -/
/-- A slice's or a string's type. -/
def seqD : TypeDesc → Prop
  | .slice _ | .string => True
  | _ => False

theorem append_fits (w : World) {t t2 e ty : TypeId} {d2 : TypeDesc} (ht : P.underlying t = some (.slice e)) (ht2 : P.underlying t2 = some d2) (hd2 : seqD d2) {i : TypeInfo} (hi : P.info? e = some i) {y' : Value} {n m c : Nat} {vs : Array Value}
    (hl : (Builtin.lenOf y').run P w = .ok n w) (hf : (Builtin.firstCells i.size n y').run P w = .ok vs w) (base : Option Addr) (hle : m + n ≤ c) :
    (Builtin.append_ #[t, t2] ty #[.slice base m c, y']).run P w = match base with
      | some a => ((storeCells (a.add (m * i.size)) vs.toList).run P w).andThen fun _ w' => .ok (.slice base (m + n) c) w'
      | none => .ok (.slice base (m + n) c) w := by
  cases d2 <;> first | exact hd2.elim | (cases base <;> simp [Builtin.append_, underlying_run ht, underlying_run ht2, sizeOf, typeInfo, hi, hl, hle, hf])

theorem append_grows (w : World) {t t2 e ty : TypeId} {d2 : TypeDesc} (ht : P.underlying t = some (.slice e)) (ht2 : P.underlying t2 = some d2) (hd2 : seqD d2) {i : TypeInfo} (hi : P.info? e = some i) {z : Value} (hz : i.zero = some z) {y' : Value} {n m c : Nat} {old vs : Array Value}
    (hl : (Builtin.lenOf y').run P w = .ok n w) (hf : ∀ w', w'.heap = w.heap → (Builtin.firstCells i.size n y').run P w' = .ok vs w') (base : Option Addr) (ho : ∀ w', w'.heap = w.heap → (Builtin.firstCells i.size m (.slice base m c)).run P w' = .ok old w') (hgt : c < m + n) (hfit : fits (m + n) i.bytes = true) :
    ∃ cap, m + n ≤ cap ∧ (Builtin.append_ #[t, t2] ty #[.slice base m c, y']).run P w = .ok (.slice (some ⟨w.heap.size, 0, none⟩) (m + n) cap) (w.drew.alloc (.cells (old ++ vs ++ Builtin.zeroCells z.cells (cap - (m + n))) e)) := by
  obtain ⟨hr, hm⟩ := fits_iff.1 hfit
  have hn : ¬ (m + n ≤ c) := by omega
  have hmax : ¬ ((m + n : Nat) : Int) > IntKind.i64.max := by
    have : IntKind.i64.max = 9223372036854775807 := by decide
    omega
  have hnc : ¬ (Builtin.nextslicecap (m + n) c * i.bytes > 2 ^ 48) := by
    have h1 := nextcap_le hgt
    have h2 : Builtin.nextslicecap (m + n) c * i.bytes ≤ 3 * (m + n) * i.bytes := Nat.mul_le_mul_right _ h1
    have h3 : 3 * (m + n) * i.bytes = 3 * ((m + n) * i.bytes) := Nat.mul_assoc ..
    simp only [room] at hr
    omega
  refine ⟨m + n + w.tape w.drawn (.appendCap (m + n) c e) % (2 ^ 63 - (m + n)), by omega, ?_⟩
  have hmax' : ¬ (IntKind.i64.max < (m : Int) + (n : Int)) := by simpa using hmax
  have hzv : ∀ w', (zeroValue e).run P w' = .ok z w' := fun w' => zeroValue_run (by simp [zeroP, hi, hz]) w'
  have ho' := ho w.drew rfl
  have hf' := hf w.drew rfl
  cases d2 <;> first | exact hd2.elim | simp [Builtin.append_, underlying_run ht, underlying_run ht2, sizeOf, typeInfo, hi, hl, hn, hmax', hnc, Question.forced, Question.cut, ho', hf', hzv, newRow]

theorem KLe.drew (k : KW) : KLe k ⟨k.L, k.I, k.w.drew⟩ := ⟨fun _ _ h => h, fun _ h => h, Nat.le_refl _, fun _ _ => rfl, fun _ _ h => ⟨rfl, h, id⟩, rfl, rfl, rfl, fun _ r h => ⟨r, h, rfl, rfl⟩⟩
theorem Sim.drew (hS : Sim P A k H) : Sim P A ⟨k.L, k.I, k.w.drew⟩ H where
  dom := hS.dom
  imm := hS.imm
  rng := hS.rng
  sep := hS.sep
  inj := hS.inj
  arr id cells h := by
    obtain ⟨l, cs, elem, hl, hb, hs, hle, hc⟩ := hS.arr id cells h
    exact ⟨l, cs, elem, hl, hb, hs, hle, fun i c hi => let ⟨h1, v, hv, h2, h3⟩ := hc i c hi; ⟨h1, v, hv, h2, h3.mono (KLe.drew k)⟩⟩
  maps := hS.maps
  loop id st pend fn tmps ps asg body h := by
    obtain ⟨l, hl, ⟨r, hb, hr⟩, hA, hB, hF⟩ := hS.loop id _ _ _ _ _ _ _ h
    exact ⟨l, hl, ⟨⟨r, hb, hr.1, hr.2.1, hr.2.2.1, hr.2.2.2.1, hr.2.2.2.2.1, hr.2.2.2.2.2.1, hr.2.2.2.2.2.2.mono (KLe.drew k)⟩, hA, hB, hF⟩⟩
theorem get_set_dead {id i : Nat} {o : AO} (h : (H.set id .dead)[i]? = some o) (ha : o.alive = true) : i ≠ id ∧ H[i]? = some o := by
  rw [List.getElem?_set] at h
  split at h
  · split at h
    · injection h with h; subst h; simp [AO.alive] at ha
    · cases h
  · rename_i e; exact ⟨fun e' => e e'.symm, h⟩
/-- An object that nobody may look at any more. -/
theorem Sim.kill (hS : Sim P A k H) (id : Nat) : Sim P A k (H.set id .dead) where
  dom i l h := by rw [List.length_set]; exact hS.dom i l h
  imm := hS.imm
  rng := hS.rng
  sep i o l h ha hl := hS.sep i o l (get_set_dead h ha).2 ha hl
  inj i j o o' l l' h ha h' ha' hl hl' hb := hS.inj i j o o' l l' (get_set_dead h ha).2 ha (get_set_dead h' ha').2 ha' hl hl' hb
  arr i cells h := hS.arr i cells (get_set_dead h rfl).2
  maps i es h := hS.maps i es (get_set_dead h rfl).2
  loop i st pend fn tmps ps asg body h := hS.loop i _ _ _ _ _ _ _ (get_set_dead h rfl).2
/-- A row's end under a new id, where it lay; the elder id is dead. -/
theorem Sim.rename (hS : Sim P A k H) {id : Nat} {cells : List AV} {l : Loc} (ho : H[id]? = some (.arr cells)) (hl : k.L id = some l) {off : Nat} (hoff : off ≤ cells.length) :
    KLe k ⟨fun i => if i = H.length then some ⟨l.b, l.s + off, l.e⟩ else k.L i, k.I, k.w⟩ ∧ Sim P A ⟨fun i => if i = H.length then some ⟨l.b, l.s + off, l.e⟩ else k.L i, k.I, k.w⟩ (H.set id .dead ++ [.arr (cells.drop off)]) := by
  have hid : id < H.length := (List.getElem?_eq_some_iff.1 ho).1
  have hLn : k.L H.length = none := by
    cases h : k.L H.length with
    | none => rfl
    | some l => have := hS.dom _ l h; omega
  have hle : KLe k ⟨fun i => if i = H.length then some ⟨l.b, l.s + off, l.e⟩ else k.L i, k.I, k.w⟩ := by
    refine ⟨fun i l' h => ?_, fun _ h => h, Nat.le_refl _, fun _ _ => rfl, fun b hb hn => ⟨rfl, fun i l' h => ?_, fun h => h⟩, rfl, rfl, rfl, fun _ r h => ⟨r, h, rfl, rfl⟩⟩
    · have := hS.dom i l' h
      show (if i = H.length then some ⟨l.b, l.s + off, l.e⟩ else k.L i) = some l'
      rw [if_neg (by omega)]; exact h
    · have h : (if i = H.length then some ⟨l.b, l.s + off, l.e⟩ else k.L i) = some l' := h
      split at h
      · injection h with h; subst h; exact hn id l hl
      · exact hn i l' h
  have hold : ∀ (i : Nat) (o : AO), (H.set id .dead ++ [.arr (cells.drop off)])[i]? = some o → o.alive = true → (i < H.length ∧ i ≠ id ∧ H[i]? = some o) ∨ (i = H.length ∧ o = .arr (cells.drop off)) := by
    intro i o h ha
    rcases Nat.lt_or_ge i H.length with hi | hi
    · rw [List.getElem?_append_left (by simpa using hi)] at h
      obtain ⟨h1, h2⟩ := get_set_dead h ha
      exact .inl ⟨hi, h1, h2⟩
    · rw [List.getElem?_append_right (by simpa using hi)] at h
      have h0 : i - (H.set id .dead).length = 0 := by have := (List.getElem?_eq_some_iff.1 h).1; simp at this ⊢; omega
      rw [h0] at h; simp at h
      simp at h0
      exact .inr ⟨by omega, h.symm⟩
  have hLo : ∀ (i : Nat) (l' : Loc), i < H.length → (if i = H.length then some ⟨l.b, l.s + off, l.e⟩ else k.L i) = some l' → k.L i = some l' := fun i l' hi h => by rwa [if_neg (by omega)] at h
  refine ⟨hle, ?_⟩
  constructor
  · intro i l' h
    have h : (if i = H.length then some ⟨l.b, l.s + off, l.e⟩ else k.L i) = some l' := h
    simp
    split at h
    · omega
    · have := hS.dom i l' h; omega
  · exact hS.imm
  · intro i l' h
    have h : (if i = H.length then some ⟨l.b, l.s + off, l.e⟩ else k.L i) = some l' := h
    split at h
    · injection h with h; subst h; exact hS.rng id l hl
    · exact hS.rng i l' h
  · intro i o l' h ha hl' hI
    have hl' : (if i = H.length then some ⟨l.b, l.s + off, l.e⟩ else k.L i) = some l' := hl'
    rcases hold i o h ha with ⟨hi, _, h2⟩ | ⟨rfl, rfl⟩
    · exact hS.sep i o l' h2 ha (hLo i l' hi hl') hI
    · rw [if_pos rfl] at hl'; injection hl' with hl'; subst hl'
      exact hS.sep id _ l ho rfl hl hI
  · intro i j o o' l1 l2 h ha h' ha' hl1 hl2 hb
    have hl1 : (if i = H.length then some ⟨l.b, l.s + off, l.e⟩ else k.L i) = some l1 := hl1
    have hl2 : (if j = H.length then some ⟨l.b, l.s + off, l.e⟩ else k.L j) = some l2 := hl2
    rcases hold i o h ha with ⟨hi, hni, h2⟩ | ⟨rfl, rfl⟩
    · rcases hold j o' h' ha' with ⟨hj, hnj, h3⟩ | ⟨rfl, rfl⟩
      · exact hS.inj i j o o' l1 l2 h2 ha h3 ha' (hLo i l1 hi hl1) (hLo j l2 hj hl2) hb
      · rw [if_pos rfl] at hl2; injection hl2 with hl2; subst hl2
        exact absurd (hS.inj i id o _ l1 l h2 ha ho rfl (hLo i l1 hi hl1) hl hb) hni
    · rw [if_pos rfl] at hl1; injection hl1 with hl1; subst hl1
      rcases hold j o' h' ha' with ⟨hj, hnj, h3⟩ | ⟨rfl, _⟩
      · exact absurd (hS.inj j id o' _ l2 l h3 ha' ho rfl (hLo j l2 hj hl2) hl hb.symm) hnj
      · rfl
  · intro i cs h
    rcases hold i _ h rfl with ⟨hi, _, h2⟩ | ⟨rfl, h2⟩
    · obtain ⟨l', x, elem, hl', hb, hs, hle', hc⟩ := hS.arr i cs h2
      exact ⟨l', x, elem, hle.L i l' hl', hb, hs, hle', fun j c hj => let ⟨h1, v, hv, h3, h4⟩ := hc j c hj; ⟨h1, v, hv, h3, h4.mono hle⟩⟩
    · injection h2 with h2; subst h2
      obtain ⟨l', x, elem, hl', hb, hs, hle', hc⟩ := hS.arr id cells ho
      rw [hl] at hl'; injection hl' with hl'; subst hl'
      refine ⟨⟨l.b, l.s + off, l.e⟩, x, elem, if_pos rfl, hb, hs, ?_, fun j c hj => ?_⟩
      · rw [List.length_drop]
        show l.s + off + (cells.length - off) ≤ l.e
        omega
      · rw [List.getElem?_drop] at hj
        obtain ⟨h1, v, hv, h3, h4⟩ := hc (off + j) c hj
        refine ⟨h1, v, ?_, h3, h4.mono hle⟩
        show x[l.s + off + j]? = some v
        rw [Nat.add_assoc]; exact hv
  · intro i es h
    rcases hold i _ h rfl with ⟨hi, _, h2⟩ | ⟨rfl, h2⟩
    · exact hS.maps i es h2
    · cases h2
  · intro i st pend fn tmps ps asg body h
    rcases hold i _ h rfl with ⟨hi, _, h2⟩ | ⟨rfl, h2⟩
    · obtain ⟨l', hl', ⟨r, hb, hr⟩, hA, hB, hF⟩ := hS.loop i _ _ _ _ _ _ _ h2
      exact ⟨l', hle.L i l' hl', ⟨⟨r, hb, hr.1, hr.2.1, hr.2.2.1, hr.2.2.2.1, hr.2.2.2.2.1, hr.2.2.2.2.2.1, hr.2.2.2.2.2.2.mono hle⟩, hA, hB, hF⟩⟩
    · cases h2

theorem SlR.all {x' : Value} {sz n : Nat} {cells : List AV} {vs : Array Value} (hr : SlR P k x' sz n cells vs) (w' : World) (hw : w'.heap = k.w.heap) : (Builtin.firstCells sz n x').run P w' = .ok vs w' := by
  rw [hr.first w' hw n (Nat.le_refl _)]
  have : vs.size = n * sz := by rw [← hr.size, hr.rel.1]; exact Array.length_toList.symm
  rw [← this]; simp

end Go.Proofs.Ytkcamjcicegclaa.V
