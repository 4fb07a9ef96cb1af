/- V, MA: the law concluded from V. Conditions: none. -/
import Derived.Test.YtkcamjcicegclaaM9
import Derived.JoinedOf
import Derived.SizedLaws
import Derived.ChangeSame
import Derived.OpenShut
import Derived.ReadAgain
set_option linter.unusedVariables false
set_option linter.unusedSimpArgs false
set_option linter.unnecessarySimpa false
/- V, part WG: from V's answer to the given statement: what is read of the arguments, and how a law is concluded. Conditions: none. -/
namespace Go.Proofs.Ytkcamjcicegclaa.V
open Go

variable {P : Program} {A : Ann}

/-! ### Arguments of plain data -/
def tilesP (P : Program) : Nat → List Field → Nat → Bool
  | off, [], total => Nat.beq off total
  | off, f :: fs, total => Nat.beq f.offset off && tilesP P (off + szP P f.type) fs total
/-- Bools, whole numbers, strings, and slices, arrays and structs of them. -/
def plainTy (P : Program) : Nat → TypeId → Bool
  | 0, _ => false
  | d + 1, t =>
    match P.underlying t with
    | some .bool | some (.int _) | some .string => Nat.beq (szP P t) 1
    | some (.slice e) => Nat.beq (szP P t) 1 && Nat.blt 0 (szP P e) && plainTy P d e
    | some (.struct fs) => tilesP P 0 fs.toList (szP P t) && fs.toList.all fun f => plainTy P d f.type
    | some (.array n e) => Nat.beq (szP P t) (n * szP P e) && plainTy P d e
    | _ => false
/-- The cells of a value of that type. -/
def TyA (P : Program) : Nat → TypeId → List AV → Prop
  | 0, _, _ => False
  | d + 1, t, avs =>
    match P.underlying t with
    | some .bool => ∃ b, avs = [.s (.bool b)]
    | some (.int k) => ∃ i, avs = [.s (.int k i)] ∧ k.min ≤ i ∧ i ≤ k.max
    | some .string => ∃ s : ByteArray, avs = [.s (.string s)] ∧ s.size ≤ maxLen
    | some (.slice e) => avs = [.s (.slice none 0 0)] ∨ ∃ len cells full, avs = [.sl len cells full] ∧ len ≤ maxLen ∧ cells.length = len * szP P e ∧ ∀ i, i < len → TyA P d e ((cells.drop (i * szP P e)).take (szP P e))
    | some (.struct fs) => avs.length = szP P t ∧ ∀ f ∈ fs.toList, TyA P d f.type ((avs.drop f.offset).take (szP P f.type))
    | some (.array n e) => avs.length = szP P t ∧ ∀ i, i < n → TyA P d e ((avs.drop (i * szP P e)).take (szP P e))
    | _ => False

/-- A world in which nothing that stands ever changes. -/
def KW.all (w : World) : KW := ⟨fun _ => none, fun b => b < w.heap.size, w⟩
theorem Sim.all (w : World) : Sim P A (KW.all w) [] := by
  constructor
  · intro id l h; cases h
  · intro b h; exact h
  · intro id l h; cases h
  · intro id o l h; simp at h
  · intro id id' o o' l l' h; simp at h
  · intro id cells h; simp at h
  · intro id es h; simp at h
  · intro id st pend fn tmps ps asg body h; simp at h

/-- Cells of the machine and what V takes them for. -/
def CellsR (k : KW) (avs : List AV) (cs : List Value) : Prop := VRs k avs cs ∧ (∀ c ∈ avs, c.one = true) ∧ ∀ y ∈ cs, y.oneCell' = true
theorem CellsR.nil (k : KW) : CellsR k [] [] := ⟨VRs.nil k, fun c h => (by cases h), fun c h => (by cases h)⟩
theorem CellsR.append {k : KW} {a b : List AV} {c d : List Value} (h : CellsR k a c) (g : CellsR k b d) : CellsR k (a ++ b) (c ++ d) := by
  refine ⟨h.1.append g.1, fun x hx => ?_, fun x hx => ?_⟩
  · rcases List.mem_append.1 hx with hx | hx
    · exact h.2.1 x hx
    · exact g.2.1 x hx
  · rcases List.mem_append.1 hx with hx | hx
    · exact h.2.2 x hx
    · exact g.2.2 x hx
theorem CellsR.one {k : KW} {a : AV} {c : Value} (h : VR k a c) (h1 : a.one = true) (h2 : c.oneCell' = true) : CellsR k [a] [c] :=
  ⟨VRs.cons h (VRs.nil k), fun x hx => (by rw [List.mem_singleton.1 hx]; exact h1), fun x hx => (by rw [List.mem_singleton.1 hx]; exact h2)⟩

/-- Rows of n pieces, each of m cells. -/
theorem rows_of {k : KW} {m : Nat} {Q : List AV → Prop} (f : Nat → List Value) : ∀ (n : Nat), (∀ i, i < n → (f i).length = m ∧ ∃ avs, CellsR k avs (f i) ∧ Q avs) →
    ∃ avs, CellsR k avs ((List.range n).flatMap f) ∧ avs.length = n * m ∧ ∀ i, i < n → Q ((avs.drop (i * m)).take m) ∧ (((List.range n).flatMap f).drop (i * m)).take m = f i
  | 0, _ => ⟨[], CellsR.nil k, by simp, fun i h => absurd h (by omega)⟩
  | n + 1, h => by
    obtain ⟨avs, h1, h2, h3⟩ := rows_of f n fun i hi => h i (by omega)
    obtain ⟨hl, bv, g1, g2⟩ := h n (by omega)
    have hbl : bv.length = m := by rw [g1.1.1, hl]
    have hfl : ((List.range n).flatMap f).length = n * m := by rw [← h1.1.1, h2]
    refine ⟨avs ++ bv, ?_, ?_, fun i hi => ?_⟩
    · rw [List.range_succ, List.flatMap_append]; simpa using h1.append g1
    · rw [List.length_append, h2, hbl, Nat.succ_mul]
    · rw [List.range_succ, List.flatMap_append, List.flatMap_singleton]
      by_cases hin : i < n
      · have hle : i * m + m ≤ n * m := by rw [← Nat.succ_mul]; exact Nat.mul_le_mul_right m hin
        rw [List.drop_append_of_le_length (by omega), List.drop_append_of_le_length (by omega), List.take_append_of_le_length (by rw [List.length_drop]; omega), List.take_append_of_le_length (by rw [List.length_drop]; omega)]
        exact h3 i hin
      · have : i = n := by omega
        subst this
        rw [← h2, List.drop_left, h2, ← hfl, List.drop_left, List.take_of_length_le (by omega), List.take_of_length_le (by omega)]
        exact ⟨g2, rfl⟩

variable {H : Type} {enc : TypeId × Value → H}

theorem tiles_sound {k : KW} {d : Nat} {total : Nat} {cs : List Value} : ∀ (fs : List Field) (off : Nat), tilesP P off fs total = true → cs.length = total →
    (∀ f ∈ fs, ∃ avs, CellsR k avs ((cs.drop f.offset).take (szP P f.type)) ∧ TyA P d f.type avs ∧ avs.length = szP P f.type) →
    ∃ avs, CellsR k avs (cs.drop off) ∧ avs.length = total - off ∧ off ≤ total ∧ ∀ f ∈ fs, off ≤ f.offset ∧ TyA P d f.type ((avs.drop (f.offset - off)).take (szP P f.type))
  | [], off, h, hl, _ => by
    have he : off = total := Nat.eq_of_beq_eq_true h
    refine ⟨[], ?_, by simp [he], by omega, fun f hf => by cases hf⟩
    rw [List.drop_eq_nil_of_le (by omega)]
    exact CellsR.nil k
  | f :: fs, off, h, hl, hf => by
    simp only [tilesP, Bool.and_eq_true] at h
    have he : f.offset = off := Nat.eq_of_beq_eq_true h.1
    obtain ⟨avs, h1, h2, h3, h4⟩ := tiles_sound fs (off + szP P f.type) h.2 hl fun g hg => hf g (List.mem_cons_of_mem _ hg)
    obtain ⟨bv, g1, g2, g3⟩ := hf f (List.mem_cons_self ..)
    rw [he] at g1
    refine ⟨bv ++ avs, ?_, ?_, by omega, fun g hg => ?_⟩
    · have : cs.drop off = (cs.drop off).take (szP P f.type) ++ cs.drop (off + szP P f.type) := by
        rw [← List.drop_drop, List.take_append_drop]
      rw [this]
      exact g1.append h1
    · rw [List.length_append, g3, h2]; omega
    · rcases List.mem_cons.1 hg with rfl | hg
      · refine ⟨by omega, ?_⟩
        rw [he, Nat.sub_self, List.drop_zero, ← g3, List.take_left]
        exact g2
      · obtain ⟨i1, i2⟩ := h4 g hg
        refine ⟨by omega, ?_⟩
        have : g.offset - off = bv.length + (g.offset - (off + szP P f.type)) := by omega
        rw [this, ← List.drop_drop, List.drop_left]
        exact i2

theorem cellsOf_eq (P : Program) (t : TypeId) : P.cellsOf t = szP P t := rfl

theorem cells_get {w : World} {base : Nat} {a : Addr} {n : Nat} {cs : List Value} (h : w.cells? base a n = some cs) : cs.length = n ∧ ∀ (i : Nat) y, cs[i]? = some y → w.cell? (a.add i) = some y := by
  unfold World.cells? at h
  split at h
  · obtain ⟨h1, h2⟩ := mapM_some h
    refine ⟨by simpa using h1.symm, fun i y hi => ?_⟩
    obtain ⟨j, hj, hy⟩ := h2 i y hi
    have : j = i := by
      have hlt := (List.getElem?_eq_some_iff.1 hj).1
      rw [List.getElem?_range (by simpa using hlt)] at hj
      injection hj with hj; exact hj.symm
    subst this; exact hy
  · cases h
theorem cell_at {w : World} {a : Addr} {v : Value} (h : w.cell? a = some v) : a.spot = none ∧ a.block < w.heap.size := by
  unfold World.cell? at h
  split at h
  · rename_i c _ _ hb
    split at h
    · cases h
    · rename_i hs
      exact ⟨by simpa using hs, (Array.getElem?_eq_some_iff.1 hb).1⟩
  · cases h
theorem add_add (a : Addr) (i j : Nat) (h : a.spot = none) : (a.add i).add j = ⟨a.block, a.off + i + j, none⟩ := by
  obtain ⟨b, o, s⟩ := a
  dsimp only at h
  subst h
  rw [add_plain', add_plain']

theorem chunks {α : Type} (m : Nat) : ∀ (n : Nat) (cs : List α), cs.length = n * m → (List.range n).flatMap (fun i => (cs.drop (i * m)).take m) = cs
  | 0, cs, h => by
    have : cs = [] := List.length_eq_zero_iff.1 (by simpa using h)
    subst this; rfl
  | n + 1, cs, h => by
    rw [Nat.succ_mul] at h
    have h1 := chunks m n (cs.take (n * m)) (by rw [List.length_take]; omega)
    rw [List.range_succ, List.flatMap_append, List.flatMap_singleton]
    have h2 : (List.range n).flatMap (fun i => (cs.drop (i * m)).take m) = (List.range n).flatMap (fun i => ((cs.take (n * m)).drop (i * m)).take m) := by
      rw [List.flatMap_def, List.flatMap_def]
      refine congrArg List.flatten (List.map_congr_left fun i hi => ?_)
      have hi : i < n := by simpa using hi
      have hle : i * m + m ≤ n * m := by rw [← Nat.succ_mul]; exact Nat.mul_le_mul_right m hi
      rw [List.drop_take, List.take_take, Nat.min_eq_left (by omega)]
    rw [h2, h1, List.take_of_length_le (l := cs.drop (n * m)) (by rw [List.length_drop]; omega), List.take_append_drop]

theorem oneCell_int (k : IntKind) (n : Int) : (Value.int k n).oneCell' = true := rfl

/-- What is read of plain data, V takes for such. -/
theorem trod_sound {w : World} {sp : Nat → Bool} {hd : Bool} : ∀ (d : Nat) (t : TypeId), plainTy P d t = true → ∀ (n : Nat) (cs : List Value) (x : DataW H × List MemPlace), DataW.trod enc P w 0 sp hd n t cs = some x →
    cs.length = szP P t ∧ ∃ avs, CellsR (KW.all w) avs cs ∧ TyA P d t avs
  | 0, t, h, n, cs, x, hx => by cases h
  | d + 1, t, h, n, cs, x, hx => by
    unfold plainTy at h
    unfold TyA
    cases hu : P.underlying t with
    | none => rw [hu] at h; cases h
    | some u =>
      rw [hu] at h
      cases u with
      | bool =>
        have hs : szP P t = 1 := Nat.eq_of_beq_eq_true h
        obtain ⟨b, rfl, _⟩ := DataW.trod_bool hu hx
        exact ⟨by simp [hs], [.s (.bool b)], CellsR.one (.s rfl) rfl rfl, b, rfl⟩
      | int k =>
        have hs : szP P t = 1 := Nat.eq_of_beq_eq_true h
        obtain ⟨i, rfl, _, hw⟩ := DataW.trod_int hu hx
        simp only [Lit.wf, Bool.and_eq_true, decide_eq_true_eq] at hw
        exact ⟨by simp [hs], [.s (.int k i)], CellsR.one (.s rfl) rfl rfl, i, rfl, hw.1, hw.2⟩
      | string =>
        have hs : szP P t = 1 := Nat.eq_of_beq_eq_true h
        obtain ⟨b, rfl, _, hw⟩ := DataW.trod_string hu hx
        exact ⟨by simp [hs], [.s (.string b)], CellsR.one (.s rfl) rfl rfl, b, rfl, hw⟩
      | slice e =>
        simp only [Bool.and_eq_true] at h
        have hs : szP P t = 1 := Nat.eq_of_beq_eq_true h.1.1
        have hpos : 0 < szP P e := by have := h.1.2; simpa [Nat.blt_eq] using this
        rcases DataW.trod_slice hu hx with ⟨rfl, _⟩ | ⟨a, len, cap, elems, rest, m, _, rfl, _, _, hlc, hcm, hel, hget, _, _⟩
        · exact ⟨by simp [hs], [.s (.slice none 0 0)], CellsR.one (.s rfl) rfl rfl, .inl rfl⟩
        · refine ⟨by simp [hs], ?_⟩
          have hpiece : ∀ i, i < len → ∃ ci y, w.cells? 0 (a.add (i * szP P e)) (szP P e) = some ci ∧ DataW.trod enc P w 0 sp hd m e ci = some y := by
            intro i hi
            have h1 := hget i hi
            rw [List.getElem?_eq_getElem (by omega)] at h1
            obtain ⟨ci, h2, h3⟩ := Option.bind_eq_some_iff.1 h1
            exact ⟨ci, _, h2, h3⟩
          let f : Nat → List Value := fun i => (w.cells? 0 (a.add (i * szP P e)) (szP P e)).getD []
          obtain ⟨avs, h1, h2, h3⟩ := rows_of (k := KW.all w) (m := szP P e) (Q := TyA P d e) f len fun i hi => by
            obtain ⟨ci, y, h2, h3⟩ := hpiece i hi
            have hfi : f i = ci := by simp [f, h2]
            rw [hfi]
            exact trod_sound d e h.2 m ci y h3
          have hflat : ((List.range len).flatMap f).length = len * szP P e := by rw [← h1.1.1, h2]
          by_cases hl0 : len = 0
          · subst hl0
            have : avs = [] := List.length_eq_zero_iff.1 (by simpa using h2)
            subst this
            exact ⟨[.sl 0 [] false], CellsR.one (.sl0 (fun e => by cases e)) rfl rfl, .inr ⟨0, [], false, rfl, by omega, by simp, fun i hi => absurd hi (by omega)⟩⟩
          · have hcell : ∀ i r, i < len → r < szP P e → ∃ y, ((List.range len).flatMap f)[i * szP P e + r]? = some y ∧ w.cell? ((a.add (i * szP P e)).add r) = some y := by
              intro i r hi hr
              obtain ⟨ci, y, g1, g2⟩ := hpiece i hi
              obtain ⟨g3, g4⟩ := cells_get g1
              have hfi : f i = ci := by simp [f, g1]
              have hr' : ci[r]? = some ci[r] := List.getElem?_eq_getElem (by omega)
              refine ⟨ci[r], ?_, g4 r _ hr'⟩
              have := (h3 i hi).2
              rw [hfi] at this
              rw [← hr', ← this, List.getElem?_take, if_pos hr, List.getElem?_drop]
            obtain ⟨y0, _, hy0⟩ := hcell 0 0 (by omega) hpos
            simp only [Nat.zero_mul] at hy0
            have ha0 : (a.add 0).add 0 = a := rfl
            rw [ha0] at hy0
            obtain ⟨hspot, hblk⟩ := cell_at hy0
            have haddr : a = ⟨a.block, a.off, none⟩ := by rw [← hspot]
            refine ⟨[.sl len avs false], CellsR.one ?_ rfl rfl, .inr ⟨len, avs, false, rfl, by omega, h2, fun i hi => (h3 i hi).1⟩⟩
            rw [haddr]
            refine .sl (fun j => (((List.range len).flatMap f)[j]?).getD undef) hblk ?_ ?_ (fun e => by cases e) hlc
            · intro j c hj
              obtain ⟨y, hy, _⟩ := h1.1.get hj
              refine ⟨h1.2.1 c (List.mem_of_getElem? hj), by rw [hy]; exact h1.2.2 y (List.mem_of_getElem? hy), ?_⟩
              have hjl : j < len * szP P e := by rw [← h2]; exact (List.getElem?_eq_some_iff.1 hj).1
              have hq : j / szP P e < len := Nat.div_lt_of_lt_mul (by rw [Nat.mul_comm]; exact hjl)
              obtain ⟨y', g1, g2⟩ := hcell (j / szP P e) (j % szP P e) hq (Nat.mod_lt _ hpos)
              have hjj : j / szP P e * szP P e + j % szP P e = j := by rw [Nat.mul_comm]; exact Nat.div_add_mod j (szP P e)
              rw [hjj] at g1
              rw [g1]
              rw [add_add _ _ _ hspot, Nat.add_assoc, hjj] at g2
              exact g2
            · intro j c hj
              obtain ⟨y, hy, hr⟩ := h1.1.get hj
              rw [hy]; exact hr
      | struct fs =>
        simp only [Bool.and_eq_true] at h
        obtain ⟨xs, m, _, _, hl, hxl, hget⟩ := DataW.trod_struct hu hx
        rw [cellsOf_eq] at hl
        refine ⟨hl, ?_⟩
        obtain ⟨avs, h1, h2, _, h4⟩ := tiles_sound (k := KW.all w) (d := d) fs.toList 0 h.1 hl fun f hf => by
          obtain ⟨i, hi⟩ := List.mem_iff_getElem?.1 hf
          have hi' : fs[i]? = some f := by simpa using hi
          have g1 := hget i f hi'
          have hlt : i < fs.size := (Array.getElem?_eq_some_iff.1 hi').1
          rw [List.getElem?_eq_getElem (by omega)] at g1
          obtain ⟨g2, avs, g3, g4⟩ := trod_sound d f.type (List.all_eq_true.1 h.2 f hf) m _ _ g1
          rw [cellsOf_eq] at g2 g3
          exact ⟨avs, g3, g4, by rw [g3.1.1]; exact g2⟩
        rw [List.drop_zero] at h1
        exact ⟨avs, h1, by omega, fun f hf => by have := (h4 f hf).2; rwa [Nat.sub_zero] at this⟩
      | array q e =>
        simp only [Bool.and_eq_true] at h
        have hs : szP P t = q * szP P e := Nat.eq_of_beq_eq_true h.1
        obtain ⟨xs, m, _, _, hl, hxl, hget⟩ := DataW.trod_array hu hx
        rw [cellsOf_eq] at hl
        refine ⟨hl, ?_⟩
        obtain ⟨avs, h1, h2, h3⟩ := rows_of (k := KW.all w) (m := szP P e) (Q := TyA P d e) (fun i => (cs.drop (i * szP P e)).take (szP P e)) q fun i hi => by
          have g1 := hget i hi
          rw [List.getElem?_eq_getElem (by omega)] at g1
          exact trod_sound d e h.2 m _ _ g1
        rw [chunks _ _ _ (by rw [hl, hs])] at h1
        exact ⟨avs, h1, by rw [h2, hs], fun i hi => (h3 i hi).1⟩
      | _ => cases h

end Go.Proofs.Ytkcamjcicegclaa.V

/- V, part WH: a law of which V says 'true' on all plain arguments is such a function of the machine. Conditions: none. -/
namespace Go.Proofs.Ytkcamjcicegclaa.V
open Go

variable {P : Program} {A : Ann}

/-- One argument, of its cells. -/
def argOf (P : Program) (t : TypeId) (avs : List AV) : AV := if isAggP P t = true then .agg avs else avs.headD .bot
def TyArgs (P : Program) (d : Nat) : List TypeId → List (List AV) → Prop
  | [], [] => True
  | t :: ts, a :: as => TyA P d t a ∧ TyArgs P d ts as
  | _, _ => False
def argsOf (P : Program) : List TypeId → List (List AV) → List AV
  | t :: ts, a :: as => argOf P t a :: argsOf P ts as
  | _, _ => []

section
variable {H : Type} {enc : TypeId × Value → H}

theorem plain_oneCell {w : World} {r : Reach} {base : Nat} {d : Nat} {t : TypeId} {v : Value} (hp : plainTy P (d + 1) t = true) (hv : Value.okWide P w r base t v) : (isAggP P t = true → ∃ cs, v = .agg cs) ∧ (isAggP P t = false → v.cells = #[v]) := by
  unfold plainTy at hp
  unfold Value.okWide at hv
  unfold isAggP
  cases hu : P.underlying t with
  | none => rw [hu] at hp; cases hp
  | some u =>
    rw [hu] at hp hv
    cases u with
    | struct fs => obtain ⟨cs, h, _⟩ := hv; exact ⟨fun _ => ⟨cs, h⟩, fun h => by cases h⟩
    | array n e => obtain ⟨cs, h, _⟩ := hv; exact ⟨fun _ => ⟨cs, h⟩, fun h => by cases h⟩
    | bool =>
      refine ⟨(fun h => by cases h), fun _ => ?_⟩
      cases v <;> first
        | rfl
        | (simp [Cell.okWide, hu, Cell.ok] at hv; done)
    | int k =>
      refine ⟨(fun h => by cases h), fun _ => ?_⟩
      cases v <;> first
        | rfl
        | (simp [Cell.okWide, hu, Cell.ok] at hv; done)
    | string =>
      refine ⟨(fun h => by cases h), fun _ => ?_⟩
      cases v <;> first
        | rfl
        | (simp [Cell.okWide, hu, Cell.ok] at hv; done)
    | slice e =>
      refine ⟨(fun h => by cases h), fun _ => ?_⟩
      cases v <;> first
        | rfl
        | (simp [Cell.okWide, hu, Cell.ok] at hv; done)
    | _ => cases hp

theorem trod_arg {w : World} {r : Reach} {base : Nat} {sp : Nat → Bool} {hd : Bool} {d : Nat} {t : TypeId} (hp : plainTy P d t = true) {v : Value} {x : DataW H} {p : List MemPlace} (hv : Value.okWide P w r base t v) (h : DataW.Trod enc P w 0 sp hd t v x p) :
    ∃ avs, TyA P d t avs ∧ VR (KW.all w) (argOf P t avs) v := by
  obtain ⟨fuel, h⟩ := h
  obtain ⟨_, avs, hc, hty⟩ := trod_sound d t hp fuel _ _ h
  refine ⟨avs, hty, ?_⟩
  cases d with
  | zero => cases hp
  | succ d =>
    obtain ⟨h1, h2⟩ := plain_oneCell hp hv
    unfold argOf
    by_cases hag : isAggP P t = true
    · rw [if_pos hag]
      obtain ⟨cs, rfl⟩ := h1 hag
      refine .agg ?_ (fun i x y hx hy => hc.1.2 i x y hx ?_) (fun i x hx => hc.2.1 x (List.mem_of_getElem? hx)) (fun i y hy => hc.2.2 y ?_)
      · have := hc.1.1
        simpa [Value.cells] using this
      · simpa [Value.cells] using hy
      · have : cs.toList[i]? = some y := by simpa using hy
        exact List.mem_of_getElem? this
    · rw [if_neg hag]
      have hcell := h2 (by simpa using hag)
      rw [hcell] at hc
      cases avs with
      | nil => exact absurd hc.1.1 (by simp)
      | cons a as => exact hc.1.2 0 a v rfl rfl

theorem trod_args {w : World} {r : Reach} {base : Nat} {sp : Nat → Bool} {hd : Bool} {d : Nat} : ∀ (ts : List TypeId) (vs : List Value) (ds : List (DataW H)) (p : List MemPlace), ts.all (plainTy P d) = true → DataW.TrodAll enc P w 0 sp hd ts vs ds p →
    (∀ (j : Nat) t v, ts[j]? = some t → vs[j]? = some v → Value.okWide P w r base t v) → ∃ avss, TyArgs P d ts avss ∧ VRs (KW.all w) (argsOf P ts avss) vs ∧ ds.length = ts.length
  | [], [], [], p, _, _, _ => ⟨[], trivial, VRs.nil _, rfl⟩
  | t :: ts, v :: vs, x :: ds, p, hp, h, hv => by
    simp only [List.all_cons, Bool.and_eq_true] at hp
    obtain ⟨p1, q1, h1, h2, _⟩ := h
    obtain ⟨avs, g1, g2⟩ := trod_arg hp.1 (hv 0 t v rfl rfl) h1
    obtain ⟨avss, g3, g4, g5⟩ := trod_args ts vs ds q1 hp.2 h2 fun j t' v' ht hv' => hv (j + 1) t' v' (by simpa using ht) (by simpa using hv')
    exact ⟨avs :: avss, ⟨g1, g3⟩, VRs.cons g2 g4, by simp [g5]⟩
  | [], _ :: _, _, p, _, h, _ => by cases h
  | [], [], _ :: _, p, _, h, _ => by cases h
  | _ :: _, [], _, p, _, h, _ => by cases h
  | _ :: _, _ :: _, [], p, _, h, _ => by cases h

/-! ### The arguments read as they did -/
theorem tiles_sum : ∀ (fs : List Field) (off total : Nat), tilesP P off fs total = true → total = off + (fs.map fun f => P.cellsOf f.type).sum ∧ ∀ (j : Nat) f, fs[j]? = some f → f.offset = off + ((fs.take j).map fun f => P.cellsOf f.type).sum
  | [], off, total, h => by
    have : off = total := Nat.eq_of_beq_eq_true h
    exact ⟨by simp [this], fun j f hf => by simp at hf⟩
  | g :: fs, off, total, h => by
    simp only [tilesP, Bool.and_eq_true] at h
    have hg : g.offset = off := Nat.eq_of_beq_eq_true h.1
    obtain ⟨h1, h2⟩ := tiles_sum fs _ total h.2
    refine ⟨by simp only [List.map_cons, List.sum_cons, cellsOf_eq]; rw [h1]; simp only [cellsOf_eq]; omega, fun j f hf => ?_⟩
    cases j with
    | zero => simp at hf; subst hf; simp [hg]
    | succ j =>
      have := h2 j f (by simpa using hf)
      rw [this]
      simp only [List.take_succ_cons, List.map_cons, List.sum_cons, cellsOf_eq]
      omega
theorem plain_kids : Kids P (fun t => ∃ d, plainTy P d t = true) := by
  constructor
  · rintro t e ⟨d, h⟩ hu
    cases d with
    | zero => cases h
    | succ d => unfold plainTy at h; rw [hu] at h; cases h
  · rintro t e ⟨d, h⟩ hu
    cases d with
    | zero => cases h
    | succ d => unfold plainTy at h; rw [hu] at h; simp only [Bool.and_eq_true] at h; exact ⟨d, h.2⟩
  · rintro t e n ⟨d, h⟩ hu
    cases d with
    | zero => cases h
    | succ d => unfold plainTy at h; rw [hu] at h; simp only [Bool.and_eq_true] at h; exact ⟨⟨d, h.2⟩, Nat.eq_of_beq_eq_true h.1⟩
  · rintro t fs ⟨d, h⟩ hu
    cases d with
    | zero => cases h
    | succ d =>
      unfold plainTy at h; rw [hu] at h; simp only [Bool.and_eq_true] at h
      obtain ⟨h1, h2⟩ := tiles_sum fs.toList 0 _ h.1
      exact ⟨fun f hf => ⟨d, List.all_eq_true.1 h.2 f hf⟩, by rw [cellsOf_eq, h1]; simp, fun j f hf => by rw [h2 j f hf]; simp⟩
  · rintro t k e ⟨d, h⟩ hu
    cases d with
    | zero => cases h
    | succ d => unfold plainTy at h; rw [hu] at h; cases h
theorem plain_slice : ∀ t e, (∃ d, plainTy P d t = true) → P.underlying t = some (.slice e) → 0 < P.cellsOf e := by
  rintro t e ⟨d, h⟩ hu
  cases d with
  | zero => cases h
  | succ d => unfold plainTy at h; rw [hu] at h; simp only [Bool.and_eq_true] at h; simpa [Nat.blt_eq, cellsOf_eq] using h.1.2

theorem trod_again {w w' : World} {d : Nat} (hw : ∀ b, b < w.heap.size → w'.heap[b]? = w.heap[b]?) : ∀ (ts : List TypeId) (vs : List Value) (ds : List (DataW H)) (p : List MemPlace), ts.all (plainTy P d) = true → (∀ x ∈ p, x.block < w.heap.size) → DataW.TrodAll enc P w 0 (fun _ => true) true ts vs ds p →
    DataW.TrodAll enc P w' 0 (fun b => decide (b < w.heap.size)) true ts vs ds p
  | [], [], [], p, _, _, h => h
  | t :: ts, v :: vs, x :: ds, p, hp, hlt, h => by
    simp only [List.all_cons, Bool.and_eq_true] at hp
    obtain ⟨p1, q1, ⟨fuel, h1⟩, h2, rfl⟩ := h
    refine ⟨p1, q1, ⟨fuel, ?_⟩, trod_again hw ts vs ds q1 hp.2 (fun y hy => hlt y (List.mem_append_right _ hy)) h2, rfl⟩
    have h3 := DataW.trod_carry (w' := w') fuel t _ _ h1 fun y hy => by
      have hb := hlt y (List.mem_append_left _ hy)
      cases y with
      | cell b off => exact cell_of_heap (hw b hb) off
      | map b => exact hw b hb
    exact DataW.trod_respare plain_kids plain_slice fuel t _ _ ⟨d, hp.1⟩ h3 fun y hy => by
      have := hlt y (List.mem_append_left _ hy)
      simpa using this
  | [], _ :: _, _, p, _, _, h => by cases h
  | [], [], _ :: _, p, _, _, h => by cases h
  | _ :: _, [], _, p, _, _, h => by cases h
  | _ :: _, _ :: _, [], p, _, _, h => by cases h

theorem kept_same {w w' : World} (hos : w'.os = w.os) (hout : w'.output = w.output) (hw : ∀ b, b < w.heap.size → w'.heap[b]? = w.heap[b]?) (may : MemPlace → Prop) : w.keptBut w' may := by
  refine ⟨hos, hout, fun i hi => ?_⟩
  rw [hw i hi]
  cases w.heap[i]? with
  | none => rfl
  | some o =>
    cases o with
    | cells c t fr => exact ⟨rfl, rfl, rfl, fun _ _ => rfl⟩
    | map es clock => exact .inr ⟨rfl, rfl⟩
    | _ => rfl
end

/-- V says 'true' for all plain arguments: so does the machine, and the arguments read as they did. -/
theorem law_calls (hA : AnnOk P A) {f : FuncId} {fn : Func} {s : ChangeSpec} {d : Nat} {tb : TypeId} (hfn : P.funcs[f]? = some fn) (hpl : fn.params.toList.all (plainTy P d) = true) (hres : fn.resultTypes = #[tb]) (htb : P.underlying tb = some .bool)
    (hvars : s.vars = []) (hspec : ∀ (H : Type) (ds : List (DataW H)), ds.length = fn.params.toList.length → s.fn H ds = { results := [.lit (.bool true)], args := ds })
    (hlaw : ∀ avss, TyArgs P d fn.params.toList avss → ∃ u H, call P A f (argsOf P fn.params.toList avss) .none [] = some (.returned (.s (.bool true)), u, H))
    {H : Type} {enc : TypeId × Value → H} {apart fresh handsOn : Bool} {W : World} {base : Nat} {args : Array Value} {ds gs : List (DataW H)} {before : List MemPlace}
    (hval : ∀ (j : Nat) t v, fn.params[j]? = some t → args[j]? = some v → Value.okWide P W .any base t v) (hW : DataW.Whole enc P fn.params.toList s.vars apart W args.toList ds gs before) :
    Calls P f args W fun e W' => ∃ v, e = .returned v ∧ s.post enc P fn apart fresh handsOn false W args v W' := by
  have hW' := hW
  obtain ⟨p, q, hT, hV, rfl, _, _⟩ := hW
  rw [hvars] at hV
  obtain ⟨rfl, rfl⟩ := ChangeShapes.trodVars_none hV
  obtain ⟨avss, h1, h2, h3⟩ := trod_args (r := .any) (base := base) fn.params.toList args.toList ds p hpl hT fun j t v ht hv => hval j t v (by simpa using ht) (by simpa using hv)
  obtain ⟨u, H', hcall⟩ := hlaw avss h1
  obtain ⟨_, hrun⟩ := calls_sound hA f _ .none [] _ hcall (KW.all W) (Sim.all W) args h2
  intro cs
  obtain ⟨k', cs', fr, hle, hS', hsame, hur, hst, hkd, hf', hend⟩ := hrun .normal cs rfl
  have hcs : cs' = cs := by
    rcases hsame with h | ⟨h, _⟩
    · exact h
    · cases h
  subst hcs
  obtain ⟨v', hv, hm, hd, fn', hfn', hr⟩ := hend
  obtain ⟨rfl, _⟩ := plain_inv hv
  have hheap : ∀ b, b < W.heap.size → k'.w.heap[b]? = W.heap[b]? := fun b hb => hle.blk b hb
  refine ⟨.returned (.bool true), k'.w, fr, ⟨.bool true, rfl, ?_⟩, hst, hf', hm, hd, hkd, fn', hfn', hr⟩
  refine ⟨ds, [], p ++ [], [], p, [], hW', ?_, ?_, ?_, kept_same hle.os hle.out hheap _, fun h => by cases h⟩
  · rw [hspec H _ (by rw [List.append_nil]; exact h3), hres]
    refine ⟨[], [], ⟨1, ?_⟩, rfl, rfl⟩
    simp [DataW.trod, htb, Value.cells]
  · rw [hspec H _ (by rw [List.append_nil]; exact h3), List.append_nil]
    exact trod_again hheap _ _ _ _ hpl (fun x hx => hW'.lt x (by rw [List.append_nil]; exact hx)) hT
  · rw [hspec H _ (by rw [List.append_nil]; exact h3), hvars]
    rfl

end Go.Proofs.Ytkcamjcicegclaa.V
