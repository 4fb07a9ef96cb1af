/- V, M9: V is sound (a part of the proof). Conditions: none. -/
import Derived.Test.YtkcamjcicegclaaM8
import Derived.Orders
set_option linter.unusedVariables false
set_option linter.unusedSimpArgs false
set_option linter.unnecessarySimpa false
/- V, part WB: drawn regions, met by the machine whatever order is drawn. Conditions: none. -/
namespace Go.Proofs.Ytkcamjcicegclaa.V
open Go

variable {P : Program} {A : Ann}

/-! ### A slice by value -/
theorem KLe.extraI {k : KW} {H : AH} (hS : Sim P A k H) (o : Obj) : KLe k ⟨k.L, fun b => k.I b ∨ b = k.w.heap.size, k.w.alloc o⟩ where
  L _ _ h := h
  I _ h := .inl h
  size := by simp
  blk b h := heap_alloc_old _ _ (hS.imm b h)
  fr b hb hn := ⟨heap_alloc_old _ _ hb, hn, fun h => by
    rcases h with h | h
    · exact h
    · omega⟩
  os := rfl
  out := rfl
  tape := rfl
  lp b r h := ⟨r, (heap_alloc_old _ _ (by have := (Array.getElem?_eq_some_iff.1 h).1; exact this)).trans h, rfl, rfl⟩
theorem Sim.extraI {k : KW} {H : AH} (hS : Sim P A k H) (o : Obj) : Sim P A ⟨k.L, fun b => k.I b ∨ b = k.w.heap.size, k.w.alloc o⟩ H where
  dom := hS.dom
  imm b h := by
    rcases h with h | h
    · have := hS.imm b h; simp; omega
    · simp; omega
  rng id l h := by have := hS.rng id l h; simp; omega
  sep id o' l h ha hl hI := by
    rcases hI with hI | hI
    · exact hS.sep id o' l h ha hl hI
    · have := hS.rng id l hl; omega
  inj := hS.inj
  arr id cells h := by
    obtain ⟨l, cs, elem, hl, hb, hs, hle, hc⟩ := hS.arr id cells h
    refine ⟨l, cs, elem, hl, (heap_alloc_old _ _ (hS.rng id l hl)).trans hb, hs, hle, fun i c hi => ?_⟩
    obtain ⟨h1, v, hv, h2, h3⟩ := hc i c hi
    exact ⟨h1, v, hv, h2, h3.mono (KLe.extraI hS o)⟩
  maps := hS.maps
  loop id st pend fn tmps ps asg body h := by
    obtain ⟨l, hl, ⟨r, hb, hr⟩, hA, hB, hF⟩ := hS.loop id _ _ _ _ _ _ _ h
    exact ⟨l, hl, ⟨⟨r, (heap_alloc_old _ _ (hS.rng id l hl)).trans hb, hr.1, hr.2.1, hr.2.2.1, hr.2.2.2.1, hr.2.2.2.2.1, hr.2.2.2.2.2.1, hr.2.2.2.2.2.2.mono (KLe.extraI hS o)⟩, hA, hB, hF⟩⟩
theorem fillA_len : ∀ (ps : List (Nat × Nat × AV)) (z out : List AV), fillA z ps = some out → out.length = z.length
  | [], z, out, h => by injection h with h; subst h; rfl
  | (off, size, v) :: ps, z, out, h => by
    unfold fillA at h
    split at h
    · rename_i hc
      rw [fillA_len ps _ _ h, length_splice (by omega)]
    · cases h
theorem repl_len {z : List AV} : ∀ n, (repl n z).length = n * z.length
  | 0 => by simp [repl]
  | n + 1 => by rw [repl, List.length_append, repl_len n, Nat.succ_mul]; omega
theorem fillV_len {z out : List AV} {len sz : Nat} {ps : List (Nat × Nat × AV)} (h : fillA (repl len z) ps = some out) (hz : z.length = sz) : len = 0 → out = [] := by
  intro h0
  have := fillA_len _ _ _ h
  rw [repl_len, h0] at this
  exact List.length_eq_zero_iff.1 (by simpa using this)
theorem valSl {k : KW} {H : AH} (hS : Sim P A k H) {cells : List AV} {cs : Array Value} {e : TypeId} {len : Nat} (g1 : ∀ x ∈ cs.toList, x.oneCell' = true) (g2 : cells.all AV.one = true) (g3 : VRs k cells cs.toList) (h0 : len = 0 → cells = []) :
    VR ⟨k.L, fun b => k.I b ∨ b = k.w.heap.size, k.w.alloc (.cells cs e (0, 0))⟩ (.sl len cells true) (.slice (some ⟨k.w.heap.size, 0, none⟩) len len) := by
  have hget : ∀ (i : Nat) c, cells[i]? = some c → ∃ y, cs[i]? = some y ∧ VR k c y := by
    intro i c hi
    obtain ⟨y, hy, hr⟩ := g3.get hi
    exact ⟨y, by simpa using hy, hr⟩
  refine .sl (fun i => (cs[i]?).getD undef) (.inr rfl) ?_ ?_ (fun _ => rfl) (Nat.le_refl _)
  · intro i c hi
    obtain ⟨y, hy, _⟩ := hget i c hi
    refine ⟨List.all_eq_true.1 g2 c (List.mem_of_getElem? hi), by rw [hy]; exact g1 y (List.mem_of_getElem? (by simpa using hy)), ?_⟩
    have hh : (k.w.alloc (.cells cs e (0, 0))).heap[k.w.heap.size]? = some (.cells cs e (0, 0)) := heap_alloc_new _ _
    simp only [World.cell?, hh]
    simp [hy]
  · intro i c hi
    obtain ⟨y, hy, hr⟩ := hget i c hi
    rw [hy]
    exact hr.mono (KLe.extraI hS _)
theorem bldV_sound {k : KW} {H : AH} (hS : Sim P A k H) {t : TypeId} {len : Nat} {xs : List (Nat × AV)} {ys : Array (Nat × Value)} (hty : tyOk P t = true) (hxy : PR k xs ys.toList) {v : AV} (h : buildSliceV P t len xs = some v) :
    ∃ k' v', (Instr.buildSlice t len ys).run P k.w = .ok v' k'.w ∧ KLe k k' ∧ Sim P A k' H ∧ VR k' v v' := by
  unfold buildSliceV at h
  split at h
  · rename_i e he
    have hu : P.underlying t = some (.slice e) := by
      unfold elemP at he
      split at he
      · rename_i e' hu; injection he with he; subst he; exact hu
      · cases he
    have hie : (P.info? e).isSome = true := info_of_underlying (by unfold tyOk at hty; rw [hu] at hty; exact hty)
    split at h
    · rename_i z hz
      obtain ⟨zv, hzv, rfl, hvr⟩ := zeroCells_inv (k := k) hz
      split at h
      · rename_i hc
        obtain ⟨hc1, hc2⟩ := hc
        unfold bldV at h
        split at h
        · rename_i hone
          obtain ⟨out, ho, rfl⟩ := Option.map_eq_some_iff.1 h
          have hrel : VRs k (repl len (absC zv).cells) (Builtin.zeroCells zv.cells len).toList ∧ ∀ v ∈ (Builtin.zeroCells zv.cells len).toList, v.oneCell' = true := by
            cases len with
            | zero => exact ⟨by simpa [repl, Builtin.zeroCells] using VRs.nil k, by simp [Builtin.zeroCells]⟩
            | succ n =>
              rw [repl, List.all_append, Bool.and_eq_true] at hone
              exact zeros_rel hone.1 (n + 1)
          have hzs : len * szP P e = 0 ∨ zv.cells.size = szP P e := by
            cases len with
            | zero => left; simp
            | succ n =>
              rw [repl, List.all_append, Bool.and_eq_true] at hone
              right
              rw [← hc2, (cells_sound (absC_sound (k := k) zv) hone.1).1.1]; exact Array.length_toList.symm
          obtain ⟨cs, hf, g1, g2, g3⟩ := fill_sound (k := k) (fun i => some (i * szP P e, szP P e)) (xs.map fun (i, v) => (i * szP P e, szP P e, v)) ys.toList _ out _ (by simp [hxy.1]) (fun i p q hp hq => by
            simp only [List.getElem?_map] at hp
            obtain ⟨x, hx, rfl⟩ := Option.map_eq_some_iff.1 hp
            obtain ⟨h1, h2⟩ := hxy.2 i x q hx hq
            exact ⟨by rw [← h1], h2⟩) hrel.1 hone hrel.2 ho
          have hrun : (newRow e cs).run P k.w = .ok ⟨k.w.heap.size, 0, none⟩ (k.w.alloc (.cells cs e (0, 0))) := rfl
          refine ⟨⟨k.L, fun b => k.I b ∨ b = k.w.heap.size, k.w.alloc (.cells cs e (0, 0))⟩, _, ?_, KLe.extraI hS _, hS.extraI _, valSl hS g1 g2 g3 (fillV_len ho rfl)⟩
          have hzr := zeroValue_run hzv
          unfold Instr.buildSlice
          have hf' : ∀ zr : Array Value, (Array.range (len * szP P e)).map (fun x => zr[x % zr.size]!) = Builtin.zeroCells zv.cells len → Instr.fill (fun i => some (i * szP P e, szP P e)) ((Array.range (len * szP P e)).map (fun x => zr[x % zr.size]!)) ys.toList = some cs := fun zr h => by rw [h]; exact hf
          simp only [Sem.run_bind, underlying_run hu, sizeOf_run hie, Result.andThen_ok]
          rw [if_neg (by omega)]
          by_cases h0 : len * szP P e = 0
          · have hze : (Array.range (len * szP P e)).map (fun x => (#[] : Array Value)[x % (#[] : Array Value).size]!) = Builtin.zeroCells zv.cells len := by
              have : len * zv.cells.size = 0 := by
                rcases Nat.mul_eq_zero.1 h0 with hq | hq
                · simp [hq]
                · rw [← hc2] at hq
                  cases len with
                  | zero => simp
                  | succ n =>
                    rw [repl, List.all_append, Bool.and_eq_true] at hone
                    have := (cells_sound (absC_sound (k := k) zv) hone.1).1.1
                    rw [hq] at this
                    have h5 : zv.cells.size = 0 := by rw [← Array.length_toList]; exact this.symm
                    rw [h5]; simp
              simp [Builtin.zeroCells, h0, this]
            simp only [h0, if_true, Sem.run_pure, Sem.run_bind, Result.andThen_ok]
            rw [h0] at hze hf'
            simp only [hf' _ hze, Sem.run_bind, hrun, Result.andThen_ok, Sem.run_pure]
          · have hze : (Array.range (len * szP P e)).map (fun x => zv.cells[x % zv.cells.size]!) = Builtin.zeroCells zv.cells len := by
              rcases hzs with h | h
              · exact absurd h h0
              · simp [Builtin.zeroCells, h]
            simp only [h0, if_false, Sem.run_pure, Sem.run_bind, hzr, Result.andThen_ok]
            simp only [hf' _ hze, Sem.run_bind, hrun, Result.andThen_ok, Sem.run_pure]
        · cases h
      · cases h
    · cases h
  · cases h


/-- An operation that is neither heavy nor makes a variable. -/
theorem opT_sound (hA : AnnOk P A) {k : KW} {H : AH} (hS : Sim P A k H) {t : List AV} {a : Act} (ht : VRs k t a.tmps.toList) {o : Oper} (hok : opOk P o = true) {v : AV} (h : op1 P A true t H [] o = some (.val v H)) : OpR P A k H (.val v H) ((execOp a.eval o).run P k.w) := by
  by_cases hb : ∃ ty n ps, o.op = .buildSlice ty n ps
  · obtain ⟨ty, n, ps, ho⟩ := hb
    unfold op1 opK at h
    rw [ho] at h
    dsimp only at h
    obtain ⟨w, hw, h⟩ := Option.bind_eq_some_iff.1 h
    injection h with h; injection h with h _; subst h
    unfold opOk at hok
    rw [ho] at hok
    obtain ⟨k', v', hr, hle, hS', hv⟩ := bldV_sound hS (ys := ps.map fun p => (p.1, a.eval p.2)) hok ⟨by simp, fun i x y hx hy => by
      simp only [List.getElem?_map] at hx
      obtain ⟨q, hq, rfl⟩ := Option.map_eq_some_iff.1 hx
      rw [Array.getElem?_toList, Array.getElem?_map, ← Array.getElem?_toList, hq] at hy
      simp at hy; subst hy
      exact ⟨rfl, ev_sound ht q.2⟩⟩ hw
    refine ⟨k', v', .inl ?_, hle, hS', hv⟩
    unfold execOp
    rw [ho]
    simp [hr]
  · exact op1_sound hA hS ht hok ((op1_dr fun ty n ps he => hb ⟨ty, n, ps, he⟩) ▸ h)

end Go.Proofs.Ytkcamjcicegclaa.V

/- V, part WC: drawn regions, the machine's order followed. Conditions: none. -/
namespace Go.Proofs.Ytkcamjcicegclaa.V
open Go

variable {P : Program} {A : Ann} {S : Or} {cx : Cx} {ops : Array Oper} {order hb : List Nat}

/-! ### What the machine draws -/
/-- A list of operations in an order that the edges allow. -/
def Lin (ops : Array Oper) : List Nat → Prop
  | [] => True
  | i :: m => i < ops.size ∧ i ∉ m ∧ (∀ o, ops[i]? = some o → ∀ e ∈ o.after.toList, Region.binds .any e = true → e.on ∉ i :: m) ∧ Lin ops m

def unl (ops : Array Oper) (listed : Array Bool) : List Nat := (List.range ops.size).filter fun i => !listed.getD i true
theorem unl_mem {listed : Array Bool} {i : Nat} : i ∈ unl ops listed ↔ i < ops.size ∧ listed.getD i true = false := by simp [unl]

theorem lin_go (hback : ∀ (i : Nat) (o : Oper), ops[i]? = some o → ∀ e ∈ o.after.toList, Region.binds .any e = true → e.on < i) : ∀ (fuel t : Nat) (listed : Array Bool), listed.size = ops.size → (unl ops listed).length ≤ fuel →
    Lin ops (Region.linearise.go .any ops fuel t listed []) ∧ ∀ j, j ∈ Region.linearise.go .any ops fuel t listed [] ↔ j ∈ unl ops listed
  | 0, t, listed, hs, hf => by
    have : unl ops listed = [] := List.length_eq_zero_iff.1 (by omega)
    rw [this]
    exact ⟨trivial, fun j => by simp [Region.linearise.go]⟩
  | fuel + 1, t, listed, hs, hf => by
    have hready : ∀ i ∈ Region.ready .any ops listed, i ∈ unl ops listed ∧ ∀ o, ops[i]? = some o → ∀ e ∈ o.after.toList, Region.binds .any e = true → listed.getD e.on false = true := by
      intro i hi
      unfold Region.ready at hi
      simp only [List.mem_filter, List.mem_range, Bool.and_eq_true] at hi
      obtain ⟨h1, h2, h3⟩ := hi
      refine ⟨unl_mem.2 ⟨h1, by simpa using h2⟩, fun o ho e he hbi => ?_⟩
      rw [ho] at h3
      simp only [Option.map_some, Option.getD_some] at h3
      have h4 := (Array.all_eq_true_iff_forall_mem.1 h3) e (by simpa using he)
      rw [hbi] at h4
      simpa using h4
    have hsome : Region.ready .any ops listed = [] → unl ops listed = [] := by
      intro hr
      by_cases hu : unl ops listed = []
      · exact hu
      · exfalso
        have hex : ∃ i, i ∈ unl ops listed := List.exists_mem_of_ne_nil _ hu
        have hmin : ∃ i, i ∈ unl ops listed ∧ ∀ j, j < i → j ∉ unl ops listed := by
          obtain ⟨i, hi⟩ := hex
          induction i using Nat.strongRecOn with
          | _ i ih =>
            by_cases hj : ∃ j, j < i ∧ j ∈ unl ops listed
            · obtain ⟨j, h1, h2⟩ := hj; exact ih j h1 h2
            · exact ⟨i, hi, fun j h1 h2 => hj ⟨j, h1, h2⟩⟩
        obtain ⟨i, hi, hlt⟩ := hmin
        obtain ⟨h1, h2⟩ := unl_mem.1 hi
        have : i ∈ Region.ready .any ops listed := by
          unfold Region.ready
          simp only [List.mem_filter, List.mem_range, Bool.and_eq_true]
          refine ⟨h1, by simp [h2], ?_⟩
          rw [Array.getElem?_eq_getElem h1]
          simp only [Option.map_some, Option.getD_some]
          refine Array.all_eq_true_iff_forall_mem.2 fun e he => ?_
          by_cases hbi : Region.binds .any e = true
          · have hlt2 := hback i ops[i] (Array.getElem?_eq_getElem h1) e (by simpa using he) hbi
            have h5 := hlt e.on hlt2
            rw [unl_mem] at h5
            have h6 : listed.getD e.on true = true := by
              cases hx : listed.getD e.on true with
              | true => rfl
              | false => exact absurd ⟨by omega, hx⟩ h5
            have h7 : listed.getD e.on false = true := by
              have hlt3 : e.on < listed.size := by omega
              rw [Array.getD_eq_getD_getElem?, Array.getElem?_eq_getElem hlt3] at h6 ⊢
              exact h6
            rw [h7]; simp
          · simp [hbi]
        rw [hr] at this; cases this
    simp only [Region.linearise.go]
    change Lin ops (match (Region.ready .any ops listed)[t % (Region.ready .any ops listed).length]? with
      | some i => Region.linearise.go .any ops fuel (t / (Region.ready .any ops listed).length) (listed.setIfInBounds i true) [i]
      | none => [].reverse) ∧ ∀ j, j ∈ (match (Region.ready .any ops listed)[t % (Region.ready .any ops listed).length]? with
      | some i => Region.linearise.go .any ops fuel (t / (Region.ready .any ops listed).length) (listed.setIfInBounds i true) [i]
      | none => [].reverse) ↔ j ∈ unl ops listed
    cases hi : (Region.ready .any ops listed)[t % (Region.ready .any ops listed).length]? with
    | none =>
      have hnil : Region.ready .any ops listed = [] := by
        cases hr : Region.ready .any ops listed with
        | nil => rfl
        | cons x xs =>
          rw [hr] at hi
          have hlt : t % (x :: xs).length < (x :: xs).length := Nat.mod_lt _ (by simp)
          simp at hi
          simp at hlt
          omega
      rw [hsome hnil]
      exact ⟨trivial, fun j => by simp⟩
    | some i =>
      dsimp only
      rw [linearise_go_acc, List.reverse_singleton, List.singleton_append]
      obtain ⟨h1, h2⟩ := hready i (List.mem_of_getElem? hi)
      obtain ⟨h3, h4⟩ := unl_mem.1 h1
      have hun : ∀ j, j ∈ unl ops (listed.setIfInBounds i true) ↔ j ∈ unl ops listed ∧ j ≠ i := by
        intro j
        rw [unl_mem, unl_mem]
        rw [Array.getD_eq_getD_getElem?, Array.getD_eq_getD_getElem?, Array.getElem?_setIfInBounds]
        by_cases hj : i = j
        · subst hj
          simp [show i < listed.size by omega]
        · rw [if_neg hj]
          constructor
          · rintro ⟨a, b⟩; exact ⟨⟨a, b⟩, fun e => hj e.symm⟩
          · rintro ⟨⟨a, b⟩, _⟩; exact ⟨a, b⟩
      have hlen : (unl ops (listed.setIfInBounds i true)).length ≤ fuel := by
        have hnd : (i :: unl ops (listed.setIfInBounds i true)).Nodup := by
          refine List.nodup_cons.2 ⟨fun h => ((hun i).1 h).2 rfl, ?_⟩
          exact List.Nodup.sublist List.filter_sublist List.nodup_range
        have := nodup_le hnd (l2 := unl ops listed) fun x hx => by
          rcases List.mem_cons.1 hx with rfl | hx
          · exact h1
          · exact ((hun x).1 hx).1
        simp only [List.length_cons] at this
        omega
      obtain ⟨g1, g2⟩ := lin_go hback fuel (t / (Region.ready .any ops listed).length) (listed.setIfInBounds i true) (by simpa using hs) hlen
      refine ⟨⟨h3, fun hm => ((hun i).1 ((g2 i).1 hm)).2 rfl, fun o ho e he hbi hm => ?_, g1⟩, fun j => ?_⟩
      · have h5 := h2 o ho e he hbi
        have h6 : listed.getD e.on true = true := by
          rw [Array.getD_eq_getD_getElem?] at h5 ⊢
          cases hx : listed[e.on]? with
          | none => rfl
          | some y => rw [hx] at h5; exact h5
        rcases List.mem_cons.1 hm with hm | hm
        · rw [hm, h4] at h6; cases h6
        · have := (unl_mem.1 ((hun e.on).1 ((g2 _).1 hm)).1).2
          rw [h6] at this; cases this
      · rw [List.mem_cons, g2, hun]
        constructor
        · rintro (rfl | h)
          · exact h1
          · exact h.1
        · intro h
          by_cases hj : j = i
          · exact .inl hj
          · exact .inr ⟨h, hj⟩
theorem lin_schedule (hback : ∀ (i : Nat) (o : Oper), ops[i]? = some o → ∀ e ∈ o.after.toList, Region.binds .any e = true → e.on < i) (t : Nat) : Lin ops (Region.schedule true ops t) ∧ ∀ j, j ∈ Region.schedule true ops t ↔ j < ops.size := by
  have hall : ∀ j, j ∈ unl ops (Array.replicate ops.size false) ↔ j < ops.size := by
    intro j
    rw [unl_mem]
    constructor
    · exact fun h => h.1
    · intro h; refine ⟨h, ?_⟩
      rw [Array.getD_eq_getD_getElem?, Array.getElem?_replicate, if_pos h]; rfl
  have hlen : (unl ops (Array.replicate ops.size false)).length ≤ ops.size := by
    have := List.length_filter_le (fun i => !(Array.replicate ops.size false).getD i true) (List.range ops.size)
    simpa [unl] using this
  obtain ⟨h1, h2⟩ := lin_go hback ops.size t (Array.replicate ops.size false) (by simp) hlen
  have he : Region.schedule true ops t = Region.linearise.go .any ops ops.size t (Array.replicate ops.size false) [] := by simp [Region.schedule, Region.linearise]
  rw [he]
  exact ⟨h1, fun j => (h2 j).trans (hall j)⟩

/-! ### Places in the plan's order -/
theorem sub_split {q1 q2 order : List Nat} {i : Nat} (h : (q1 ++ i :: q2).Sublist order) : ∃ p s, order = p ++ i :: s ∧ (∀ j ∈ q1, j ∈ p) ∧ ∀ j ∈ q2, j ∈ s := by
  obtain ⟨r1, r2, rfl, h1, h2⟩ := List.append_sublist_iff.1 h
  obtain ⟨s1, s2, rfl, h3, h4⟩ := List.cons_sublist_iff.1 h2
  obtain ⟨u, v, rfl⟩ := List.append_of_mem h3
  exact ⟨r1 ++ u, v ++ s2, by simp, fun j hj => List.mem_append_left _ (h1.subset hj), fun j hj => List.mem_append_right _ (h4.subset hj)⟩
theorem twice {order p s p' s' : List Nat} {i j : Nat} (hn : order.Nodup) (h1 : order = p ++ i :: s) (hj : j ∈ p) (h2 : order = p' ++ j :: s') (hi : i ∈ p') : False := by
  have nth_inj : ∀ (a b x : Nat), order[a]? = some x → order[b]? = some x → a = b := by
    intro a b x ha hb
    have hlt : a < order.length := (List.getElem?_eq_some_iff.1 ha).1
    exact (List.getElem?_inj hlt hn).1 (ha.trans hb.symm)
  obtain ⟨n, hn1⟩ := List.mem_iff_getElem?.1 hj
  obtain ⟨n', hn2⟩ := List.mem_iff_getElem?.1 hi
  have l1 : n < p.length := (List.getElem?_eq_some_iff.1 hn1).1
  have l2 : n' < p'.length := (List.getElem?_eq_some_iff.1 hn2).1
  have e1 : order[n]? = some j := by rw [h1, List.getElem?_append_left l1]; exact hn1
  have e2 : order[p'.length]? = some j := by rw [h2]; simp
  have e3 : order[n']? = some i := by rw [h2, List.getElem?_append_left l2]; exact hn2
  have e4 : order[p.length]? = some i := by rw [h1]; simp
  have := nth_inj _ _ _ e1 e2
  have := nth_inj _ _ _ e3 e4
  omega

/-! ### Variables made early -/
theorem alloc_op {i : Nat} {oi : Oper} (ha : isAlloc oi = true) : ∃ e, oi.op = .alloc e := by
  unfold isAlloc at ha
  split at ha
  · exact ⟨_, ‹_›⟩
  · cases ha
theorem alloc_names {oi : Oper} (ha : isAlloc oi = true) (hg : oi.guard = none) : namesOf ops oi = [] := by
  obtain ⟨e, he⟩ := alloc_op (i := 0) ha
  unfold namesOf
  rw [he, hg]
  rfl
theorem opS_alloc {oi : Oper} {e : TypeId} (he : oi.op = .alloc e) {old : List AH} {st st' : St} (h : opS P A S cx true oi old st = some (.normal, st')) :
    ∃ z, zeroCellsP P e = some z ∧ z.all AV.one = true ∧ st' = { st with t := V.putA st.t oi.dst (.ptr st.H.length 0), H := st.H ++ [.arr z] } := by
  unfold opS at h
  obtain ⟨r1, hr1, h⟩ := Option.bind_eq_some_iff.1 h
  unfold op1 opK at hr1
  rw [he] at hr1
  dsimp only at hr1
  obtain ⟨p, hp, hr1⟩ := Option.bind_eq_some_iff.1 hr1
  obtain ⟨z, hz, hp⟩ := Option.bind_eq_some_iff.1 hp
  unfold newA at hp
  split at hp
  · rename_i hone
    injection hp with hp; subst hp
    injection hr1 with hr1; subst hr1
    injection h with h; injection h with _ h
    exact ⟨z, hz, hone, h.symm⟩
  · cases hp
theorem alloc_opS {oi : Oper} {e : TypeId} (he : oi.op = .alloc e) {old : List AH} {st : St} {z : List AV} (hz : zeroCellsP P e = some z) (hone : z.all AV.one = true) :
    opS P A S cx true oi old st = some (.normal, { st with t := V.putA st.t oi.dst (.ptr st.H.length 0), H := st.H ++ [.arr z] }) := by
  unfold opS op1 opK
  rw [he]
  simp only [hz, Option.bind_some, newA, hone, if_true]
theorem wanted_alloc {oi : Oper} (hg : oi.guard = none) {sk : List Nat} {t : List AV} : wantedA ops sk t oi = some true := by unfold wantedA; rw [hg]

theorem catch1 {i : Nat} {oi : Oper} (hi : ops[i]? = some oi) (ha : isAlloc oi = true) (hg : oi.guard = none) {q : List Nat} {x : VS} {fin : St} (h : Runs P A S cx ops hb (i :: q) x fin) :
    ∃ e z, oi.op = .alloc e ∧ zeroCellsP P e = some z ∧ z.all AV.one = true ∧ Runs P A S cx ops hb q ⟨x.sk, x.sn, { x.st with t := V.putA x.st.t oi.dst (.ptr x.st.H.length 0), H := x.st.H ++ [.arr z] }⟩ fin := by
  obtain ⟨e, he⟩ := alloc_op (i := 0) ha
  cases h with
  | cons h1 h2 =>
    rename_i y
    obtain ⟨o, ho, hsn, hc⟩ := h1
    rw [hi] at ho; injection ho with ho; subst ho
    have hh : heavy oi = false := by unfold heavy; rw [he]
    rcases hc with ⟨hw, _, _⟩ | ⟨hw, hk, hst⟩
    · rw [wanted_alloc hg] at hw; cases hw
    · obtain ⟨z, hz, hone, hst⟩ := opS_alloc he hst
      refine ⟨e, z, he, hz, hone, ?_⟩
      have hsn' : y.sn = x.sn := by rw [hsn]; simp [snapOf, hh]
      rw [← hk, ← hsn', ← hst]; exact h2
/-- Somewhere in the run the variable is made. -/
theorem alloc_zero {i : Nat} {oi : Oper} (hi : ops[i]? = some oi) (ha : isAlloc oi = true) (hg : oi.guard = none) {fin : St} : ∀ (q1 : List Nat) {q2 : List Nat} {x : VS}, Runs P A S cx ops hb (q1 ++ i :: q2) x fin →
    ∃ e z, oi.op = .alloc e ∧ zeroCellsP P e = some z ∧ z.all AV.one = true
  | [], q2, x, h => by obtain ⟨e, z, h1, h2, h3, _⟩ := catch1 hi ha hg h; exact ⟨e, z, h1, h2, h3⟩
  | j :: q1, q2, x, h => by
    cases h with
    | cons h1 h2 => exact alloc_zero hi ha hg q1 h2
/-- Its temporary counts for nothing till then. -/
theorem mask {i : Nat} {oi : Oper} (hi : ops[i]? = some oi) (ha : isAlloc oi = true) (hg : oi.guard = none) {d : Nat} (hd : oi.dst = some d) (v : AV) {fin : St} : ∀ (q1 : List Nat) {q2 : List Nat} {x : VS}, Runs P A S cx ops hb (q1 ++ i :: q2) x fin →
    (∀ j ∈ q1, ∀ oj, ops[j]? = some oj → d ∉ namesOf ops oj ∧ oj.dst ≠ some d) → Runs P A S cx ops hb (q1 ++ i :: q2) ⟨x.sk, x.sn, { x.st with t := setN x.st.t d v }⟩ fin
  | [], q2, x, h, hap => by
    obtain ⟨e, z, he, hz, hone, hr⟩ := catch1 hi ha hg h
    have hh : heavy oi = false := by unfold heavy; rw [he]
    refine .cons (y := ⟨x.sk, x.sn, { x.st with t := V.putA x.st.t oi.dst (.ptr x.st.H.length 0), H := x.st.H ++ [.arr z] }⟩) ⟨oi, hi, by simp [snapOf, hh], .inr ⟨wanted_alloc hg, rfl, ?_⟩⟩ hr
    rw [alloc_opS he hz hone]
    dsimp only
    rw [hd]
    simp only [V.putA, setN_eq, List.set_set]
  | j :: q1, q2, x, h, hap => by
    cases h with
    | cons h1 h2 =>
      rename_i y
      obtain ⟨oj, hoj, _⟩ := id h1
      obtain ⟨g1, g2⟩ := hap j (List.mem_cons_self ..) oj hoj
      exact .cons (h1.set v hoj g1 g2) (mask hi ha hg hd v q1 h2 fun n hn => hap n (List.mem_cons_of_mem _ hn))

/-- A block is taken over as a new object. -/
def KW.adopt (k : KW) (n : Nat) (l : Loc) : KW := ⟨fun i => if i = n then some l else k.L i, k.I, k.w⟩
theorem adopt_old {k : KW} {H : AH} (hS : Sim P A k H) {l : Loc} {id : Nat} {l' : Loc} (h : k.L id = some l') : (k.adopt H.length l).L id = some l' := by
  have := hS.dom id l' h
  simp only [KW.adopt]; rw [if_neg (by omega)]; exact h
theorem adopt_inv {k : KW} {n : Nat} {l : Loc} {id : Nat} {l' : Loc} (h : (k.adopt n l).L id = some l') : (id = n ∧ l' = l) ∨ (id ≠ n ∧ k.L id = some l') := by
  simp only [KW.adopt] at h
  split at h
  · rename_i hi; injection h with h; exact .inl ⟨hi, h.symm⟩
  · rename_i hi; exact .inr ⟨hi, h⟩
theorem VLe.adopt {k : KW} {H : AH} (hS : Sim P A k H) (l : Loc) : VLe k (k.adopt H.length l) := fun v v' h => VR.turn (k := k) (k' := k.adopt H.length l) (fun _ _ h => adopt_old hS h) (fun _ h => h) (fun _ _ => rfl) h
theorem Sim.adopt {k : KW} {H : AH} (hS : Sim P A k H) {b : Nat} {cs : Array Value} {elem : TypeId} {cells : List AV} (hb : k.w.heap[b]? = some (.cells cs elem (0, 0))) (hL : ∀ id l, k.L id = some l → l.b ≠ b) (hI : ¬ k.I b)
    (hc : VRs k cells cs.toList) (h1 : cells.all AV.one = true) (h2 : ∀ y ∈ cs.toList, y.oneCell' = true) : Sim P A (k.adopt H.length ⟨b, 0, cs.size⟩) (H ++ [.arr cells]) := by
  have hv := VLe.adopt hS (l := ⟨b, 0, cs.size⟩)
  have hold : ∀ id o', (H ++ [AO.arr cells])[id]? = some o' → id < H.length ∧ H[id]? = some o' ∨ id = H.length ∧ o' = .arr cells := by
    intro id o' h
    rcases Nat.lt_or_ge id H.length with hi | hi
    · rw [List.getElem?_append_left hi] at h; exact .inl ⟨hi, h⟩
    · rw [List.getElem?_append_right hi] at h
      have h0 : id - H.length = 0 := by
        have := (List.getElem?_eq_some_iff.1 h).1; simp at this; omega
      rw [h0] at h; simp at h
      exact .inr ⟨by omega, h.symm⟩
  have hbs : b < k.w.heap.size := (Array.getElem?_eq_some_iff.1 hb).1
  constructor
  · intro id l h
    rcases adopt_inv h with ⟨rfl, _⟩ | ⟨_, h⟩
    · simp
    · have := hS.dom id l h; simp; omega
  · exact hS.imm
  · intro id l h
    rcases adopt_inv h with ⟨_, rfl⟩ | ⟨_, h⟩
    · exact hbs
    · exact hS.rng id l h
  · intro id o l h ha hl hIl
    rcases adopt_inv hl with ⟨_, rfl⟩ | ⟨hne, hl⟩
    · exact hI hIl
    · rcases hold id o h with ⟨_, h⟩ | ⟨h, _⟩
      · exact hS.sep id o l h ha hl hIl
      · exact hne h
  · intro id id' o o' l l' h ha h' ha' hl hl' hbb
    rcases adopt_inv hl with ⟨e1, e2⟩ | ⟨hne, hl⟩
    · rcases adopt_inv hl' with ⟨e3, _⟩ | ⟨hne', hl'⟩
      · rw [e1, e3]
      · subst e2; exact absurd hbb.symm (hL id' l' hl')
    · rcases adopt_inv hl' with ⟨e3, e4⟩ | ⟨hne', hl'⟩
      · subst e4; exact absurd hbb (hL id l hl)
      · rcases hold id o h with ⟨_, h⟩ | ⟨h, _⟩
        · rcases hold id' o' h' with ⟨_, h'⟩ | ⟨h', _⟩
          · exact hS.inj id id' o o' l l' h ha h' ha' hl hl' hbb
          · exact absurd h' hne'
        · exact absurd h hne
  · intro id cs' h
    rcases hold id _ h with ⟨hi, h⟩ | ⟨rfl, h'⟩
    · obtain ⟨l, cv, el, hl, hb', hs, hle, hc'⟩ := hS.arr id cs' h
      exact ⟨l, cv, el, adopt_old hS hl, hb', hs, hle, fun i c hi => let ⟨g1, v, g2, g3, g4⟩ := hc' i c hi; ⟨g1, v, g2, g3, hv _ _ g4⟩⟩
    · injection h' with h'; subst h'
      refine ⟨⟨b, 0, cs.size⟩, cs, elem, by simp [KW.adopt], hb, rfl, by have := hc.1; simp at this; simp; omega, fun i c hi => ?_⟩
      obtain ⟨y, hy, hr⟩ := hc.get hi
      refine ⟨List.all_eq_true.1 h1 c (List.mem_of_getElem? hi), y, by simpa using hy, h2 y (List.mem_of_getElem? hy), hv _ _ hr⟩
  · intro id es h
    rcases hold id _ h with ⟨hi, h⟩ | ⟨rfl, h'⟩
    · exact hS.maps id es h
    · cases h'
  · intro id st pend fn tmps ps asg body h
    rcases hold id _ h with ⟨hi, h⟩ | ⟨rfl, h'⟩
    · obtain ⟨l, hl, ⟨r, hb', hr⟩, hA, hB, hF⟩ := hS.loop id _ _ _ _ _ _ _ h
      exact ⟨l, adopt_old hS hl, ⟨⟨r, hb', hr.1, hr.2.1, hr.2.2.1, hr.2.2.2.1, hr.2.2.2.2.1, hr.2.2.2.2.2.1, hv.vrs hr.2.2.2.2.2.2⟩, hA, hB, hF⟩⟩
    · cases h'

end Go.Proofs.Ytkcamjcicegclaa.V

/- V, part WD: drawn regions are met. Conditions: none. -/
namespace Go.Proofs.Ytkcamjcicegclaa.V
open Go

variable {P : Program} {A : Ann} {S : Or} {cx : Cx} {ops : Array Oper} {order hb : List Nat}

/-- A variable that the machine has made and V has not. -/
def PendOk (P : Program) (ops : Array Oper) (k : KW) (n0 : Nat) (a : Act) (i b : Nat) : Prop :=
  ∃ oi e z cs elem, ops[i]? = some oi ∧ oi.op = .alloc e ∧ zeroCellsP P e = some z ∧ n0 ≤ b ∧ b < k.w.heap.size ∧ (∀ id l, k.L id = some l → l.b ≠ b) ∧ ¬ k.I b ∧
    k.w.heap[b]? = some (Obj.cells cs elem (0, 0)) ∧ VRs k z cs.toList ∧ (∀ y ∈ cs.toList, y.oneCell' = true) ∧ ∀ d, oi.dst = some d → ∀ v, a.tmps[d]? = some v → v = .pointer (some ⟨b, 0, none⟩)
theorem PendOk.mono {k k' : KW} {n0 : Nat} {a a' : Act} {i b : Nat} (hle : KLe k k') (ha : ∀ oi d, ops[i]? = some oi → oi.dst = some d → a'.tmps[d]? = a.tmps[d]?) (h : PendOk P ops k n0 a i b) : PendOk P ops k' n0 a' i b := by
  obtain ⟨oi, e, z, cs, elem, h1, h2, h3, h4, h5, h6, h7, h8, h9, h10, h11⟩ := h
  obtain ⟨g1, g2, g3⟩ := hle.fr b h5 h6
  exact ⟨oi, e, z, cs, elem, h1, h2, h3, h4, Nat.lt_of_lt_of_le h5 hle.size, g2, fun x => h7 (g3 x), g1.trans h8, h9.mono hle, h10, fun d hd v hv => h11 d hd v (by rw [← ha oi d h1 hd]; exact hv)⟩

structure DI (P : Program) (A : Ann) (S : Or) (cx : Cx) (ops : Array Oper) (order hb : List Nat) (k0 : KW) (b : Frame) (fin : St) (k : KW) (m q : List Nat) (x : VS) (pend : List (Nat × Nat)) (done : List Nat) (a : Act) (cs : List Frame) : Prop where
  runs : Runs P A S cx ops hb q x fin
  kle : KLe k0 k
  at_ : At P A k cx x.st b a cs
  sk : SkOk ops x.sk a.tmps
  skq : ∀ j ∈ x.sk, j ∉ q
  mem : ∀ j, j ∈ q ↔ j ∈ m ∨ ∃ bk, (j, bk) ∈ pend
  pm : ∀ p ∈ pend, p.1 ∉ m ∧ PendOk P ops k k0.w.heap.size a p.1 p.2
  pd : ∀ p ∈ pend, ∀ r ∈ pend, p.2 = r.2 → p.1 = r.1
  sub : q.Sublist order
  closed : ∀ (j : Nat) (oj : Oper), ops[j]? = some oj → j ∉ m → ∀ e ∈ oj.after.toList, Region.binds .any e = true → e.on ∉ m
  len : done.length = x.sn.length
  hv : ∀ (j : Nat) (oj : Oper), ops[j]? = some oj → heavy oj = true → j ∉ q → j ∈ done
  lin : Lin ops m

theorem DI.anc {k0 : KW} {b : Frame} {fin : St} {k : KW} {m q : List Nat} {x : VS} {pend : List (Nat × Nat)} {done : List Nat} {a : Act} {cs : List Frame} (h : DI P A S cx ops order hb k0 b fin k m q x pend done a cs) {j y : Nat} (hj : j ∉ m) (ha : Anc ops y j) : y ∉ m := by
  induction ha with
  | one ho he hbi => exact h.closed _ _ ho hj _ he hbi
  | up ho he hbi _ ih => exact ih (h.closed _ _ ho hj _ he hbi)
theorem DI.anc_next {k0 : KW} {b : Frame} {fin : St} {k : KW} {i : Nat} {m q : List Nat} {x : VS} {pend : List (Nat × Nat)} {done : List Nat} {a : Act} {cs : List Frame} (h : DI P A S cx ops order hb k0 b fin k (i :: m) q x pend done a cs) {y : Nat} (ha : Anc ops y i) : y ∉ i :: m := by
  cases ha with
  | one ho he hbi => exact h.lin.2.2.1 _ ho _ he hbi
  | up ho he hbi hx => exact h.anc (h.lin.2.2.1 _ ho _ he hbi) hx

theorem DsR.adopt {k : KW} {H : AH} (hS : Sim P A k H) {bk : Nat} {cs : Array Value} {elem : TypeId} {e : Nat} (hb : k.w.heap[bk]? = some (Obj.cells cs elem (0, 0))) {n : Nat} {ds : List AD} {ds' : List Deferred} (h : DsR k n ds ds') : DsR (k.adopt H.length ⟨bk, 0, e⟩) n ds ds' := by
  induction h with
  | nil => exact .nil
  | cons h1 _ ih => exact .cons ((VLe.adopt hS _).dr h1) ih
  | mark h1 h2 h3 h4 h5 h6 _ ih =>
    refine .mark h1 h2 (fun id l hl => ?_) h4 h5 h6 ih
    rcases adopt_inv hl with ⟨_, rfl⟩ | ⟨_, hl⟩
    · intro he
      dsimp only at he
      subst he
      have h5' : k.w.heap[bk]? = some (Obj.deferred (some [])) := h5
      rw [hb] at h5'; cases h5'
    · exact h3 id l hl

/-- V makes a variable that the machine has made already. -/
theorem DI.catch (hP : PlanF ops order hb) {k0 : KW} {b : Frame} {fin : St} {k : KW} {m q : List Nat} {x : VS} {pend : List (Nat × Nat)} {done : List Nat} {a : Act} {cs : List Frame} {i0 b0 : Nat} (h : DI P A S cx ops order hb k0 b fin k m (i0 :: q) x pend done a cs) (hi0 : (i0, b0) ∈ pend) :
    ∃ k2 x2, k2.w = k.w ∧ x2.sk = x.sk ∧ DI P A S cx ops order hb k0 b fin k2 m q x2 (pend.filter fun p => p.1 != i0) done a cs := by
  obtain ⟨hnm, oi, e, z, cv, elem, h1, h2, h3, h4, h5, h6, h7, h8, h9, h10, h11⟩ := h.pm _ hi0
  dsimp only at hnm h1 h11
  have ha : isAlloc oi = true := by unfold isAlloc; rw [h2]
  obtain ⟨hg, hnames⟩ := hP.alloc i0 oi h1 ha
  obtain ⟨e', z', he', hz', hone, hruns⟩ := catch1 h1 ha hg h.runs
  rw [h2] at he'; injection he' with he'; subst he'
  rw [h3] at hz'; injection hz' with hz'; subst hz'
  have hS := h.at_.sim
  have hS2 := hS.adopt h8 h6 h7 h9 hone h10
  have hv := VLe.adopt hS (l := ⟨b0, 0, cv.size⟩)
  have hnd : (i0 :: q).Nodup := hP.nodup.sublist h.sub
  have hnq := (List.nodup_cons.1 hnd).1
  refine ⟨k.adopt x.st.H.length ⟨b0, 0, cv.size⟩, ⟨x.sk, x.sn, { x.st with t := V.putA x.st.t oi.dst (.ptr x.st.H.length 0), H := x.st.H ++ [.arr z] }⟩, rfl, rfl, ?_⟩
  constructor
  · exact hruns
  · refine ⟨fun id l hl => adopt_old hS (h.kle.L id l hl), h.kle.I, h.kle.size, h.kle.blk, fun b' hb' hn => ?_, h.kle.os, h.kle.out, h.kle.tape, h.kle.lp⟩
    obtain ⟨g1, g2, g3⟩ := h.kle.fr b' hb' hn
    refine ⟨g1, fun id l hl => ?_, g3⟩
    rcases adopt_inv hl with ⟨_, rfl⟩ | ⟨_, hl⟩
    · dsimp only; omega
    · exact g2 id l hl
  · have hat := h.at_
    refine ⟨hS2, ?_, hat.ds.adopt hS h8, hv.ur hat.u, hat.fn, ?_, hat.bs, hat.ex⟩
    · dsimp only
      cases hd : oi.dst with
      | none => exact hv.vrs hat.tm
      | some d =>
        simp only [V.putA, setN_eq]
        refine ⟨by simpa using hat.tm.1, fun n u w hu hw => ?_⟩
        rw [List.getElem?_set] at hu
        split at hu
        · rename_i hdn
          split at hu
          · injection hu with hu; subst hu
            subst hdn
            have := h11 d hd w (by simpa using hw)
            subst this
            have := VR.ptr (k := k.adopt x.st.H.length ⟨b0, 0, cv.size⟩) (id := x.st.H.length) (off := 0) (l := ⟨b0, 0, cv.size⟩) (by simp [KW.adopt])
            simpa using this
          · cases hu
        · exact hv _ _ (hat.tm.2 n u w hu hw)
    · have := hat.rnd
      cases hr : cx.rnd with
      | none => rw [hr] at this; exact this
      | some id =>
        rw [hr] at this
        obtain ⟨l, g1, g2⟩ := this
        exact ⟨l, adopt_old hS g1, g2⟩
  · exact h.sk
  · intro j hj hq; exact h.skq j hj (List.mem_cons_of_mem _ hq)
  · intro j
    constructor
    · intro hj
      have hne : j ≠ i0 := fun he => hnq (he ▸ hj)
      rcases (h.mem j).1 (List.mem_cons_of_mem _ hj) with hm | ⟨bk, hp⟩
      · exact .inl hm
      · exact .inr ⟨bk, List.mem_filter.2 ⟨hp, by simp [hne]⟩⟩
    · intro hj
      have hne : j ≠ i0 := by
        rcases hj with hm | ⟨bk, hp⟩
        · exact fun he => hnm (he ▸ hm)
        · have := (List.mem_filter.1 hp).2
          simpa using this
      have := (h.mem j).2 (by
        rcases hj with hm | ⟨bk, hp⟩
        · exact .inl hm
        · exact .inr ⟨bk, (List.mem_filter.1 hp).1⟩)
      rcases List.mem_cons.1 this with he | hq
      · exact absurd he hne
      · exact hq
  · intro p hp
    obtain ⟨hp1, hp2⟩ := List.mem_filter.1 hp
    obtain ⟨g1, oj, e2, z2, c2, el2, j1, j2, j3, j4, j5, j6, j7, j8, j9, j10, j11⟩ := h.pm p hp1
    refine ⟨g1, oj, e2, z2, c2, el2, j1, j2, j3, j4, j5, fun id l hl => ?_, j7, j8, hv.vrs j9, j10, j11⟩
    rcases adopt_inv hl with ⟨_, rfl⟩ | ⟨_, hl⟩
    · intro heq
      dsimp only at heq
      have := h.pd p hp1 _ hi0 heq.symm
      dsimp only at this
      simp [this] at hp2
    · exact j6 id l hl
  · intro p hp r hr
    exact h.pd p (List.mem_filter.1 hp).1 r (List.mem_filter.1 hr).1
  · exact (List.sublist_cons_self i0 q).trans h.sub
  · exact h.closed
  · exact h.len
  · intro j oj hj hh hq
    refine h.hv j oj hj hh fun hm => ?_
    rcases List.mem_cons.1 hm with rfl | hm
    · rw [h1] at hj; injection hj with hj; subst hj
      unfold heavy at hh; rw [h2] at hh; cases hh
    · exact hq hm
  · exact h.lin
theorem DI.catchAll (hP : PlanF ops order hb) {k0 : KW} {b : Frame} {fin : St} {m q : List Nat} {done : List Nat} {a : Act} {cs : List Frame} : ∀ (α : List Nat) {k : KW} {x : VS} {pend : List (Nat × Nat)}, DI P A S cx ops order hb k0 b fin k m (α ++ q) x pend done a cs → (∀ j ∈ α, ∃ bk, (j, bk) ∈ pend) →
    ∃ k2 x2 pend2, k2.w = k.w ∧ x2.sk = x.sk ∧ DI P A S cx ops order hb k0 b fin k2 m q x2 pend2 done a cs
  | [], k, x, pend, h, _ => ⟨k, x, pend, rfl, rfl, h⟩
  | i0 :: α, k, x, pend, h, hα => by
    obtain ⟨b0, hb0⟩ := hα i0 (List.mem_cons_self ..)
    obtain ⟨k2, x2, hw, hs, h2⟩ := h.catch hP hb0
    have hnd : (i0 :: (α ++ q)).Nodup := hP.nodup.sublist h.sub
    have hni := (List.nodup_cons.1 hnd).1
    obtain ⟨k3, x3, p3, hw3, hs3, h3⟩ := DI.catchAll hP α h2 fun j hj => by
      obtain ⟨bk, hbk⟩ := hα j (List.mem_cons_of_mem _ hj)
      refine ⟨bk, List.mem_filter.2 ⟨hbk, ?_⟩⟩
      have hne : j ≠ i0 := fun e => hni (List.mem_append_left _ (e ▸ hj))
      simp [hne]
    exact ⟨k3, x3, p3, hw3.trans hw, hs3.trans hs, h3⟩

theorem opS_undraw {o : Oper} (hh : heavy o = true) {old : List AH} {st st' : St} (h : opS P A S cx true o old st = some (.normal, st')) : opS P A S cx false o [] st = some (.normal, st') := by
  unfold opS at h ⊢
  rw [op1_heavy hh] at h
  obtain ⟨r1, hr1, h⟩ := Option.bind_eq_some_iff.1 h
  rw [hr1, Option.bind_some]
  cases r1 with
  | val v H => exact h
  | enter f args =>
    obtain ⟨rc, hrc, h⟩ := Option.bind_eq_some_iff.1 h
    dsimp only
    rw [hrc, Option.bind_some]
    split at h
    · exact h
    · simp at h
  | yield l args =>
    obtain ⟨rc, hrc, h⟩ := Option.bind_eq_some_iff.1 h
    dsimp only
    rw [hrc, Option.bind_some]
    split at h
    · exact h
    · simp at h
  | defer d => exact h
  | recover => exact h
  | panic v => simp at h

/-- What follows once an operation is done. -/
theorem Lin.tail {i : Nat} {m : List Nat} (h : Lin ops (i :: m)) : Lin ops m := h.2.2.2

end Go.Proofs.Ytkcamjcicegclaa.V

/- V, part WE: drawn regions are met, whatever order is drawn. Conditions: none. -/
namespace Go.Proofs.Ytkcamjcicegclaa.V
open Go

variable {P : Program} {A : Ann} {S : Or} {cx : Cx} {ops : Array Oper} {order hb : List Nat}

theorem put_other {a : Act} {dst : Option Tmp} {v : Value} {d : Nat} (h : dst ≠ some d) : (a.put dst v).tmps[d]? = a.tmps[d]? := by
  cases dst with
  | none => rfl
  | some e =>
    have hne : e ≠ d := fun he => h (by rw [he])
    simp only [Act.put]
    exact Array.getElem?_setIfInBounds_ne hne

/-- One operation has been done on both sides. -/
theorem DI.next (hP : PlanF ops order hb) {k0 : KW} {b : Frame} {fin : St} {k k' : KW} {i : Nat} {o : Oper} {m q q' : List Nat} {x x' : VS} {pend : List (Nat × Nat)} {done done' : List Nat} {a a' : Act} {cs cs' : List Frame}
    (h : DI P A S cx ops order hb k0 b fin k (i :: m) q x pend done a cs) (ho : ops[i]? = some o) (hq : ∀ j, j ∈ q' ↔ j ∈ q ∧ j ≠ i) (hsub : q'.Sublist order) (hle : KLe k k') (hat : At P A k' cx x'.st b a' cs') (hruns : Runs P A S cx ops hb q' x' fin)
    (htm : ∃ v', a'.tmps = (a.put o.dst v').tmps) (hsk : SkOk ops x'.sk a'.tmps) (hskm : ∀ j ∈ x'.sk, j = i ∨ j ∈ x.sk) (hlen : done'.length = x'.sn.length) (hdone : ∀ j ∈ done, j ∈ done') (hheavy : heavy o = true → i ∈ done') :
    DI P A S cx ops order hb k0 b fin k' m q' x' pend done' a' cs' where
  runs := hruns
  kle := h.kle.trans hle
  at_ := hat
  sk := hsk
  skq j hj hjq := by
    have := (hq j).1 hjq
    rcases hskm j hj with h1 | h1
    · exact this.2 h1
    · exact h.skq j h1 this.1
  mem j := by
    have hi := h.lin.2.1
    rw [hq, h.mem]
    constructor
    · rintro ⟨h1 | h1, h2⟩
      · rcases List.mem_cons.1 h1 with h1 | h1
        · exact absurd h1 h2
        · exact .inl h1
      · exact .inr h1
    · rintro (h1 | ⟨bk, h1⟩)
      · exact ⟨.inl (List.mem_cons_of_mem _ h1), fun he => hi (he ▸ h1)⟩
      · refine ⟨.inr ⟨bk, h1⟩, fun he => ?_⟩
        subst he
        exact (h.pm _ h1).1 (List.mem_cons_self ..)
  pm p hp := by
    obtain ⟨h1, h2⟩ := h.pm p hp
    refine ⟨fun hm => h1 (List.mem_cons_of_mem _ hm), h2.mono hle fun oi d hoi hd => ?_⟩
    obtain ⟨v', hv'⟩ := htm
    rw [hv']
    refine put_other fun he => ?_
    have := hP.uniq i p.1 o oi d ho hoi he hd
    exact h1 (this ▸ List.mem_cons_self ..)
  pd := h.pd
  sub := hsub
  closed j oj hoj hj e he hbi := by
    by_cases hji : j = i
    · subst hji
      exact fun hm => h.lin.2.2.1 oj hoj e he hbi (List.mem_cons_of_mem _ hm)
    · exact fun hm => h.closed j oj hoj (fun hx => by
        rcases List.mem_cons.1 hx with hx | hx
        · exact hji hx
        · exact hj hx) e he hbi (List.mem_cons_of_mem _ hm)
  len := hlen
  hv j oj hoj hh hjq := by
    by_cases hji : j = i
    · subst hji
      rw [ho] at hoj; injection hoj with hoj; subst hoj
      exact hheavy hh
    · exact hdone j (h.hv j oj hoj hh fun hx => hjq ((hq j).2 ⟨hx, hji⟩))
  lin := h.lin.2.2.2

/-- The machine has come one operation further. -/
def DStep (P : Program) (A : Ann) (S : Or) (cx : Cx) (ops : Array Oper) (order hb : List Nat) (k0 : KW) (b : Frame) (K : List Item) (fin : St) (w : World) (i : Nat) (m : List Nat) (a : Act) (cs : List Frame) : Prop :=
  ∃ k' q' x' pend' done' a' cs', SameBut b.kind cs cs' ∧ Steps P (lone (b.atR a (.inRegion ops (i :: m) :: K)) cs w) (lone (b.atR a' (.inRegion ops m :: K)) cs' k'.w) ∧ DI P A S cx ops order hb k0 b fin k' m q' x' pend' done' a' cs'

theorem step_heavy (hA : AnnOk P A) (hC : CallsOk P A S) (hR : RoundsOk P A S) (hP : PlanF ops order hb) (hu : uniqOk ops.toList = true) (hok : ops.toList.all (opOk P) = true) {k0 : KW} {b : Frame} {K : List Item} {fin : St} {k : KW} {i : Nat} {o : Oper} {m q : List Nat} {x : VS} {pend : List (Nat × Nat)} {done : List Nat} {a : Act} {cs : List Frame}
    (h : DI P A S cx ops order hb k0 b fin k (i :: m) q x pend done a cs) (ho : ops[i]? = some o) (hh : heavy o = true) : DStep P A S cx ops order hb k0 b K fin k.w i m a cs := by
  have hoo : opOk P o = true := List.all_eq_true.1 hok o (Array.mem_toList_iff.2 (Array.mem_of_getElem? ho))
  have hiq : i ∈ q := (h.mem i).2 (.inl (List.mem_cons_self ..))
  obtain ⟨α, q2, rfl⟩ := List.append_of_mem hiq
  obtain ⟨p, s, hord, hα, _⟩ := sub_split h.sub
  obtain ⟨k2, x2, pend2, hw2, hs2, h2⟩ := DI.catchAll hP α h fun j hj => by
    have hanc := hP.lazy p i s o hord ho hh j (hα j hj)
    have hjm := h.anc_next hanc
    rcases (h.mem j).1 (List.mem_append_left _ hj) with h1 | h1
    · exact absurd h1 hjm
    · exact h1
  have hnd : (i :: q2).Nodup := hP.nodup.sublist h2.sub
  have hniq := (List.nodup_cons.1 hnd).1
  have hq2 : ∀ j, j ∈ q2 ↔ j ∈ i :: q2 ∧ j ≠ i := by
    intro j
    rw [List.mem_cons]
    constructor
    · exact fun hj => ⟨.inr hj, fun he => hniq (he ▸ hj)⟩
    · rintro ⟨h1 | h1, h2⟩
      · exact absurd h1 h2
      · exact h1
  have hsub2 : q2.Sublist order := (List.sublist_cons_self i q2).trans h2.sub
  have hisk : i ∉ x2.sk := fun hi => h2.skq i hi (List.mem_cons_self ..)
  rw [← hw2]
  cases h2.runs with
  | cons h3 h4 =>
    rename_i y
    obtain ⟨o', ho', hsn, hc⟩ := h3
    rw [ho] at ho'; injection ho' with ho'; subst ho'
    have hlen : (i :: done).length = y.sn.length := by rw [hsn]; simp [snapOf, hh, h2.len]
    rcases hc with ⟨hwn, hsk, hst⟩ | ⟨hwn, hsk, hst⟩
    · have hwant := wanted_sound h2.at_.tm h2.sk hwn
      have hstep := stepR_op_skip (P := P) (b := b) (a := a) (k := K) (cs := cs) (w := k2.w) (ops := ops) (i := i) (rest := m) (by simp [ho, hwant])
      rw [ho] at hstep
      have hat' : At P A k2 cx y.st b (a.put o.dst undef) cs := by
        rw [hst]
        exact h2.at_.put (KLe.refl k2) h2.at_.sim o.dst (v := .tup []) (v' := undef) (.tup rfl (fun i x y hx hy => by simp at hx))
      refine ⟨k2, q2, y, pend2, i :: done, a.put o.dst undef, cs, SameBut.refl cs, .one hstep, ?_⟩
      exact h2.next hP ho hq2 hsub2 (KLe.refl k2) hat' h4 ⟨undef, rfl⟩ (by rw [hsk]; exact h2.sk.skip hu ho hisk) (fun j hj => by rw [hsk] at hj; exact List.mem_cons.1 hj) hlen (fun j hj => List.mem_cons_of_mem _ hj) (fun _ => List.mem_cons_self ..)
    · have hwant := wanted_sound h2.at_.tm h2.sk hwn
      obtain ⟨k', a', cs', hle, hat', hsame, ⟨v', hv'⟩, hsteps⟩ := opS_sound hA hC hR hoo (K := K) (rest := m) ho hwant h2.at_ (opS_undraw hh hst)
      refine ⟨k', q2, y, pend2, i :: done, a', cs', hsame, hsteps, ?_⟩
      exact h2.next hP ho hq2 hsub2 hle hat' h4 ⟨v', hv'⟩ (by rw [hsk, hv']; exact h2.sk.put hu ho hisk v') (fun j hj => by rw [hsk] at hj; exact .inr hj) hlen (fun j hj => List.mem_cons_of_mem _ hj) (fun _ => List.mem_cons_self ..)

/-- What stands ahead of the machine's next operation in V's order does not touch it. -/
theorem apart_of (hP : PlanF ops order hb) {k0 : KW} {b : Frame} {fin : St} {k : KW} {i : Nat} {o : Oper} {m q1 q2 : List Nat} {x : VS} {pend : List (Nat × Nat)} {done : List Nat} {a : Act} {cs : List Frame}
    (h : DI P A S cx ops order hb k0 b fin k (i :: m) (q1 ++ i :: q2) x pend done a cs) (ho : ops[i]? = some o) {j : Nat} {oj : Oper} (hj : j ∈ q1) (hoj : ops[j]? = some oj) :
    j ≠ i ∧ ¬ Anc ops i j ∧ (Anc ops j i → isAlloc oj = true) := by
  obtain ⟨p, s, hord, hα, _⟩ := sub_split h.sub
  have hnd : (q1 ++ i :: q2).Nodup := hP.nodup.sublist h.sub
  refine ⟨fun he => ?_, fun hanc => ?_, fun hanc => ?_⟩
  · subst he
    have := (List.nodup_append.1 hnd).2.2 j hj j (List.mem_cons_self ..)
    exact this rfl
  · have hjo : j ∈ order := h.sub.subset (List.mem_append_left _ hj)
    obtain ⟨p', s', hord'⟩ := List.append_of_mem hjo
    exact twice hP.nodup hord (hα j hj) hord' (hP.lin p' j s' hord' i hanc)
  · have hjm := h.anc_next hanc
    rcases (h.mem j).1 (List.mem_append_left _ hj) with h1 | ⟨bk, h1⟩
    · exact absurd h1 hjm
    · obtain ⟨_, oi, e, z, cv, el, g1, g2, _⟩ := h.pm _ h1
      dsimp only at g1
      rw [hoj] at g1; injection g1 with g1; subst g1
      unfold isAlloc; rw [g2]

theorem step_light (hA : AnnOk P A) (hP : PlanF ops order hb) (hu : uniqOk ops.toList = true) (hok : ops.toList.all (opOk P) = true) {k0 : KW} {b : Frame} {K : List Item} {fin : St} {k : KW} {i : Nat} {o : Oper} {m q : List Nat} {x : VS} {pend : List (Nat × Nat)} {done : List Nat} {a : Act} {cs : List Frame}
    (h : DI P A S cx ops order hb k0 b fin k (i :: m) q x pend done a cs) (ho : ops[i]? = some o) (hl : Light o) : DStep P A S cx ops order hb k0 b K fin k.w i m a cs := by
  have hoo : opOk P o = true := List.all_eq_true.1 hok o (Array.mem_toList_iff.2 (Array.mem_of_getElem? ho))
  have hiq : i ∈ q := (h.mem i).2 (.inl (List.mem_cons_self ..))
  obtain ⟨q1, q2, rfl⟩ := List.append_of_mem hiq
  have hnd : (q1 ++ i :: q2).Nodup := hP.nodup.sublist h.sub
  have hq' : ∀ j, j ∈ q1 ++ q2 ↔ j ∈ q1 ++ i :: q2 ∧ j ≠ i := by
    intro j
    have h1 := List.nodup_append.1 hnd
    have hn1 : i ∉ q1 := fun hi => h1.2.2 i hi i (List.mem_cons_self ..) rfl
    have hn2 : i ∉ q2 := (List.nodup_cons.1 h1.2.1).1
    simp only [List.mem_append, List.mem_cons]
    constructor
    · rintro (h2 | h2)
      · exact ⟨.inl h2, fun he => hn1 (he ▸ h2)⟩
      · exact ⟨.inr (.inr h2), fun he => hn2 (he ▸ h2)⟩
    · rintro ⟨h2 | h2 | h2, h3⟩
      · exact .inl h2
      · exact absurd h2 h3
      · exact .inr h2
  have hsub' : (q1 ++ q2).Sublist order := (List.Sublist.append_left (List.sublist_cons_self i q2) q1).trans h.sub
  have hisk : i ∉ x.sk := fun hi => h.skq i hi hiq
  have hap : ∀ j ∈ q1, ∀ oj, ops[j]? = some oj → Apart ops j oj i o := by
    intro j hj oj hoj
    obtain ⟨g1, g2, g3⟩ := apart_of hP h ho hj hoj
    refine ⟨fun d hd => ⟨fun hm => ?_, fun he => ?_⟩, fun d hd hm => ?_, fun w hw => ?_, ?_, fun ha => (hP.alloc j oj hoj ha).1⟩
    · rcases hP.temps j oj i o d hoj hm ho hd with e | e | e
      · exact g1 e.symm
      · exact g2 e
      · have ha := g3 e
        rw [alloc_names ha (hP.alloc j oj hoj ha).1] at hm
        cases hm
    · exact g1 (hP.uniq j i oj o d hoj ho he hd)
    · rcases hP.temps i o j oj d ho hm hoj hd with e | e | e
      · exact g1 e
      · have ha := g3 e
        exact (hP.alloc j oj hoj ha).2 i o ho hl.1 d hd hm
      · exact g2 e
    · exact g2 (hP.guard j oj i w hoj hw)
    · by_cases hw : ∃ w, o.guard = some (j, w)
      · obtain ⟨w, hw⟩ := hw
        exact .inr (hP.alloc j oj hoj (g3 (hP.guard i o j w ho hw))).1
      · exact .inl fun w he => hw ⟨w, he⟩
  have hlen : nth 0 hb i ≤ x.sn.length := by
    rw [← h.len]
    refine hP.hbs i o ho done fun j oj hoj hh hanc => h.hv j oj hoj hh fun hjq => ?_
    have hjm := h.anc_next hanc
    rcases (h.mem j).1 hjq with h1 | ⟨bk, h1⟩
    · exact hjm h1
    · obtain ⟨_, oi, e, z, cv, el, g1, g2, _⟩ := h.pm _ h1
      dsimp only at g1
      rw [hoj] at g1; injection g1 with g1; subst g1
      unfold heavy at hh; rw [g2] at hh; cases hh
  rcases pull ho hl q1 h.runs hap hlen with ⟨hwn, hr⟩ | ⟨hwn, v, _, hnow, hr⟩
  · have hwant := wanted_sound h.at_.tm h.sk hwn
    have hstep := stepR_op_skip (P := P) (b := b) (a := a) (k := K) (cs := cs) (w := k.w) (ops := ops) (i := i) (rest := m) (by simp [ho, hwant])
    rw [ho] at hstep
    have hat' : At P A k cx { x.st with t := V.putA x.st.t o.dst (.tup []) } b (a.put o.dst undef) cs :=
      h.at_.put (KLe.refl k) h.at_.sim o.dst (v := .tup []) (v' := undef) (.tup rfl (fun i x y hx hy => by simp at hx))
    refine ⟨k, q1 ++ q2, ⟨i :: x.sk, x.sn, { x.st with t := V.putA x.st.t o.dst (.tup []) }⟩, pend, done, a.put o.dst undef, cs, SameBut.refl cs, .one hstep, ?_⟩
    exact h.next hP ho hq' hsub' (KLe.refl k) (x' := ⟨i :: x.sk, x.sn, { x.st with t := V.putA x.st.t o.dst (.tup []) }⟩) hat' hr ⟨undef, rfl⟩ (h.sk.skip hu ho hisk) (fun j hj => List.mem_cons.1 hj) h.len (fun j hj => hj) (fun hh => by rw [hl.1] at hh; cases hh)
  · have hwant := wanted_sound h.at_.tm h.sk hwn
    have hop := hnow fun y hy => (ev_sound h.at_.tm y).lt h.at_.sim.dom
    obtain ⟨k', v', hres, hle, hS', hv⟩ := opT_sound hA h.at_.sim h.at_.tm hoo hop
    have hg := stepGR_op (P := P) (b := b) (k := K) (cs := cs) (w := k.w) (rest := m) ho hwant
    have hs : o.semAt b.roundOf a.eval = execOp a.eval o := Oper.semAt_eq _ _ _ fun c hc => by
      have := hl.1
      unfold heavy at this; rw [hc] at this; cases this
    have hfin : (b.atR a (.inRegion ops (i :: m) :: K)).finish v' = b.atR (a.put o.dst v') (.inRegion ops m :: K) := by
      rw [Frame.finish_atR, ho]; rfl
    have hstep : step P (lone (b.atR a (.inRegion ops (i :: m) :: K)) cs k.w) = .next (lone (b.atR (a.put o.dst v') (.inRegion ops m :: K)) cs k'.w) := by
      refine step_lone_go ?_
      rw [hg, hs, ← hfin]
      rcases hres with hres | ⟨hres, rfl⟩ <;> simp [stepG.apply, hres]
    have hat' := h.at_.put hle hS' o.dst hv
    refine ⟨k', q1 ++ q2, ⟨x.sk, x.sn, { x.st with t := V.putA x.st.t o.dst v }⟩, pend, done, a.put o.dst v', cs, SameBut.refl cs, .one hstep, ?_⟩
    exact h.next hP ho hq' hsub' hle (x' := ⟨x.sk, x.sn, { x.st with t := V.putA x.st.t o.dst v }⟩) hat' hr ⟨v', rfl⟩ (h.sk.put hu ho hisk v') (fun j hj => .inr hj) h.len (fun j hj => hj) (fun hh => by rw [hl.1] at hh; cases hh)

theorem step_alloc (hP : PlanF ops order hb) (hu : uniqOk ops.toList = true) {k0 : KW} {b : Frame} {K : List Item} {fin : St} {k : KW} {i : Nat} {o : Oper} {m q : List Nat} {x : VS} {pend : List (Nat × Nat)} {done : List Nat} {a : Act} {cs : List Frame}
    (h : DI P A S cx ops order hb k0 b fin k (i :: m) q x pend done a cs) (ho : ops[i]? = some o) (ha : isAlloc o = true) : DStep P A S cx ops order hb k0 b K fin k.w i m a cs := by
  have hiq : i ∈ q := (h.mem i).2 (.inl (List.mem_cons_self ..))
  obtain ⟨q1, q2, rfl⟩ := List.append_of_mem hiq
  have hisk : i ∉ x.sk := fun hi => h.skq i hi hiq
  have hg0 := (hP.alloc i o ho ha).1
  obtain ⟨e, z, he, hz, hone⟩ := alloc_zero ho ha hg0 q1 h.runs
  obtain ⟨zv, hzv, rfl, hvr⟩ := zeroCells_inv (k := k) hz
  obtain ⟨hcs, hc1⟩ := cells_sound hvr hone
  have hwant : Region.wanted o (yielded ops a.tmps) = true := by unfold Region.wanted; rw [hg0]
  have hg := stepGR_op (P := P) (b := b) (k := K) (cs := cs) (w := k.w) (rest := m) ho hwant
  have hs : o.semAt b.roundOf a.eval = execOp a.eval o := Oper.semAt_eq _ _ _ fun c hc => by rw [he] at hc; cases hc
  have hnew : (newVar e zv).run P k.w = .ok ⟨k.w.heap.size, 0, none⟩ (k.w.alloc (.cells zv.cells e (0, 0))) := rfl
  have hres : (execOp a.eval o).run P k.w = .ok (.value (.pointer (some ⟨k.w.heap.size, 0, none⟩))) (k.w.alloc (.cells zv.cells e (0, 0))) := by
    unfold execOp
    rw [he]
    simp [Instr.alloc, zeroValue_run hzv, hnew]
  have hfin : (b.atR a (.inRegion ops (i :: m) :: K)).finish (.pointer (some ⟨k.w.heap.size, 0, none⟩)) = b.atR (a.put o.dst (.pointer (some ⟨k.w.heap.size, 0, none⟩))) (.inRegion ops m :: K) := by
    rw [Frame.finish_atR, ho]; rfl
  have hstep : step P (lone (b.atR a (.inRegion ops (i :: m) :: K)) cs k.w) = .next (lone (b.atR (a.put o.dst (.pointer (some ⟨k.w.heap.size, 0, none⟩))) (.inRegion ops m :: K)) cs (k.w.alloc (.cells zv.cells e (0, 0)))) := by
    refine step_lone_go ?_
    rw [hg, hs, ← hfin]
    simp [stepG.apply, hres]
  have hle := KLe.extra h.at_.sim (.cells zv.cells e (0, 0))
  have hS' := h.at_.sim.extra (.cells zv.cells e (0, 0))
  have hat' := h.at_.put hle hS' o.dst (v := .bot) (v' := .pointer (some ⟨k.w.heap.size, 0, none⟩)) .bot
  have hruns : Runs P A S cx ops hb (q1 ++ i :: q2) ⟨x.sk, x.sn, { x.st with t := V.putA x.st.t o.dst .bot }⟩ fin := by
    cases hd : o.dst with
    | none => exact h.runs
    | some d =>
      refine mask ho ha hg0 hd .bot q1 h.runs fun j hj oj hoj => ?_
      obtain ⟨g1, g2, g3⟩ := apart_of hP h ho hj hoj
      refine ⟨fun hm => ?_, fun hdj => g1 (hP.uniq j i oj o d hoj ho hdj hd)⟩
      rcases hP.temps j oj i o d hoj hm ho hd with e' | e' | e'
      · exact g1 e'.symm
      · exact g2 e'
      · have haj := g3 e'
        rw [alloc_names haj (hP.alloc j oj hoj haj).1] at hm
        cases hm
  have hother : ∀ p ∈ pend, ∀ oi d, ops[p.1]? = some oi → oi.dst = some d → (a.put o.dst (.pointer (some ⟨k.w.heap.size, 0, none⟩))).tmps[d]? = a.tmps[d]? := by
    intro p hp oi d hoi hd
    refine put_other fun hdo => ?_
    have := hP.uniq i p.1 o oi d ho hoi hdo hd
    exact (h.pm p hp).1 (this ▸ List.mem_cons_self ..)
  refine ⟨⟨k.L, k.I, k.w.alloc (.cells zv.cells e (0, 0))⟩, q1 ++ i :: q2, ⟨x.sk, x.sn, { x.st with t := V.putA x.st.t o.dst .bot }⟩, (i, k.w.heap.size) :: pend, done, a.put o.dst (.pointer (some ⟨k.w.heap.size, 0, none⟩)), cs, SameBut.refl cs, .one hstep, ?_⟩
  constructor
  · exact hruns
  · exact h.kle.trans hle
  · exact hat'
  · exact h.sk.put hu ho hisk _
  · exact h.skq
  · intro j
    rw [h.mem]
    constructor
    · rintro (h1 | ⟨bk, h1⟩)
      · rcases List.mem_cons.1 h1 with rfl | h1
        · exact .inr ⟨k.w.heap.size, List.mem_cons_self ..⟩
        · exact .inl h1
      · exact .inr ⟨bk, List.mem_cons_of_mem _ h1⟩
    · rintro (h1 | ⟨bk, h1⟩)
      · exact .inl (List.mem_cons_of_mem _ h1)
      · rcases List.mem_cons.1 h1 with h1 | h1
        · injection h1 with h1 _; exact .inl (h1 ▸ List.mem_cons_self ..)
        · exact .inr ⟨bk, h1⟩
  · intro p hp
    rcases List.mem_cons.1 hp with rfl | hp
    · refine ⟨h.lin.2.1, o, e, _, zv.cells, e, ho, he, hz, h.kle.size, by simp, ?_, ?_, heap_alloc_new _ _, hcs.mono hle, hc1, ?_⟩
      · intro id l hl
        have := h.at_.sim.rng id l hl
        omega
      · intro hI
        have := h.at_.sim.imm _ hI
        omega
      · intro d hd v hv
        rw [hd] at hv
        simp only [Act.put, Array.getElem?_setIfInBounds] at hv
        rw [if_pos trivial] at hv
        split at hv
        · injection hv with hv; exact hv.symm
        · cases hv
    · obtain ⟨g1, g2⟩ := h.pm p hp
      exact ⟨fun hm => g1 (List.mem_cons_of_mem _ hm), g2.mono hle (hother p hp)⟩
  · intro p hp r hr heq
    have hlt : ∀ s ∈ pend, s.2 < k.w.heap.size := fun s hs => by
      obtain ⟨_, oi, e', z', cv, el, g1, g2, g3, g4, g5, _⟩ := h.pm s hs
      exact g5
    rcases List.mem_cons.1 hp with rfl | hp
    · rcases List.mem_cons.1 hr with rfl | hr
      · rfl
      · have := hlt r hr; dsimp only at heq; omega
    · rcases List.mem_cons.1 hr with rfl | hr
      · have := hlt p hp; dsimp only at heq; omega
      · exact h.pd p hp r hr heq
  · exact h.sub
  · intro j oj hoj hj e' he' hbi
    by_cases hji : j = i
    · subst hji
      exact fun hm => h.lin.2.2.1 oj hoj e' he' hbi (List.mem_cons_of_mem _ hm)
    · exact fun hm => h.closed j oj hoj (fun hx => by
        rcases List.mem_cons.1 hx with hx | hx
        · exact hji hx
        · exact hj hx) e' he' hbi (List.mem_cons_of_mem _ hm)
  · exact h.len
  · exact h.hv
  · exact h.lin.2.2.2

theorem draw_all (hA : AnnOk P A) (hC : CallsOk P A S) (hR : RoundsOk P A S) (hP : PlanF ops order hb) (hu : uniqOk ops.toList = true) (hok : ops.toList.all (opOk P) = true) {k0 : KW} {b : Frame} {K : List Item} {fin : St} : ∀ (m : List Nat) {k : KW} {q : List Nat} {x : VS} {pend : List (Nat × Nat)} {done : List Nat} {a : Act} {cs : List Frame},
    DI P A S cx ops order hb k0 b fin k m q x pend done a cs → ∃ k' a' cs', KLe k0 k' ∧ At P A k' cx fin b a' cs' ∧ SameBut b.kind cs cs' ∧ Steps P (lone (b.atR a (.inRegion ops m :: K)) cs k.w) (lone (b.atR a' K) cs' k'.w)
  | [], k, q, x, pend, done, a, cs, h => by
    have h' : DI P A S cx ops order hb k0 b fin k [] (q ++ []) x pend done a cs := by rw [List.append_nil]; exact h
    obtain ⟨k2, x2, p2, hw, _, h2⟩ := DI.catchAll hP q h' fun j hj => by
      rcases (h.mem j).1 hj with h1 | h1
      · cases h1
      · exact h1
    have hf : x2.st = fin := by
      cases h2.runs with
      | nil => rfl
    refine ⟨k2, a, cs, h2.kle, hf ▸ h2.at_, SameBut.refl cs, ?_⟩
    rw [hw]
    exact .one stepR_region_end
  | i :: m, k, q, x, pend, done, a, cs, h => by
    have hi : i < ops.size := h.lin.1
    have ho : ops[i]? = some ops[i] := Array.getElem?_eq_getElem hi
    have hstep : DStep P A S cx ops order hb k0 b K fin k.w i m a cs := by
      by_cases hh : heavy ops[i] = true
      · exact step_heavy hA hC hR hP hu hok h ho hh
      · by_cases ha : isAlloc ops[i] = true
        · exact step_alloc hP hu h ho ha
        · exact step_light hA hP hu hok h ho ⟨by simpa using hh, by simpa using ha⟩
    obtain ⟨k', q', x', pend', done', a', cs', hsame, hsteps, h'⟩ := hstep
    obtain ⟨k2, a2, cs2, g1, g2, g3, g4⟩ := draw_all hA hC hR hP hu hok m h'
    exact ⟨k2, a2, cs2, g1, g2, hsame.trans g3, hsteps.trans g4⟩

theorem drawOk (hA : AnnOk P A) (hC : CallsOk P A S) (hR : RoundsOk P A S) : DrawOk P A S := by
  intro cx id ops st r hok hrun k b a K cs hat
  simp only [codeOk, Bool.and_eq_true, Bool.not_true, Bool.false_or] at hok
  obtain ⟨⟨hu, hops⟩, hplan⟩ := hok
  unfold runRegion at hrun
  simp only [if_true] at hrun
  cases hpl : A.plan cx.fid id with
  | none => rw [hpl] at hrun; cases hrun
  | some p =>
    obtain ⟨order, hb⟩ := p
    rw [hpl] at hrun hplan
    dsimp only at hrun hplan
    have hP := planF hplan hu
    obtain ⟨hn, hruns⟩ := runs_of_runOps order [] [] st r hrun
    have hstep := stepR_region_draw (P := P) (b := b) (a := a) (k := K) (cs := cs) (w := k.w) (ops := ops) (id := id)
    rw [hA.mixed] at hstep
    obtain ⟨hl1, hl2⟩ := lin_schedule hP.back (k.w.tape k.w.drawn (.order b.fn id))
    have hle := KLe.drew k
    have hat1 : At P A ⟨k.L, k.I, k.w.drew⟩ cx st b a cs := hat.put hle hat.sim.drew none (v := .bot) (v' := undef) .bot
    have hDI : DI P A S cx ops order hb ⟨k.L, k.I, k.w.drew⟩ b r.2 ⟨k.L, k.I, k.w.drew⟩ (Region.schedule true ops (k.w.tape k.w.drawn (.order b.fn id))) order ⟨[], [], st⟩ [] [] a cs := by
      constructor
      · exact hruns
      · exact KLe.refl _
      · exact hat1
      · intro j hj; cases hj
      · intro j hj; cases hj
      · intro j
        rw [hl2]
        constructor
        · exact fun hj => .inl (hP.bound j hj)
        · rintro (hj | ⟨bk, hj⟩)
          · exact hP.full j hj
          · cases hj
      · intro p hp; cases hp
      · intro p hp; cases hp
      · exact List.Sublist.refl _
      · intro j oj hoj hj
        exact absurd ((hl2 j).2 (Array.getElem?_eq_some_iff.1 hoj).1) hj
      · rfl
      · intro j oj hoj hh hj
        exact absurd (hP.full j (Array.getElem?_eq_some_iff.1 hoj).1) hj
      · exact hl1
    obtain ⟨k', a', cs', g1, g2, g3, g4⟩ := draw_all hA hC hR hP hu hops (K := K) _ hDI
    rw [hn]
    exact ⟨k', a', cs', hle.trans g1, g2, g3, .head hstep g4⟩

end Go.Proofs.Ytkcamjcicegclaa.V

/- V, part WF: V's calls are calls of the machine. Conditions: none. -/
namespace Go.Proofs.Ytkcamjcicegclaa.V
open Go

variable {P : Program} {A : Ann}

structure AllOk (P : Program) (A : Ann) (S : Or) : Prop where
  exec : ExecOk P A S
  scope : ScopeOk P A S
  calls : CallsU P A S
  leave : LeaveOk P A S
  rounds : RoundsOk P A S

theorem allOk_zero : AllOk P A (fun _ => none) where
  exec := fun cx c st r _ h => by simp [Or.execX] at h
  scope := fun cx x y st r _ _ h => by simp [Or.scopeX] at h
  calls := fun f args u H r h => by simp [Or.callE] at h
  leave := fun f t ds m H r h => by simp [Or.leaveE] at h
  rounds := fun id args H r h => by simp [Or.roundE] at h

theorem allOk_F (hA : AnnOk P A) {S : Or} (h : AllOk P A S) : AllOk P A (F P A S) where
  exec := execOk_F hA h.exec h.scope h.calls.calls h.rounds (drawOk hA h.calls.calls h.rounds) (rangeOk_F h.calls.calls)
  scope := scopeOk_F h.exec h.scope
  calls := callsU_F hA h.exec h.leave
  leave := leaveOk_F hA h.calls h.leave
  rounds := roundsOk_F hA h.exec

theorem allOk_sem (hA : AnnOk P A) : ∀ n, AllOk P A (sem P A n)
  | 0 => allOk_zero
  | n + 1 => allOk_F hA (allOk_sem hA n)

/-- V's calls are calls of the machine. -/
theorem calls_sound (hA : AnnOk P A) : CallsU P A (ω P A) := by
  intro f args u H r h
  unfold Or.callE at h
  obtain ⟨o, ho, h⟩ := Option.bind_eq_some_iff.1 h
  obtain ⟨n, hn⟩ := (ω_iff P A _ _).1 ho
  exact (allOk_sem hA n).calls f args u H r (by unfold Or.callE; rw [hn]; exact h)

end Go.Proofs.Ytkcamjcicegclaa.V
