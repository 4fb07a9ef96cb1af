/- Contracts of the statement's act: what is put by both. Conditions: none. -/
import Derived.Test.YtkcamjcicegclaaY17
set_option linter.unusedVariables false
set_option maxRecDepth 4000
set_option linter.unusedSimpArgs false
namespace Go.Proofs.Ytkcamjcicegclaa.V
open Go

theorem app_bytes {B : AH} {nl : Bool} {b : List UInt8} {v : AV} (h : BIn B nl b v) (hb : b.length ≤ 1000000) :
    ∃ v' G, appA (B ++ [.arr []]) 1 1 (.slr B.length 0 0 1 (some 0)) v = some (v', B ++ G) ∧ BOut B.length G false b v' := by
  have hf : fits b.length 1 = true := by simp only [fits, Bool.and_eq_true, Nat.ble_eq, room]; omega
  have hone := flat_one (rows := b.map byteRow) (fun r hr => by obtain ⟨x, _, rfl⟩ := List.mem_map.1 hr; rfl)
  have hread := readSl_in h.read [.arr []]
  simp only [appA, hread, appCore, bindS]
  by_cases h0 : b.length = 0
  · have hb0 : b = [] := List.length_eq_zero_iff.1 h0
    subst hb0
    exact ⟨.slr B.length 0 0 1 (some 0), [.arr []], by simp [isSlA], ⟨fun e => (by cases e), fun _ => ⟨0, some 0, by simp, rfl⟩⟩⟩
  · have h1 : ¬ b.length ≤ 0 := by omega
    refine ⟨.slr (B.length + 1) 0 b.length 1 none, [.arr [], .arr (b.map byteRow).flatten], ?_, ⟨fun e => (by cases e), fun _ => ⟨1, none, rfl, rfl⟩⟩⟩
    simp only [h0, false_and, if_false, hone, if_true, Nat.zero_add, hf, Nat.zero_lt_one, and_self, hget0, List.getElem?_cons_zero, Nat.zero_mul, Nat.add_zero, List.length_nil, Nat.le_refl, List.drop_nil, List.take_nil, List.nil_append]
    simp [h1, h0]
theorem bumped3 {B G : AH} {F X Z o : AO} {b : List UInt8} {j n : Nat} {cap : Option Nat} {r : List AV} (hn : B.length = n) (hb : b.length ≤ 1000000) (hr : r[4]? = some (.slr (n + 4 + j) 0 b.length 1 cap)) (hj : G[j]? = some (.arr (b.map byteRow).flatten)) (t0 a7 a10 a11 a12 : AV) (Hs : AH) :
    ∃ G' : AH, G'.length = G.length ∧ waywardenlaw19_act_L3 t0 a7 (.ptr (n + 3) 0) a10 a11 a12 (.s (.int .i64 0)) Hs .none (B ++ (F :: X :: Z :: .arr r :: (G ++ [o]))) = waywardenlaw19_act_J2 t0 a7 a10 a11 a12 Hs .none (B ++ (F :: X :: Z :: .arr r :: (G' ++ [o]))) := by
  subst hn
  have hjl : j < G.length := idlt hj
  have e1 : B.length + 4 + j = B.length + (j + 1 + 1 + 1 + 1) := by omega
  obtain ⟨c', h⟩ := bump3 (k := B.length + 4 + j) (t := B.length + 3) (cap := cap) (r := r) (len := b.length) hb hr (by omega) a7 a10 a11 a12 t0 Hs b.length 0 (b.map byteRow).flatten (B ++ (F :: X :: Z :: .arr r :: (G ++ [o]))) (by omega) (bfl_len b) (u8s_bytes b) (by
    rw [e1, hget]
    simp only [List.getElem?_cons_succ]
    exact hold hj) (by rw [hget]; rfl)
  refine ⟨G.set j (.arr c'), by simp, ?_⟩
  rw [e1, hset] at h
  simp only [List.set_cons_succ, hsetl (L := [o]) _ hjl] at h
  exact h

theorem act_put {H : AH} {id : Nat} {w : AV} {room lost : Int} {ds : List D} (hs : Std H id w room ds lost) (hr : 1 ≤ room ∧ room ≤ 512) (what pick now delay : Int) (t33 : AV) {x : M} {d : D} (hrx : RM x d) (Hs : AH) :
    Went H id room (waywardenlaw19_act_J1 (.ptr id 0) (.ptr H.length 0) (.ptr (H.length + 1) 0) (.ptr (H.length + 2) 0) t33 (.s (.bool true)) Hs .none (H ++ [.arr w.cells, .arr (aX what pick now delay x), .arr [.s (.slice none 0 0), .s (.int .i64 0), .s (.int .i64 0)]])) := by
  obtain ⟨l, l', v, h, rfl, hv, hl, hl', hlen, hx⟩ := hs
  have hH : ∀ L : AH, (H ++ L)[id]? = some (.arr (encF l room lost)) := fun L => hold h
  have hid := idlt h
  have h1 := hv.one1
  have hll := hl.len
  have hll' := hl'.len
  have hxb := hrx.ok.bytes.one1
  have hb60 := hrx.len
  obtain ⟨nl, hin, _, _⟩ := hrx.ok.bytes.bin
  obtain ⟨v', G, hA, ho⟩ := app_bytes (hin (H ++ [.arr [v, .s (.int .i64 room), .s (.int .i64 lost)], .arr (aX what pick now delay x), .arr [.s (.slice none 0 0), .s (.int .i64 0), .s (.int .i64 0)], .arr x.c])) (by omega)
  have hk : (H ++ [AO.arr [v, .s (.int .i64 room), .s (.int .i64 lost)], .arr (aX what pick now delay x), .arr [.s (.slice none 0 0), .s (.int .i64 0), .s (.int .i64 0)], .arr x.c]).length = H.length + 4 := by simp
  rw [hk] at ho
  obtain ⟨j, cap, hv', hj⟩ := ho.own rfl
  subst hv'
  obtain ⟨m, hm⟩ : ∃ m : M, m = { x with bytes := .slr (H.length + 4 + j) 0 d.b.length 1 cap } := ⟨_, rfl⟩
  have hmf : RM (m.fz false d.b) d := by subst hm; exact ⟨⟨BV.sl (nl := false) (fun e => by cases e), hrx.ok.rl, hrx.ok.rf, hrx.ok.rt, hrx.ok.rs⟩, hb60, hrx.e1, hrx.e2, hrx.e3, hrx.e4, hrx.e5⟩
  have hR := refput_c hv hl'.fok (by omega) hrx.good (room := room) hx
  have eE : putE m l room = putE x l' room := by
    have : rightB m = rightB x := by subst hm; rfl
    simp only [putE, this, hll, hll']
  have eG : putG m (m.fz false d.b) l room = if putE x l' room = 0 then l ++ [m.fz false d.b] else l := by rw [putG, eE]
  have eX : putX m l room lost = putX x l' room lost := by simp only [putX, eE]
  have hbo : BOut (H.length + 4) G false d.b m.bytes := by subst hm; exact ho
  have hT := fun (F X Z o : AO) => put_in (H := H ++ (F :: X :: Z :: .arr m.c :: (G ++ [o]))) (hH _) hl.fok hr hx (by omega) (m := m) (nl := false) (b := d.b) (by
    have := BOut.bin (K := H ++ [F, X, Z, .arr m.c]) (G := G) (by simpa using hbo) [o]
    simpa using this) hb60 hmf.good
  simp only [eE, eG, eX, hsetl _ hid] at hT
  have hpx : 0 ≤ putX x l' room lost ∧ putX x l' room lost ≤ 2147483647 := by
    unfold putX
    split
    · split <;> omega
    · exact hx
  have hpv : IsSl 6 ((if putE x l' room = 0 then l' ++ [x] else l').map M.c) (putV v x l' room) := by
    unfold putV
    split
    · exact rL_sl (hl'.snoc hrx).fok
    · exact hv
  have hpl : RL (if putE x l' room = 0 then l ++ [m.fz false d.b] else l) (if putE x l' room = 0 then ds ++ [d] else ds) := by
    split
    · exact hl.snoc hmf
    · exact hl
  have hpl' : RL (if putE x l' room = 0 then l' ++ [x] else l') (if putE x l' room = 0 then ds ++ [d] else ds) := by
    split
    · exact hl'.snoc hrx
    · exact hl'
  have hpn : (((if putE x l' room = 0 then ds ++ [d] else ds).length : Nat) : Int) ≤ room := by
    split
    · rename_i h0
      unfold putE at h0
      split at h0
      · omega
      · split at h0
        · omega
        · simp; omega
    · exact hlen
  generalize (if putE x l' room = 0 then l ++ [m.fz false d.b] else l) = l2 at hT hpl
  generalize (if putE x l' room = 0 then ds ++ [d] else ds) = ds2 at hpl hpl' hpn
  generalize (if putE x l' room = 0 then l' ++ [x] else l') = l2' at hpl' hpv
  generalize putX x l' room lost = lost2 at hT hR hpx
  generalize putV v x l' room = v2 at hR hpv
  generalize putE x l' room = e2 at hT hR
  have h2 := hpv.one1
  have hmb : m.bytes = .slr (H.length + 4 + j) 0 d.b.length 1 cap := by subst hm; rfl
  have e1 : m.link = x.link := by subst hm; rfl
  have e3 : m.frm = x.frm := by subst hm; rfl
  have e4 : m.to = x.to := by subst hm; rfl
  have e5 : m.src = x.src := by subst hm; rfl
  have e6 : m.sent = x.sent := by subst hm; rfl
  obtain ⟨G2, hg2, hL⟩ := bumped3 (B := H.set id (.arr (encF l2 room lost2))) (F := .arr [v, .s (.int .i64 room), .s (.int .i64 lost)]) (X := .arr (aX what pick now delay x)) (Z := .arr [.s (.slice none 0 0), .s (.int .i64 0), .s (.int .i64 0)]) (o := .arr [v2, .s (.int .i64 room), .s (.int .i64 lost2)]) (n := H.length) (by simp) (by omega) (r := m.c) (by rw [← hmb]; rfl) hj (.ptr id 0) (.ptr (H.length + 2) 0) (.ptr (H.length + (G.length + 1 + 1 + 1 + 1)) 0) (.s (.int .i64 e2)) (.s (.int .i64 e2)) Hs
  unfold waywardenlaw19_act_J1
  simp only [rF, cells_agg, M.c, aX, hmb, e1, e3, e4, e5, e6, List.append_assoc, List.cons_append, List.nil_append, List.length_append, List.length_cons, List.length_nil] at hR hA hT hL ⊢
  simp [-Option.bind_some, hA, hR, hT, num_c, h1, h2, hxb, ldAll, bldS, fillA, shut_keep]
  rw [hL]
  unfold waywardenlaw19_act_J2
  rw [← hg2]
  simp [-Option.bind_some, num_c, h2, ldAll, ld1_set, ld1_set0, ldA_set, ldA_set0, stA_set, stA_set0, shut_keep]
  exact went_set hid hpv hpl hpl' hpn hpx _

theorem act_c {H : AH} {id : Nat} {w : AV} {room lost : Int} {ds : List D} (hs : Std H id w room ds lost) (hr : 1 ≤ room ∧ room ≤ 512) (what pick now delay : Int) {x : M} {d : D} (hrx : RM x d) :
    Went H id room (call P A n_waywardenlaw19_act [.ptr id 0, w, .agg (aX what pick now delay x)] .none H) := by
  have hxb := hrx.ok.bytes.one1
  have hp := fun t33 => act_put hs hr what pick now delay t33 hrx H
  have h5 := act_peek hs hr what pick now delay x H
  have h6 := act_take hs hr what pick now delay x H
  have h7 := act_late hs hr what pick now delay x H
  have h8 := act_copy hs hr what pick now delay x H
  have hw1 : w.cells.all AV.one = true := by
    obtain ⟨l, l', v, h, rfl, hv, _⟩ := hs
    have := hv.one1
    simp [rF, this]
  have hx1 : (aX what pick now delay x).all AV.one = true := by simp [aX, hxb]
  have hx0 : ∀ L : AH, ld1 (H ++ (AO.arr w.cells :: .arr (aX what pick now delay x) :: L)) (.ptr (H.length + 1) 0) = some (.s (.int .i64 what)) := fun L => by rw [ld1_app]; rfl
  have hz1 : [AV.s (.slice none 0 0), .s (.int .i64 0), .s (.int .i64 0)].all AV.one = true := by simp
  rw [waywardenlaw19_act_eq]; unfold waywardenlaw19_act_E
  rw [newA_0 H hw1]
  revert hp h5 h6 h7 h8
  generalize waywardenlaw19_act_J1 = J
  intro hp h5 h6 h7 h8
  simp only [bindS, cells_agg, newA_app, hx1, hz1, if_true, List.length_cons, List.length_nil, List.cons_append, List.nil_append, Nat.zero_add, addA_ptr, Nat.add_zero, hx0, bin_eql]
  by_cases c0 : what = 0
  · simp only [c0, decide_true, asT_t]; subst c0; exact hp _
  · by_cases c1 : what = 1
    · subst c1; simp only [c0, decide_true, decide_false, asT_t, asT_f]; exact hp _
    · by_cases c2 : what = 2
      · subst c2; simp only [c0, c1, decide_true, decide_false, asT_t, asT_f]; exact hp _
      · by_cases c3 : what = 3
        · subst c3; simp only [c0, c1, c2, decide_true, decide_false, asT_t, asT_f]; exact hp _
        · simp only [c0, c1, c2, c3, decide_false, asT_f]
          by_cases c4 : what = 4
          · subst c4; simp only [decide_true]; exact hp _
          · simp only [c4, decide_false]
            by_cases c5 : what = 5
            · subst c5; exact h5
            · by_cases c6 : what = 6
              · subst c6; exact h6
              · by_cases c7 : what = 7
                · subst c7; exact h7
                · exact h8 ⟨c5, c6, c7⟩

end Go.Proofs.Ytkcamjcicegclaa.V
