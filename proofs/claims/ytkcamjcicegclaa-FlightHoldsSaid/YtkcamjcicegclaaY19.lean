/- Contracts of flight's statements: how many calls, how a flight stands. Conditions: none. -/
import Derived.Test.YtkcamjcicegclaaY18
set_option linter.unusedVariables false
set_option maxRecDepth 4000
set_option linter.unusedSimpArgs false
namespace Go.Proofs.Ytkcamjcicegclaa.V
open Go

theorem sz29' : szP Try.prog 29 = 10 := by kernel_rfl
theorem AC.c_len (x : AC) : x.c.length = 10 := rfl
/-- An act that a law may be given. -/
def AR (x : AC) : Prop := ∃ b, AOk x b ∧ b.length ≤ maxLen
theorem AR.one {x : AC} (h : AR x) : x.c.all AV.one = true := by
  obtain ⟨b, h, _⟩ := h
  have := h.m.bytes.one1
  simp [AC.c, M.c, this]
theorem ty_acts {d : Nat} {e : TypeId} {avs : List AV} (hu : Try.prog.underlying e = some (.slice 29)) (h : TyA Try.prog (d + 5) e avs) : ∃ (v : AV) (xs : List AC), avs = [v] ∧ IsSl 10 (xs.map AC.c) v ∧ xs.length ≤ maxLen ∧ ∀ x ∈ xs, AR x := by
  unfold TyA at h
  rw [hu] at h
  rcases h with rfl | ⟨len, cells, full, rfl, hmax, hl, hc⟩
  · exact ⟨_, [], rfl, IsSl.nil 10, by simp [maxLen], fun x hx => by cases hx⟩
  · rw [sz29'] at hl hc
    obtain ⟨xs, h1, h2, h3⟩ := rows_list (f := AC.c) (Q := AR) len cells hl fun i hi => by
      obtain ⟨x, b, hx, ho, hm⟩ := ty_act (hc i hi)
      exact ⟨x, hx, b, ho, hm⟩
    refine ⟨_, xs, rfl, ⟨fun r hr => ?_, fun r hr => ?_, .inr ⟨full, ?_⟩⟩, by omega, fun x hx => (h3 x hx).1⟩
    · obtain ⟨x, _, rfl⟩ := List.mem_map.1 hr; rfl
    · obtain ⟨x, hx, rfl⟩ := List.mem_map.1 hr; exact (h3 x hx).1.one
    · rw [h2, List.length_map, h1]
def bl : AV → Nat
  | .sl n _ _ => n
  | _ => 0
theorem bl_of {b : List UInt8} {v : AV} (h : IsSl 1 (b.map byteRow) v) : bl v = b.length := by
  rcases h.is with ⟨rfl, h2⟩ | ⟨f, rfl⟩
  · have : b = [] := by simpa using h2
    subst this; rfl
  · simp [bl]
def fewB (x : AC) : Bool := decide (bl x.m.bytes ≤ 60)
theorem few_loop {xs : List AC} {v : AV} (hv : IsSl 10 (xs.map AC.c) v) (hx : ∀ x ∈ xs, AR x) (hn : xs.length ≤ maxLen) (H : AH) : ∀ (n i : Nat), i + n = xs.length →
    waywardenlaw19_few_L0 v (.s (.int .i64 (i : Nat))) H .none H = some (.returned (.s (.bool ((xs.drop i).all fewB))), .none, H)
  | 0, i, hi => by
    have hlenv := hv.len
    rw [List.length_map] at hlenv
    rw [waywardenlaw19_few_L0_eq]
    have h1 : ¬ ((i : Int) < (xs.length : Int)) := by omega
    have h2 : xs.drop i = [] := List.drop_eq_nil_of_le (by omega)
    simp only [hlenv, bindS, bin_lss, h1, decide_false, asT_f, h2, List.all_nil]
    exact shut_0 (by simp)
  | n + 1, i, hi => by
    have hlenv := hv.len
    rw [List.length_map] at hlenv
    rw [waywardenlaw19_few_L0_eq]
    have h1 : (i : Int) < (xs.length : Int) := by omega
    have hlt : i < xs.length := by omega
    have hm : xs[i]? = some xs[i] := List.getElem?_eq_getElem hlt
    have hd : xs.drop i = xs[i] :: xs.drop (i + 1) := List.drop_eq_getElem_cons hlt
    have hidx := hv.idx (k := .i64) (show i < (xs.map AC.c).length by simpa using hlt)
    have hcell := flat_cell hv.wide (i := i) (r := xs[i].c) (by simp [hm]) (j := 6) (by omega)
    have hc6 : xs[i].c[6]? = some xs[i].m.bytes := rfl
    obtain ⟨b, hb, hmax⟩ := hx _ (List.getElem_mem hlt)
    have hl := hb.m.bytes.len
    rw [List.length_map] at hl
    have hw : IntKind.i64.wrap ((i : Int) + 1) = ((i + 1 : Nat) : Int) := by unfold maxLen at hn; rw [wrap64 (by omega)]; omega
    have hfb : fewB xs[i] = decide (b.length ≤ 60) := by simp only [fewB, bl_of hb.m.bytes]
    rw [hc6] at hcell
    simp only [hlenv, bindS, bin_lss, h1, decide_true, asT_t, hidx, addA_pv, Nat.add_assoc, ld1_pv, hcell, hl, bin_gtr, bin_add, hw, hd, List.all_cons, hfb]
    by_cases h6 : b.length ≤ 60
    · have g : ¬ ((60 : Int) < (b.length : Int)) := by omega
      simp only [g, decide_false, asT_f, h6, decide_true, Bool.true_and]
      exact few_loop hv hx hn H n (i + 1) (by omega)
    · have g : (60 : Int) < (b.length : Int) := by omega
      simp only [g, decide_true, asT_t, h6, decide_false, Bool.false_and]
      exact shut_0 (by simp)
theorem few_c {xs : List AC} {v : AV} (hv : IsSl 10 (xs.map AC.c) v) (hx : ∀ x ∈ xs, AR x) (hn : xs.length ≤ maxLen) (many : Int) (H : AH) :
    call P A n_waywardenlaw19_few [v, .s (.int .i64 many)] .none H = some (.returned (.s (.bool (decide ((xs.length : Int) ≤ many) && xs.all fewB))), .none, H) := by
  have hlenv := hv.len
  rw [List.length_map] at hlenv
  have hloop := few_loop hv hx hn H xs.length 0 (by omega)
  rw [waywardenlaw19_few_eq]; unfold waywardenlaw19_few_E
  simp only [hlenv, bindS, bin_gtr]
  by_cases h : (xs.length : Int) ≤ many
  · have g : ¬ (many < (xs.length : Int)) := by omega
    simp only [g, decide_false, asT_f, h, decide_true, Bool.true_and]
    exact hloop
  · have g : many < (xs.length : Int) := by omega
    simp only [g, decide_true, asT_t, h, decide_false, Bool.false_and]
    exact shut_0 (by simp)
/-- What an act's mail says. -/
theorem AR.rm {x : AC} (h : AR x) (hf : fewB x = true) : ∃ d, RM x.m d := by
  obtain ⟨b, hb, _⟩ := h
  simp only [fewB, bl_of hb.m.bytes, decide_eq_true_eq] at hf
  exact ⟨⟨x.m.link, x.m.frm, x.m.to, x.m.src, b, x.m.sent⟩, ⟨hb.m, hf, rfl, rfl, rfl, rfl, rfl⟩⟩
theorem AC.c_aX (x : AC) : x.c = aX x.what x.pick x.now x.delay x.m := rfl

theorem is_c {H : AH} {id : Nat} {w : AV} {room lost : Int} {ds : List D} (hs : Std H id w room ds lost) (hr : 1 ≤ room ∧ room ≤ 512) :
    call P A n_waywardenlaw19_is [.ptr id 0, w] .none H = some (.returned (.s (.bool true)), .none, H) := by
  obtain ⟨l, l', v, h, rfl, hv, hl, hl', hlen, hx⟩ := hs
  have hH : ∀ L : AH, (H ++ L)[id]? = some (.arr (encF l room lost)) := fun L => hold h
  have h1 := hv.one1
  have hlenv := hv.len
  rw [List.length_map, hl'.len] at hlenv
  have hll := hl.len
  have hA := all_c (hH [.arr [v, .s (.int .i64 room), .s (.int .i64 lost)]]) hl.fok hr.1 (by omega)
  let K : AH := H ++ [.arr [v, .s (.int .i64 room), .s (.int .i64 lost)], .arr (encF l room lost), .arr [.ptr (H.length + 1) 0]]
  have hR := rows_c (H := K) (c := H.length + 2) (id := H.length + 1) (room := room) (lost := lost) (by simp [K, hget]) (by simp [K, hget]) hv hl hl' (by omega) 999
  have h2 := len_c (H := K) (hH _) hl.fok hr.1
  have h3 := room_c (H := K) (hH _) hr.1
  have h4 := lost_c (H := K) (hH _) hr.1
  simp only [K] at hR h2 h3 h4
  simp only [List.append_assoc, List.cons_append, List.nil_append, List.length_append, List.length_cons, List.length_nil, Nat.zero_add, Nat.add_assoc, Nat.reduceAdd] at hA
  rw [hll] at h2
  rw [waywardenlaw19_is_eq]; unfold waywardenlaw19_is_E
  simp only [rF, cells_agg]
  rw [newA_0 H (by simp [h1])]
  simp [-Option.bind_some, hA, hR, h2, h3, h4, hlenv, ldAll]
  exact shut_lt (by simp)

end Go.Proofs.Ytkcamjcicegclaa.V
