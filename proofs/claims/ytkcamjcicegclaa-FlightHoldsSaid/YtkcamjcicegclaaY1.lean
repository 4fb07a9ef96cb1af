/- Contracts of small functions of flight. Conditions: none. -/
import Derived.Test.YtkcamjcicegclaaMB
import Derived.Test.YtkcamjcicegclaaE2
import Derived.Test.YtkcamjcicegclaaE4
import Derived.Test.YtkcamjcicegclaaE5
set_option linter.unusedVariables false
set_option maxRecDepth 4000
set_option linter.unusedSimpArgs false
namespace Go.Proofs.Ytkcamjcicegclaa.V
open Go

/-- A mail. -/
structure M where
  link : Int
  frm : Int
  to : Int
  src : Int
  bytes : AV
  sent : Int
def M.c (m : M) : List AV := [.s (.int .i64 m.link), .s (.int .i64 m.frm), .s (.int .i64 m.to), .s (.int .u32 m.src), m.bytes, .s (.int .i64 m.sent)]
/-- The bytes of a mail: a slice of bytes, by value. -/
def byteRow (x : UInt8) : List AV := [.s (.int .u8 x.toNat)]
structure MOk (m : M) (b : List UInt8) : Prop where
  bytes : IsSl 1 (b.map byteRow) m.bytes
  rl : (-9223372036854775808 : Int) ≤ m.link ∧ m.link ≤ 9223372036854775807
  rf : (-9223372036854775808 : Int) ≤ m.frm ∧ m.frm ≤ 9223372036854775807
  rt : (-9223372036854775808 : Int) ≤ m.to ∧ m.to ≤ 9223372036854775807
  rs : (-9223372036854775808 : Int) ≤ m.sent ∧ m.sent ≤ 9223372036854775807
theorem MOk.one {m : M} {b : List UInt8} (h : MOk m b) : m.c.all AV.one = true := by
  simp [M.c, h.bytes.one1]

theorem num_c (n : Int) (H : AH) : call P A n_waywardenlaw19_num [.s (.int .i64 n)] .none H = some (.returned (.s (.int .i64 n)), .none, H) := by
  rw [waywardenlaw19_num_eq]; unfold waywardenlaw19_num_E
  exact shut_0 (by simp)
theorem late_c {m : M} (h1 : m.bytes.one = true) {now delay : Int} (H : AH) :
    call P A n_flight_carried_late [.agg m.c, .s (.int .i64 now), .s (.int .i64 delay)] .none H = some (.returned (.s (.bool (decide (m.sent ≤ now) && decide (delay ≤ IntKind.i64.wrap (now - m.sent))))), .none, H) := by
  rw [flight_carried_late_eq]; unfold flight_carried_late_E
  simp [M.c, newA_0 H, h1]
  split
  · rename_i hs; rw [shut_lt (by simp)]; simp [hs]
  · rename_i hs; rw [shut_lt (by simp)]; simp [hs]

theorem none_c (H : AH) (id : Nat) {x lost : AV} {r : Int} (h : H[id]? = some (.arr [x, .s (.int .i64 r), lost])) :
    call P A n_flight_Flight_none [.ptr id 0] .none H = some (.returned (.s (.bool (decide (r = 0)))), .none, H) := by
  rw [flight_Flight_none_eq]; unfold flight_Flight_none_E
  simp [ld1_rd, h, shut_0]
theorem none_nil (H : AH) : call P A n_flight_Flight_none [.s (.pointer none)] .none H = some (.returned (.s (.bool true)), .none, H) := by
  rw [flight_Flight_none_eq]; unfold flight_Flight_none_E
  simp [shut_0]

theorem byte_lt (n : Nat) (b : List UInt8) : ∀ r ∈ b.map byteRow, AV.ltL n r = true := by
  intro r hr
  obtain ⟨x, _, rfl⟩ := List.mem_map.1 hr
  simp [byteRow]
/-- v names, at H, the bytes b; nl: it is nil. -/
structure BIn (H : AH) (nl : Bool) (b : List UInt8) (v : AV) : Prop where
  one : v.one = true
  read : readSl H 1 v = some (b.length, (b.map byteRow).flatten)
  nil1 : nl = true → v = .s (.slice none 0 0) ∧ b = []
  nil0 : nl = false → binA .slice .eql v (.s (.slice none 0 0)) = some (.s (.bool false))
  len : lenV v = some (.s (.int .i64 (b.length : Nat)))
  lt : v.lt H.length = true
theorem BIn.app {H : AH} {nl : Bool} {b : List UInt8} {v : AV} (h : BIn H nl b v) (L : AH) : BIn (H ++ L) nl b v :=
  ⟨h.one, readSl_in h.read L, h.nil1, h.nil0, h.len, lt_mono (by simp) _ h.lt⟩
/-- The bytes, by value, as a copy has them. -/
def BV (nl : Bool) (b : List UInt8) : AV := if nl = true then .s (.slice none 0 0) else .sl b.length (b.map byteRow).flatten false
theorem BV.sl {nl : Bool} {b : List UInt8} (h : nl = true → b = []) : IsSl 1 (b.map byteRow) (BV nl b) := by
  unfold BV
  split
  · rename_i h0; rw [h h0]; exact IsSl.nil 1
  · refine ⟨fun r hr => ?_, fun r hr => ?_, .inr ⟨false, by simp⟩⟩
    · obtain ⟨x, _, rfl⟩ := List.mem_map.1 hr; rfl
    · obtain ⟨x, _, rfl⟩ := List.mem_map.1 hr; rfl
theorem IsSl.bin {b : List UInt8} {v : AV} (h : IsSl 1 (b.map byteRow) v) : ∃ nl, (∀ H, BIn H nl b v) ∧ cl v = BV nl b ∧ (nl = true → b = []) := by
  have hlen := h.len
  rw [List.length_map] at hlen
  rcases h.is with ⟨rfl, h2⟩ | ⟨f, rfl⟩
  · have hb : b = [] := by simpa using h2
    subst hb
    exact ⟨true, fun H => ⟨rfl, rfl, fun _ => ⟨rfl, rfl⟩, fun e => (by cases e), rfl, by simp⟩, rfl, fun _ => rfl⟩
  · refine ⟨false, fun H => ⟨rfl, by rw [h.read]; simp, fun e => (by cases e), fun _ => rfl, hlen, h.lt (byte_lt _ b)⟩, ?_, fun e => (by cases e)⟩
    simp [cl, BV]
/-- What a copy of bytes is: an own object in G, if it is not nil. n: where G begins. -/
structure BOut (n : Nat) (G : AH) (nl : Bool) (b : List UInt8) (v : AV) : Prop where
  nil1 : nl = true → v = .s (.slice none 0 0) ∧ b = []
  own : nl = false → ∃ j cap, v = .slr (n + j) 0 b.length 1 cap ∧ G[j]? = some (.arr (b.map byteRow).flatten)
theorem bfl_len (b : List UInt8) : (b.map byteRow).flatten.length = b.length := by
  rw [flat_len (sz := 1) fun r hr => by obtain ⟨x, _, rfl⟩ := List.mem_map.1 hr; rfl]; simp
theorem BOut.one {n : Nat} {G : AH} {nl : Bool} {b : List UInt8} {v : AV} (h : BOut n G nl b v) : v.one = true := by
  cases nl with
  | true => rw [(h.nil1 rfl).1]; rfl
  | false => obtain ⟨j, cap, rfl, _⟩ := h.own rfl; rfl
theorem BOut.bin {K G : AH} {nl : Bool} {b : List UInt8} {v : AV} (h : BOut K.length G nl b v) (L : AH) : BIn (K ++ (G ++ L)) nl b v := by
  cases nl with
  | true => obtain ⟨rfl, rfl⟩ := h.nil1 rfl; exact ⟨rfl, rfl, fun _ => ⟨rfl, rfl⟩, fun e => (by cases e), rfl, by simp⟩
  | false =>
    obtain ⟨j, cap, rfl, hj⟩ := h.own rfl
    have hlt := (List.getElem?_eq_some_iff.1 hj).1
    refine ⟨rfl, ?_, fun e => (by cases e), fun _ => rfl, rfl, by simp [AV.lt]; omega⟩
    simp only [readSl, hget, hold hj, bfl_len, Nat.mul_one, Nat.zero_add, Nat.le_refl, and_self, if_true, List.drop_zero, true_and]
    rw [List.take_of_length_le (by rw [bfl_len]; omega)]
theorem BOut.frz {K G : AH} {nl : Bool} {b : List UInt8} {v : AV} (h : BOut K.length G nl b v) {n : Nat} (hn : n ≤ K.length) (L : AH) (k : Nat) : frz n (K ++ (G ++ L)) (k + 1) v = some (BV nl b) := by
  cases nl with
  | true => obtain ⟨rfl, rfl⟩ := h.nil1 rfl; rw [frz_lt _ (by simp)]; rfl
  | false =>
    obtain ⟨j, cap, rfl, hj⟩ := h.own rfl
    rw [frz_slr (cells := (b.map byteRow).flatten) k (by omega) (by rw [hget]; exact hold hj) (by rw [bfl_len]; omega) (fun x hx => by
      simp only [List.drop_zero] at hx
      exact ltL_mem (lt_rows (byte_lt n b)) x (List.mem_of_mem_take hx))]
    simp only [List.drop_zero, BV]
    rw [List.take_of_length_le (by rw [bfl_len]; omega)]
    rfl
theorem BOut.shift {n : Nat} {L0 G : AH} {nl : Bool} {b : List UInt8} {v : AV} (h : BOut (n + L0.length) G nl b v) : BOut n (L0 ++ G) nl b v := by
  refine ⟨h.nil1, fun e => ?_⟩
  obtain ⟨j, cap, rfl, hj⟩ := h.own e
  refine ⟨L0.length + j, cap, by simp [Nat.add_assoc], ?_⟩
  rw [List.getElem?_append_right (by omega)]
  simpa using hj
theorem BOut.more {n : Nat} {G : AH} {nl : Bool} {b : List UInt8} {v : AV} (h : BOut n G nl b v) (L : AH) : BOut n (G ++ L) nl b v := by
  refine ⟨h.nil1, fun e => ?_⟩
  obtain ⟨j, cap, rfl, hj⟩ := h.own e
  exact ⟨j, cap, rfl, hold hj⟩
theorem clone_bytes {H : AH} {nl : Bool} {b : List UInt8} {v : AV} (h : BIn H nl b v) (hb : b.length ≤ 1000000) :
    ∃ v' G, call P A n_slices_Clone___byte_byte_ [v] .none H = some (.returned v', .none, H ++ G) ∧ BOut H.length G nl b v' := by
  rw [slices_Clone___byte_byte__eq]; unfold slices_Clone___byte_byte__E
  cases nl with
  | true =>
    obtain ⟨rfl, rfl⟩ := h.nil1 rfl
    exact ⟨.s (.slice none 0 0), [], by simp [shut_keep], ⟨fun _ => ⟨rfl, rfl⟩, fun e => (by cases e)⟩⟩
  | false =>
    have hf : fits b.length 1 = true := by simp only [fits, Bool.and_eq_true, Nat.ble_eq, room]; omega
    have hone := flat_one (rows := b.map byteRow) (fun r hr => by obtain ⟨x, _, rfl⟩ := List.mem_map.1 hr; rfl)
    have hread := readSl_in h.read [.arr []]
    simp only [h.nil0 rfl, bindS, asT_f, bldS, List.all_nil, if_true, fillA, Option.map_some, appA, hread, appCore]
    by_cases h0 : b.length = 0
    · have hb0 : b = [] := List.length_eq_zero_iff.1 h0
      subst hb0
      exact ⟨.slr H.length 0 0 1 (some 0), [.arr []], by simp [isSlA, shut_keep], ⟨fun e => (by cases e), fun _ => ⟨0, some 0, by simp, rfl⟩⟩⟩
    · have h1 : ¬ b.length ≤ 0 := by omega
      refine ⟨.slr (H.length + 1) 0 b.length 1 none, [.arr [], .arr (b.map byteRow).flatten], ?_, ⟨fun e => (by cases e), fun _ => ⟨1, none, rfl, rfl⟩⟩⟩
      simp only [h0, false_and, if_false, hone, if_true, Nat.zero_add, hf, Nat.zero_lt_one, and_self, hget0, List.getElem?_cons_zero, Nat.zero_mul, Nat.add_zero, List.length_nil, Nat.le_refl, List.drop_nil, List.take_nil, List.nil_append]
      simp [h1, shut_keep, h0]

def M.own (m : M) : M := { m with bytes := cl m.bytes }
theorem MOk.own {m : M} {b : List UInt8} (h : MOk m b) : MOk m.own b := ⟨h.bytes.clone, h.rl, h.rf, h.rt, h.rs⟩
theorem MOk.lt {m : M} {b : List UInt8} (h : MOk m b) (n : Nat) : AV.ltL n m.c = true := by
  have := h.bytes.lt (byte_lt n b)
  simp [M.c, this]
theorem own_c {H : AH} {m : M} {nl : Bool} {b : List UInt8} (h : BIn H nl b m.bytes) (hb : b.length ≤ 1000000) :
    ∃ v G, call P A n_flight_carried_own [.agg m.c] .none H = some (.returned (.agg { m with bytes := v }.c), .none, H ++ G) ∧ BOut H.length G nl b v := by
  rw [flight_carried_own_eq]; unfold flight_carried_own_E
  have h1 := h.one
  obtain ⟨v, G, hc, ho⟩ := clone_bytes (h.app [.arr m.c, .arr [.s (.int .i64 0), .s (.int .i64 0), .s (.int .i64 0), .s (.int .u32 0), .s (.slice none 0 0), .s (.int .i64 0)]]) hb
  have h2 := ho.one
  refine ⟨v, [.arr { m with bytes := v }.c, .arr { m with bytes := v }.c] ++ G, ?_, BOut.shift (by simpa using ho)⟩
  simp only [M.c] at hc
  simp [M.c, newA_0 H, h1, hc, h2, shut_keep]

def mn (x y : Int) : Int := if y < x then y else x
theorem min_step (H : AH) (id : Nat) (cells : List AV) (h : H[id]? = some (.arr cells)) (n i : Nat) (x y : Int) (hi : i < n) (hn : n ≤ 9223372036854775806) (hc : cells[i]? = some (.s (.int .i64 y))) :
    slices_Min___int64_int64__L0 (.slr id 0 n 1 (some n)) (.s (.int .i64 x)) (.s (.int .i64 (i : Nat))) H .none H = slices_Min___int64_int64__L0 (.slr id 0 n 1 (some n)) (.s (.int .i64 (mn x y))) (.s (.int .i64 ((i + 1 : Nat) : Int))) H .none H := by
  conv => lhs; rw [slices_Min___int64_int64__L0_eq]
  have hw : IntKind.i64.wrap ((i : Int) + 1) = ((i + 1 : Nat) : Int) := by rw [wrap64 (by omega)]; omega
  have h1 : (i : Int) < (n : Int) := by omega
  simp [lenV, h1, idxAddr, ld1_rd, h, hc, minA, fold2, min2A, hw, mn]
theorem min_end (H : AH) (id n : Nat) (x : Int) : slices_Min___int64_int64__L0 (.slr id 0 n 1 (some n)) (.s (.int .i64 x)) (.s (.int .i64 (n : Nat))) H .none H = some (.returned (.s (.int .i64 x)), .none, H) := by
  rw [slices_Min___int64_int64__L0_eq]
  simp [lenV, shut_0]
theorem min4_c (H : AH) (id : Nat) (a b c d : Int) (h : H[id]? = some (.arr [.s (.int .i64 a), .s (.int .i64 b), .s (.int .i64 c), .s (.int .i64 d)])) :
    ∃ x, call P A n_slices_Min___int64_int64_ [.slr id 0 4 1 (some 4)] .none H = some (.returned (.s (.int .i64 x)), .none, H) ∧ (0 ≤ x ↔ 0 ≤ a ∧ 0 ≤ b ∧ 0 ≤ c ∧ 0 ≤ d) := by
  have e1 := min_step H id _ h 4 1 a b (by omega) (by omega) rfl
  have e2 := min_step H id _ h 4 2 (mn a b) c (by omega) (by omega) rfl
  have e3 := min_step H id _ h 4 3 (mn (mn a b) c) d (by omega) (by omega) rfl
  refine ⟨mn (mn (mn a b) c) d, ?_, ?_⟩
  · rw [slices_Min___int64_int64__eq]; unfold slices_Min___int64_int64__E
    simp [lenV, idxAddr, ld1_rd, h]
    exact Eq.trans e1 (Eq.trans e2 (Eq.trans e3 (min_end H id 4 _)))
  · unfold mn; split <;> split <;> split <;> omega

/-- May a mail be? -/
def rightB (m : M) : Bool := decide (0 ≤ m.link ∧ 0 ≤ m.frm ∧ 0 ≤ m.to ∧ 0 ≤ m.sent ∧ m.sent ≤ 4611686018427387904)
theorem right_c {m : M} (h1 : m.bytes.one = true) (H : AH) : call P A n_flight_carried_right [.agg m.c] .none H = some (.returned (.s (.bool (rightB m))), .none, H) := by
  rw [flight_carried_right_eq]; unfold flight_carried_right_E
  obtain ⟨x, hx, hx2⟩ := min4_c (H ++ [.arr m.c, .arr [.s (.int .i64 m.link), .s (.int .i64 m.frm), .s (.int .i64 m.to), .s (.int .i64 m.sent)]]) (H.length + 1) m.link m.frm m.to m.sent (hget H _ 1)
  simp only [M.c] at hx
  simp [M.c, newA_0 H, h1, bldA, fillA, slcArr, hiOf, hx]
  by_cases hx0 : 0 ≤ x
  · rw [if_pos hx0, shut_lt (by simp)]
    have := hx2.1 hx0
    simp [rightB, this]
  · rw [if_neg hx0, shut_lt (by simp)]
    have h3 : ¬ (0 ≤ m.link ∧ 0 ≤ m.frm ∧ 0 ≤ m.to ∧ 0 ≤ m.sent) := fun h => hx0 (hx2.2 h)
    have h4 : rightB m = false := by simp only [rightB, decide_eq_false_iff_not]; omega
    rw [h4]

end Go.Proofs.Ytkcamjcicegclaa.V
