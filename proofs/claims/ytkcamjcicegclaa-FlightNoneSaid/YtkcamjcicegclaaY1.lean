/- Contracts of small functions of flight. Conditions: none. -/
import Derived.Test.YtkcamjcicegclaaMB
import Derived.Test.YtkcamjcicegclaaE2
import Derived.Test.YtkcamjcicegclaaE4
import Derived.Test.YtkcamjcicegclaaE5
set_option linter.unusedVariables false
set_option maxRecDepth 4000
set_option linter.unusedSimpArgs false
namespace Go.Proofs.Ytkcamjcicegclaa.V
open Go

/-- A mail. -/
structure M where
  link : Int
  frm : Int
  to : Int
  src : Int
  bytes : AV
  sent : Int
def M.c (m : M) : List AV := [.s (.int .i64 m.link), .s (.int .i64 m.frm), .s (.int .i64 m.to), .s (.int .u32 m.src), m.bytes, .s (.int .i64 m.sent)]
/-- The bytes of a mail: a slice of bytes, by value. -/
def byteRow (x : UInt8) : List AV := [.s (.int .u8 x.toNat)]
structure MOk (m : M) (b : List UInt8) : Prop where
  bytes : IsSl 1 (b.map byteRow) m.bytes
  rl : (-9223372036854775808 : Int) ≤ m.link ∧ m.link ≤ 9223372036854775807
  rf : (-9223372036854775808 : Int) ≤ m.frm ∧ m.frm ≤ 9223372036854775807
  rt : (-9223372036854775808 : Int) ≤ m.to ∧ m.to ≤ 9223372036854775807
  rs : (-9223372036854775808 : Int) ≤ m.sent ∧ m.sent ≤ 9223372036854775807
theorem MOk.one {m : M} {b : List UInt8} (h : MOk m b) : m.c.all AV.one = true := by
  simp [M.c, h.bytes.one1]

theorem num_c (n : Int) (H : AH) : call P A n_waywardenlaw19_num [.s (.int .i64 n)] .none H = some (.returned (.s (.int .i64 n)), .none, H) := by
  rw [waywardenlaw19_num_eq]; unfold waywardenlaw19_num_E
  exact shut_0 (by simp)
theorem late_c {m : M} {b : List UInt8} (h : MOk m b) {now delay : Int} (H : AH) :
    call P A n_flight_carried_late [.agg m.c, .s (.int .i64 now), .s (.int .i64 delay)] .none H = some (.returned (.s (.bool (decide (m.sent ≤ now) && decide (delay ≤ IntKind.i64.wrap (now - m.sent))))), .none, H) := by
  rw [flight_carried_late_eq]; unfold flight_carried_late_E
  have h1 := h.bytes.one1
  simp [M.c, newA_0 H, h1]
  split
  · rename_i hs; rw [shut_lt (by simp)]; simp [hs]
  · rename_i hs; rw [shut_lt (by simp)]; simp [hs]

theorem none_c (H : AH) (id : Nat) {x lost : AV} {r : Int} (h : H[id]? = some (.arr [x, .s (.int .i64 r), lost])) :
    call P A n_flight_Flight_none [.ptr id 0] .none H = some (.returned (.s (.bool (decide (r = 0)))), .none, H) := by
  rw [flight_Flight_none_eq]; unfold flight_Flight_none_E
  simp [ld1_rd, h, shut_0]
theorem none_nil (H : AH) : call P A n_flight_Flight_none [.s (.pointer none)] .none H = some (.returned (.s (.bool true)), .none, H) := by
  rw [flight_Flight_none_eq]; unfold flight_Flight_none_E
  simp [shut_0]

theorem byte_lt (n : Nat) (b : List UInt8) : ∀ r ∈ b.map byteRow, AV.ltL n r = true := by
  intro r hr
  obtain ⟨x, _, rfl⟩ := List.mem_map.1 hr
  simp [byteRow]
theorem clone_bytes {b : List UInt8} {v : AV} (h : IsSl 1 (b.map byteRow) v) (hb : b.length ≤ 1000000) (H : AH) :
    call P A n_slices_Clone___byte_byte_ [v] .none H = some (.returned (cl v), .none, H) := by
  rw [slices_Clone___byte_byte__eq]; unfold slices_Clone___byte_byte__E
  exact clone_gen h H (by omega) (by simp only [fits, Bool.and_eq_true, Nat.ble_eq, room, List.length_map]; omega) (byte_lt _ b)

def M.own (m : M) : M := { m with bytes := cl m.bytes }
theorem MOk.own {m : M} {b : List UInt8} (h : MOk m b) : MOk m.own b := ⟨h.bytes.clone, h.rl, h.rf, h.rt, h.rs⟩
theorem MOk.lt {m : M} {b : List UInt8} (h : MOk m b) (n : Nat) : AV.ltL n m.c = true := by
  have := h.bytes.lt (byte_lt n b)
  simp [M.c, this]
theorem own_c {m : M} {b : List UInt8} (h : MOk m b) (hb : b.length ≤ 1000000) (H : AH) :
    call P A n_flight_carried_own [.agg m.c] .none H = some (.returned (.agg m.own.c), .none, H) := by
  rw [flight_carried_own_eq]; unfold flight_carried_own_E
  have h1 := h.bytes.one1
  have h2 := h.own.bytes.one1
  have h3 := h.own.lt H.length
  simp only [M.c, M.own] at h3
  simp only [M.own] at h2
  simp [M.c, newA_0 H, h1, clone_bytes h.bytes hb, h2]
  rw [shut_lt (by simpa using h3)]
  rfl

def mn (x y : Int) : Int := if y < x then y else x
theorem min_step (H : AH) (id : Nat) (cells : List AV) (h : H[id]? = some (.arr cells)) (n i : Nat) (x y : Int) (hi : i < n) (hn : n ≤ 9223372036854775806) (hc : cells[i]? = some (.s (.int .i64 y))) :
    slices_Min___int64_int64__L0 (.slr id 0 n 1 (some n)) (.s (.int .i64 x)) (.s (.int .i64 (i : Nat))) H .none H = slices_Min___int64_int64__L0 (.slr id 0 n 1 (some n)) (.s (.int .i64 (mn x y))) (.s (.int .i64 ((i + 1 : Nat) : Int))) H .none H := by
  conv => lhs; rw [slices_Min___int64_int64__L0_eq]
  have hw : IntKind.i64.wrap ((i : Int) + 1) = ((i + 1 : Nat) : Int) := by rw [wrap64 (by omega)]; omega
  have h1 : (i : Int) < (n : Int) := by omega
  simp [lenV, h1, idxAddr, ld1_rd, h, hc, minA, fold2, min2A, hw, mn]
theorem min_end (H : AH) (id n : Nat) (x : Int) : slices_Min___int64_int64__L0 (.slr id 0 n 1 (some n)) (.s (.int .i64 x)) (.s (.int .i64 (n : Nat))) H .none H = some (.returned (.s (.int .i64 x)), .none, H) := by
  rw [slices_Min___int64_int64__L0_eq]
  simp [lenV, shut_0]
theorem min4_c (H : AH) (id : Nat) (a b c d : Int) (h : H[id]? = some (.arr [.s (.int .i64 a), .s (.int .i64 b), .s (.int .i64 c), .s (.int .i64 d)])) :
    ∃ x, call P A n_slices_Min___int64_int64_ [.slr id 0 4 1 (some 4)] .none H = some (.returned (.s (.int .i64 x)), .none, H) ∧ (0 ≤ x ↔ 0 ≤ a ∧ 0 ≤ b ∧ 0 ≤ c ∧ 0 ≤ d) := by
  have e1 := min_step H id _ h 4 1 a b (by omega) (by omega) rfl
  have e2 := min_step H id _ h 4 2 (mn a b) c (by omega) (by omega) rfl
  have e3 := min_step H id _ h 4 3 (mn (mn a b) c) d (by omega) (by omega) rfl
  refine ⟨mn (mn (mn a b) c) d, ?_, ?_⟩
  · rw [slices_Min___int64_int64__eq]; unfold slices_Min___int64_int64__E
    simp [lenV, idxAddr, ld1_rd, h]
    exact Eq.trans e1 (Eq.trans e2 (Eq.trans e3 (min_end H id 4 _)))
  · unfold mn; split <;> split <;> split <;> omega

/-- May a mail be? -/
def rightB (m : M) : Bool := decide (0 ≤ m.link ∧ 0 ≤ m.frm ∧ 0 ≤ m.to ∧ 0 ≤ m.sent ∧ m.sent ≤ 4611686018427387904)
theorem right_c {m : M} {b : List UInt8} (h : MOk m b) (H : AH) : call P A n_flight_carried_right [.agg m.c] .none H = some (.returned (.s (.bool (rightB m))), .none, H) := by
  rw [flight_carried_right_eq]; unfold flight_carried_right_E
  have h1 := h.bytes.one1
  obtain ⟨x, hx, hx2⟩ := min4_c (H ++ [.arr m.c, .arr [.s (.int .i64 m.link), .s (.int .i64 m.frm), .s (.int .i64 m.to), .s (.int .i64 m.sent)]]) (H.length + 1) m.link m.frm m.to m.sent (hget H _ 1)
  simp only [M.c] at hx
  simp [M.c, newA_0 H, h1, bldA, fillA, slcArr, hiOf, hx]
  by_cases hx0 : 0 ≤ x
  · rw [if_pos hx0, shut_lt (by simp)]
    have := hx2.1 hx0
    simp [rightB, this]
  · rw [if_neg hx0, shut_lt (by simp)]
    have h3 : ¬ (0 ≤ m.link ∧ 0 ≤ m.frm ∧ 0 ≤ m.to ∧ 0 ≤ m.sent) := fun h => hx0 (hx2.2 h)
    have h4 : rightB m = false := by simp only [rightB, decide_eq_false_iff_not]; omega
    rw [h4]

end Go.Proofs.Ytkcamjcicegclaa.V
