/- What the arguments of flight's laws are. Conditions: none. -/
import Derived.Test.YtkcamjcicegclaaY9
set_option linter.unusedVariables false
set_option maxRecDepth 4000
set_option linter.unusedSimpArgs false
namespace Go.Proofs.Ytkcamjcicegclaa.V
open Go

theorem min64 : (IntKind.i64.min : Int) = -9223372036854775808 := by decide
theorem max64 : (IntKind.i64.max : Int) = 9223372036854775807 := by decide
theorem min8 : (IntKind.u8.min : Int) = 0 := by decide
theorem max8 : (IntKind.u8.max : Int) = 255 := by decide
theorem sz5 : szP Try.prog 5 = 1 := by kernel_rfl
theorem sz3 : szP Try.prog 3 = 1 := by kernel_rfl
theorem sz2 : szP Try.prog 2 = 1 := by kernel_rfl
theorem sz24 : szP Try.prog 24 = 1 := by kernel_rfl
theorem sz25 : szP Try.prog 25 = 1 := by kernel_rfl
theorem sz27 : szP Try.prog 27 = 6 := by kernel_rfl
theorem sz29 : szP Try.prog 29 = 10 := by kernel_rfl

theorem ty_int3 {d : Nat} {avs : List AV} (h : TyA Try.prog (d + 1) 3 avs) : ∃ i : Int, avs = [.s (.int .i64 i)] ∧ (-9223372036854775808 : Int) ≤ i ∧ i ≤ 9223372036854775807 := by
  unfold TyA at h
  rw [Try.underlying3] at h
  obtain ⟨i, h1, h2, h3⟩ := h
  rw [min64] at h2; rw [max64] at h3
  exact ⟨i, h1, h2, h3⟩
theorem ty_int2 {d : Nat} {avs : List AV} (h : TyA Try.prog (d + 1) 2 avs) : ∃ i : Int, avs = [.s (.int .i64 i)] ∧ (-9223372036854775808 : Int) ≤ i ∧ i ≤ 9223372036854775807 := by
  unfold TyA at h
  rw [Try.underlying2] at h
  obtain ⟨i, h1, h2, h3⟩ := h
  rw [min64] at h2; rw [max64] at h3
  exact ⟨i, h1, h2, h3⟩
theorem ty_int24 {d : Nat} {avs : List AV} (h : TyA Try.prog (d + 1) 24 avs) : ∃ i : Int, avs = [.s (.int .u32 i)] := by
  unfold TyA at h
  rw [Try.underlying24] at h
  obtain ⟨i, h1, _⟩ := h
  exact ⟨i, h1⟩
theorem ty_byte {d : Nat} {avs : List AV} (h : TyA Try.prog (d + 1) 5 avs) : ∃ x : UInt8, avs = byteRow x := by
  unfold TyA at h
  rw [Try.underlying5] at h
  obtain ⟨i, h1, h2, h3⟩ := h
  rw [min8] at h2; rw [max8] at h3
  refine ⟨UInt8.ofNat i.toNat, ?_⟩
  rw [h1]
  have : ((UInt8.ofNat i.toNat).toNat : Int) = i := by
    rw [UInt8.toNat_ofNat', Nat.mod_eq_of_lt (by omega)]
    omega
  simp only [byteRow, this]
/-- Cells, each a byte, are a list of bytes. -/
theorem bytes_of : ∀ (n : Nat) (cells : List AV), cells.length = n → (∀ i, i < n → ∃ x, (cells.drop i).take 1 = byteRow x) → ∃ b : List UInt8, cells = b.map byteC
  | 0, cells, h, _ => ⟨[], List.length_eq_zero_iff.1 h⟩
  | n + 1, cells, h, hx => by
    match cells, h with
    | c :: cs, h =>
      obtain ⟨x, hx0⟩ := hx 0 (by omega)
      obtain ⟨b, hb⟩ := bytes_of n cs (by simpa using h) fun i hi => by
        have := hx (i + 1) (by omega)
        simpa using this
      refine ⟨x :: b, ?_⟩
      simp [byteRow] at hx0
      rw [List.map_cons, hb, hx0]
      rfl
theorem ty_bytes {d : Nat} {avs : List AV} (h : TyA Try.prog (d + 2) 25 avs) : ∃ (v : AV) (b : List UInt8), avs = [v] ∧ IsSl 1 (b.map byteRow) v ∧ b.length ≤ maxLen := by
  unfold TyA at h
  rw [Try.underlying25] at h
  rcases h with rfl | ⟨len, cells, full, rfl, hmax, hl, hc⟩
  · exact ⟨_, [], rfl, IsSl.nil 1, by simp [maxLen]⟩
  · rw [sz5] at hl hc
    simp only [Nat.mul_one] at hl hc
    obtain ⟨b, rfl⟩ := bytes_of len cells hl fun i hi => ty_byte (hc i hi)
    have hbl : b.length = len := by simpa using hl
    refine ⟨_, b, rfl, ⟨fun r hr => ?_, fun r hr => ?_, .inr ⟨full, ?_⟩⟩, by omega⟩
    · obtain ⟨x, _, rfl⟩ := List.mem_map.1 hr; rfl
    · obtain ⟨x, _, rfl⟩ := List.mem_map.1 hr; rfl
    · rw [byteRow_flat, List.length_map, hbl]

theorem ty_mail {d : Nat} {avs : List AV} (h : TyA Try.prog (d + 3) 27 avs) : ∃ (m : M) (b : List UInt8), avs = m.c ∧ MOk m b ∧ b.length ≤ maxLen := by
  unfold TyA at h
  rw [Try.underlying27] at h
  obtain ⟨hl, hf⟩ := h
  rw [sz27] at hl
  match avs, hl with
  | [a0, a1, a2, a3, a4, a5], _ =>
    have f0 := hf { name := "Link", type := 3, offset := 0, embedded := false, tag := "", pkgPath := "", byteOffset := 0 } (by simp)
    have f1 := hf { name := "From", type := 3, offset := 1, embedded := false, tag := "", pkgPath := "", byteOffset := 8 } (by simp)
    have f2 := hf { name := "To", type := 3, offset := 2, embedded := false, tag := "", pkgPath := "", byteOffset := 16 } (by simp)
    have f3 := hf { name := "Src", type := 24, offset := 3, embedded := false, tag := "", pkgPath := "", byteOffset := 24 } (by simp)
    have f4 := hf { name := "Bytes", type := 25, offset := 4, embedded := false, tag := "", pkgPath := "", byteOffset := 32 } (by simp)
    have f5 := hf { name := "Sent", type := 2, offset := 5, embedded := false, tag := "", pkgPath := "", byteOffset := 56 } (by simp)
    simp only [sz3, sz2, sz24, sz25, List.drop_succ_cons, List.drop_zero, List.take_succ_cons, List.take_zero] at f0 f1 f2 f3 f4 f5
    obtain ⟨i0, e0, r0⟩ := ty_int3 f0
    obtain ⟨i1, e1, r1⟩ := ty_int3 f1
    obtain ⟨i2, e2, r2⟩ := ty_int3 f2
    obtain ⟨i3, e3⟩ := ty_int24 f3
    obtain ⟨v, b, e4, hb, hm⟩ := ty_bytes f4
    obtain ⟨i5, e5, r5⟩ := ty_int2 f5
    simp only [List.cons.injEq, and_true] at e0 e1 e2 e3 e4 e5
    subst e0; subst e1; subst e2; subst e3; subst e4; subst e5
    exact ⟨⟨i0, i1, i2, i3, a4, i5⟩, b, rfl, ⟨hb, r0, r1, r2, r5⟩, hm⟩

/-- A call that a law is given. -/
structure AC where
  what : Int
  pick : Int
  m : M
  now : Int
  delay : Int
def AC.c (x : AC) : List AV := [.s (.int .i64 x.what), .s (.int .i64 x.pick)] ++ x.m.c ++ [.s (.int .i64 x.now), .s (.int .i64 x.delay)]
structure AOk (x : AC) (b : List UInt8) : Prop where
  m : MOk x.m b
  rp : (-9223372036854775808 : Int) ≤ x.pick ∧ x.pick ≤ 9223372036854775807
  rn : (-9223372036854775808 : Int) ≤ x.now ∧ x.now ≤ 9223372036854775807
  rd : (-9223372036854775808 : Int) ≤ x.delay ∧ x.delay ≤ 9223372036854775807
theorem ty_act {d : Nat} {avs : List AV} (h : TyA Try.prog (d + 4) 29 avs) : ∃ (x : AC) (b : List UInt8), avs = x.c ∧ AOk x b ∧ b.length ≤ maxLen := by
  unfold TyA at h
  rw [Try.underlying29] at h
  obtain ⟨hl, hf⟩ := h
  rw [sz29] at hl
  match avs, hl with
  | [a0, a1, a2, a3, a4, a5, a6, a7, a8, a9], _ =>
    have f0 := hf { name := "What", type := 3, offset := 0, embedded := false, tag := "", pkgPath := "", byteOffset := 0 } (by simp)
    have f1 := hf { name := "Pick", type := 3, offset := 1, embedded := false, tag := "", pkgPath := "", byteOffset := 8 } (by simp)
    have f2 := hf { name := "Mail", type := 27, offset := 2, embedded := false, tag := "", pkgPath := "", byteOffset := 16 } (by simp)
    have f3 := hf { name := "Now", type := 2, offset := 8, embedded := false, tag := "", pkgPath := "", byteOffset := 80 } (by simp)
    have f4 := hf { name := "Delay", type := 2, offset := 9, embedded := false, tag := "", pkgPath := "", byteOffset := 88 } (by simp)
    simp only [sz3, sz2, sz27, List.drop_succ_cons, List.drop_zero, List.take_succ_cons, List.take_zero] at f0 f1 f2 f3 f4
    obtain ⟨i0, e0, r0⟩ := ty_int3 f0
    obtain ⟨i1, e1, r1⟩ := ty_int3 f1
    obtain ⟨m, b, e2, hm, hmax⟩ := ty_mail f2
    obtain ⟨i3, e3, r3⟩ := ty_int2 f3
    obtain ⟨i4, e4, r4⟩ := ty_int2 f4
    simp only [List.cons.injEq, and_true] at e0 e1 e3 e4
    subst e0; subst e1; subst e3; subst e4
    refine ⟨⟨i0, i1, m, i3, i4⟩, b, ?_, ⟨hm, r1, r3, r4⟩, hmax⟩
    simp only [AC.c, ← e2]
    rfl

/-- few, asked of one call. -/
theorem few1_c {H : AH} {id : Nat} {x : AC} {b : List UInt8} (h : H[id]? = some (.arr x.c)) (hx : AOk x b) (hb : b.length ≤ maxLen) :
    call P A n_waywardenlaw19_few [.slr id 0 1 10 (some 1), .s (.int .i64 1)] .none H = some (.returned (.s (.bool (decide (b.length ≤ 60)))), .none, H) := by
  have hc6 : x.c[6]? = some x.m.bytes := rfl
  have hl := hx.m.bytes.len
  rw [List.length_map] at hl
  rw [waywardenlaw19_few_eq]; unfold waywardenlaw19_few_E
  have g1 : decide ((1 : Int) < 1) = false := rfl
  have g2 : decide ((0 : Int) < 1) = true := rfl
  have n1 : lenV (.slr id 0 1 10 (some 1)) = some (.s (.int .i64 1)) := rfl
  have i0 : idxAddr 10 (.slr id 0 1 10 (some 1)) (.s (.int .i64 0)) = some (.ptr id 0) := rfl
  simp only [n1, bindS, bin_gtr, g1, asT_f]
  rw [waywardenlaw19_few_L0_eq]
  simp only [n1, bindS, bin_lss, g2, asT_t, i0, addA_ptr, Nat.zero_add, ld1_rd, h, rd1_arr, hc6, hl, bin_gtr]
  have w1 : IntKind.i64.wrap (0 + 1) = 1 := rfl
  by_cases h6 : b.length ≤ 60
  · have : ¬ ((60 : Int) < (b.length : Int)) := by omega
    simp only [this, decide_false, asT_f, bin_add, w1, bindS]
    rw [waywardenlaw19_few_L0_eq]
    simp only [n1, bindS, bin_lss, g1, asT_f, h6, decide_true]
    exact shut_0 (by simp)
  · have : (60 : Int) < (b.length : Int) := by omega
    simp only [this, decide_true, asT_t, h6, decide_false]
    exact shut_0 (by simp)

end Go.Proofs.Ytkcamjcicegclaa.V
