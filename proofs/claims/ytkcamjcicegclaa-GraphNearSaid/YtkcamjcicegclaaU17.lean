/- Graphs as arguments. Conditions: none. -/
import Derived.Test.YtkcamjcicegclaaU16
set_option linter.unusedVariables false
set_option maxRecDepth 4000
set_option linter.unusedSimpArgs false
namespace Go.Proofs.Ytkcamjcicegclaa.V
open Go Dist

theorem gmin64 : (IntKind.i64.min : Int) = -9223372036854775808 := by decide
theorem gmax64 : (IntKind.i64.max : Int) = 9223372036854775807 := by decide
theorem gsz3 : szP Try.prog 3 = 1 := by kernel_rfl
theorem gsz4 : szP Try.prog 4 = 1 := by kernel_rfl
theorem gsz65 : szP Try.prog 65 = 1 := by kernel_rfl
theorem gsz67 : szP Try.prog 67 = 2 := by kernel_rfl
theorem gty_int {d : Nat} {avs : List AV} (h : TyA Try.prog (d + 1) 3 avs) : ∃ i : Int, avs = [.s (.int .i64 i)] := by
  unfold TyA at h
  rw [Try.underlying3] at h
  obtain ⟨i, h1, _⟩ := h
  exact ⟨i, h1⟩
theorem gty_bool {d : Nat} {avs : List AV} (h : TyA Try.prog (d + 1) 4 avs) : ∃ b : Bool, avs = [.s (.bool b)] := by
  unfold TyA at h
  rw [Try.underlying4] at h
  exact h
theorem gty_ints {d : Nat} {avs : List AV} (h : TyA Try.prog (d + 2) 49 avs) : ∃ (v : AV) (xs : List Int), avs = [v] ∧ IsSl 1 (xs.map iRow) v ∧ xs.length ≤ maxLen := by
  unfold TyA at h
  rw [Try.underlying49] at h
  rcases h with rfl | ⟨len, cells, full, rfl, hmax, hl, hc⟩
  · exact ⟨_, [], rfl, IsSl.nil 1, by simp [maxLen]⟩
  · rw [gsz3] at hl hc
    obtain ⟨xs, h1, h2, h3⟩ := rows_list (f := iRow) (Q := fun _ => True) (sz := 1) len cells hl fun i hi => by
      obtain ⟨x, hx⟩ := gty_int (hc i hi)
      exact ⟨x, hx, trivial⟩
    refine ⟨_, xs, rfl, ⟨iRow_wide xs, iRow_one xs, .inr ⟨full, ?_⟩⟩, by omega⟩
    rw [h2, List.length_map, h1]

theorem gsz91 : szP Try.prog 91 = 3 := by kernel_rfl
theorem gty_link {d : Nat} {avs : List AV} (h : TyA Try.prog (d + 2) 91 avs) : ∃ x : Lk, avs = x.c := by
  unfold TyA at h
  rw [Try.underlying91] at h
  obtain ⟨hl, hf⟩ := h
  rw [gsz91] at hl
  match avs, hl with
  | [a0, a1, a2], _ =>
    have f0 := hf { name := "A", type := 3, offset := 0, embedded := false, tag := "", pkgPath := "", byteOffset := 0 } (by simp)
    have f1 := hf { name := "B", type := 3, offset := 1, embedded := false, tag := "", pkgPath := "", byteOffset := 8 } (by simp)
    have f2 := hf { name := "Up", type := 4, offset := 2, embedded := false, tag := "", pkgPath := "", byteOffset := 16 } (by simp)
    simp only [gsz3, gsz4, List.drop_succ_cons, List.drop_zero, List.take_succ_cons, List.take_zero] at f0 f1 f2
    obtain ⟨i0, e0⟩ := gty_int f0
    obtain ⟨i1, e1⟩ := gty_int f1
    obtain ⟨b, e2⟩ := gty_bool f2
    simp only [List.cons.injEq, and_true] at e0 e1 e2
    subst e0; subst e1; subst e2
    exact ⟨⟨i0, i1, b⟩, rfl⟩
theorem gty_links {d : Nat} {avs : List AV} (h : TyA Try.prog (d + 3) 65 avs) : ∃ (v : AV) (ls : List Lk), avs = [v] ∧ IsSl 3 (ls.map Lk.c) v ∧ ls.length ≤ maxLen := by
  unfold TyA at h
  rw [Try.underlying65] at h
  rcases h with rfl | ⟨len, cells, full, rfl, hmax, hl, hc⟩
  · exact ⟨_, [], rfl, IsSl.nil 3, by simp [maxLen]⟩
  · rw [gsz91] at hl hc
    obtain ⟨xs, h1, h2, h3⟩ := rows_list (f := Lk.c) (Q := fun _ => True) (sz := 3) len cells hl fun i hi => by
      obtain ⟨x, hx⟩ := gty_link (hc i hi)
      exact ⟨x, hx, trivial⟩
    refine ⟨_, xs, rfl, ⟨lk_wide xs, lk_one xs, .inr ⟨full, ?_⟩⟩, by omega⟩
    rw [h2, List.length_map, h1]
theorem gty_graph {d : Nat} {avs : List AV} (h : TyA Try.prog (d + 4) 67 avs) : ∃ (R : Int) (v : AV) (ls : List Lk), avs = gC R v ∧ IsSl 3 (ls.map Lk.c) v ∧ ls.length ≤ maxLen := by
  unfold TyA at h
  rw [Try.underlying67] at h
  obtain ⟨hl, hf⟩ := h
  rw [gsz67] at hl
  match avs, hl with
  | [a0, a1], _ =>
    have f0 := hf { name := "Routers", type := 3, offset := 0, embedded := false, tag := "", pkgPath := "", byteOffset := 0 } (by simp)
    have f1 := hf { name := "Links", type := 65, offset := 1, embedded := false, tag := "", pkgPath := "", byteOffset := 8 } (by simp)
    simp only [gsz3, gsz65, List.drop_succ_cons, List.drop_zero, List.take_succ_cons, List.take_zero] at f0 f1
    obtain ⟨i0, e0⟩ := gty_int f0
    obtain ⟨v, ls, e1, hv, hn⟩ := gty_links f1
    simp only [List.cons.injEq, and_true] at e0 e1
    subst e0; subst e1
    exact ⟨i0, a1, ls, rfl, hv, hn⟩

end Go.Proofs.Ytkcamjcicegclaa.V
