/- Contracts of flight: which mails are the same; what is told of none. Conditions: none. -/
import Derived.Test.YtkcamjcicegclaaY7
set_option linter.unusedVariables false
set_option maxRecDepth 4000
set_option linter.unusedSimpArgs false
namespace Go.Proofs.Ytkcamjcicegclaa.V
open Go

/-! ### Which mails are the same -/
theorem zip_all_eq {α : Type} [DecidableEq α] : ∀ (a b : List α), a.length = b.length → (a.zip b).all (fun p => decide (p.1 = p.2)) = decide (a = b)
  | [], [], _ => by simp
  | x :: a, y :: b, h => by
    rw [List.zip_cons_cons, List.all_cons, zip_all_eq a b (by simpa using h)]
    simp
  | [], _ :: _, h => by simp at h
  | _ :: _, [], h => by simp at h
def byteC (x : UInt8) : AV := .s (.int .u8 x.toNat)
theorem byteRow_flat (b : List UInt8) : (b.map byteRow).flatten = b.map byteC := by
  induction b with
  | nil => rfl
  | cons x b ih => rw [List.map_cons, List.flatten_cons, ih]; rfl
def sameC : AV → AV → Bool
  | .s (.int _ a), .s (.int _ b) => decide (a = b)
  | _, _ => false
theorem sameC_byte (x y : UInt8) : sameC (byteC x) (byteC y) = decide (x = y) := by
  simp only [sameC, byteC]
  rw [decide_eq_decide]
  constructor
  · intro h
    have h2 : x.toNat = y.toNat := by omega
    exact UInt8.toNat_inj.1 h2
  · intro h; rw [h]
theorem sameC_all : ∀ (a b : List UInt8), a.length = b.length → ((a.map byteC).zip (b.map byteC)).all (fun p => sameC p.1 p.2) = decide (a = b)
  | [], [], _ => by simp
  | x :: a, y :: b, h => by
    rw [List.map_cons, List.map_cons, List.zip_cons_cons, List.all_cons, sameC_all a b (by simpa using h), sameC_byte]
    simp
  | [], _ :: _, h => by simp at h
  | _ :: _, [], h => by simp at h

theorem equal_bytes {a b : List UInt8} {va vb : AV} (ha : IsSl 1 (a.map byteRow) va) (hb : IsSl 1 (b.map byteRow) vb) (hla : a.length ≤ 1000000) (H : AH) :
    call P A n_slices_Equal___byte_byte_ [va, vb] .none H = some (.returned (.s (.bool (decide (a = b)))), .none, H) := by
  rw [slices_Equal___byte_byte__eq]; unfold slices_Equal___byte_byte__E
  simp only [ha.len, hb.len, List.length_map, bindS, bin_neq]
  by_cases hl : a.length = b.length
  · have hd : decide ((a.length : Int) ≠ (b.length : Int)) = false := by simp [hl]
    rw [hd]
    simp only [asT_f]
    have hg := equal_gen (H := H) ha hb (by simpa using hl) (by simp; omega) (L := fun t => slices_Equal___byte_byte__L0 va vb (.s (.int .i64 (a.length : Nat))) t H .none H) (f := sameC)
      (fun i x y hx hy => by
        simp only [List.getElem?_map] at hx hy
        obtain ⟨p, _, hp⟩ := Option.map_eq_some_iff.1 hx
        obtain ⟨q, _, hq⟩ := Option.map_eq_some_iff.1 hy
        simp only [byteRow, List.cons.injEq, and_true] at hp hq
        subst hp; subst hq
        simp [sameC])
      (fun t => by
        have := slices_Equal___byte_byte__L0_eq va vb (.s (.int .i64 (a.length : Nat))) t H .none H
        rw [List.length_map]
        exact this)
      a.length 0 (by simp)
    simp only [List.drop_zero, byteRow_flat] at hg
    rw [sameC_all a b hl] at hg
    exact hg
  · have hd : decide ((a.length : Int) ≠ (b.length : Int)) = true := by simp; omega
    have hne : a ≠ b := fun e => hl (by rw [e])
    rw [hd]
    simp only [asT_t, decide_eq_false hne]
    exact shut_0 (by simp)

def sameB (m n : M) (a b : List UInt8) : Bool := decide (m.link = n.link) && (decide (m.frm = n.frm) && (decide (m.to = n.to) && (decide (m.src = n.src) && (decide (a = b) && decide (m.sent = n.sent)))))
theorem same_c {m n : M} {a b : List UInt8} (hm : MOk m a) (hn : MOk n b) (hla : a.length ≤ 1000000) (H : AH) :
    call P A n_flight_SameMail [.agg m.c, .agg n.c] .none H = some (.returned (.s (.bool (sameB m n a b))), .none, H) := by
  rw [flight_SameMail_eq]; unfold flight_SameMail_E
  have h1 := hm.bytes.one1
  have h2 := hn.bytes.one1
  have he := equal_bytes hm.bytes hn.bytes hla (H ++ [.arr m.c, .arr n.c])
  simp only [M.c] at he
  simp [M.c, newA_0 H, h1, h2, he]
  by_cases c1 : m.link = n.link
  · by_cases c2 : m.frm = n.frm
    · by_cases c3 : m.to = n.to
      · by_cases c4 : m.src = n.src
        · by_cases c5 : a = b
          · simp only [c1, c2, c3, c4, c5, if_true]; rw [shut_lt (by simp)]; simp [sameB, c1, c2, c3, c4, c5]
          · simp only [c1, c2, c3, c4, c5, if_true, if_false]; rw [shut_lt (by simp)]; simp [sameB, c5]
        · simp only [c1, c2, c3, c4, if_true, if_false]; rw [shut_lt (by simp)]; simp [sameB, c4]
      · simp only [c1, c2, c3, if_true, if_false]; rw [shut_lt (by simp)]; simp [sameB, c3]
    · simp only [c1, c2, if_true, if_false]; rw [shut_lt (by simp)]; simp [sameB, c2]
  · simp only [c1, if_false]; rw [shut_lt (by simp)]; simp [sameB, c1]

theorem mapM_some_map {α β γ : Type} {f : β → Option γ} (g : α → β) (k : α → γ) (h : ∀ x, f (g x) = some (k x)) : ∀ (l : List α), (l.map g).mapM f = some (l.map k)
  | [] => rfl
  | x :: l => by
    rw [List.map_cons, List.mapM_cons, h x, mapM_some_map g k h l]
    rfl
theorem str_bytes {b : List UInt8} {v : AV} (h : IsSl 1 (b.map byteRow) v) (H : AH) : strOfSl H v = some (.s (.string ⟨b.toArray⟩)) := by
  unfold strOfSl
  rw [h.read H]
  simp only [bindS, byteRow_flat, bytesOfCells]
  rw [mapM_some_map byteC (fun x => ((x.toNat : Nat) : Int)) (fun x => rfl)]
  simp only [Option.map_some, List.map_map]
  have : (b.map ((fun (n : Int) => n.toNat.toUInt8) ∘ fun x => ((x.toNat : Nat) : Int))) = b := by
    conv => rhs; rw [← List.map_id b]
    refine List.map_congr_left fun x _ => ?_
    simp
  rw [this]
theorem refsame_c {m n : M} {a b : List UInt8} (hm : MOk m a) (hn : MOk n b) (H : AH) :
    call P A n_waywardenref19_SameMail [.agg m.c, .agg n.c] .none H = some (.returned (.s (.bool (sameB m n a b))), .none, H) := by
  rw [waywardenref19_SameMail_eq]; unfold waywardenref19_SameMail_E
  have h1 := hm.bytes.one1
  have h2 := hn.bytes.one1
  have s1 := str_bytes hm.bytes (H ++ [.arr m.c, .arr n.c])
  have s2 := str_bytes hn.bytes (H ++ [.arr m.c, .arr n.c])
  simp only [M.c] at s1 s2
  simp [M.c, newA_0 H, h1, h2, s1, s2]
  by_cases c1 : m.link = n.link
  · by_cases c2 : m.frm = n.frm
    · by_cases c3 : m.to = n.to
      · by_cases c4 : m.src = n.src
        · by_cases c5 : a = b
          · simp only [c1, c2, c3, c4, c5, if_true]; rw [shut_lt (by simp)]; simp [sameB, c1, c2, c3, c4, c5]
          · simp only [c1, c2, c3, c4, c5, if_true, if_false]; rw [shut_lt (by simp)]; simp [sameB, c5]
        · simp only [c1, c2, c3, c4, if_true, if_false]; rw [shut_lt (by simp)]; simp [sameB, c4]
      · simp only [c1, c2, c3, if_true, if_false]; rw [shut_lt (by simp)]; simp [sameB, c3]
    · simp only [c1, c2, if_true, if_false]; rw [shut_lt (by simp)]; simp [sameB, c2]
  · simp only [c1, if_false]; rw [shut_lt (by simp)]; simp [sameB, c1]

end Go.Proofs.Ytkcamjcicegclaa.V
