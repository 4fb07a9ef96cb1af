/- Contracts of the document's flight: lists by value. Conditions: none. -/
import Derived.Test.YtkcamjcicegclaaY10
set_option linter.unusedVariables false
set_option maxRecDepth 4000
set_option linter.unusedSimpArgs false
namespace Go.Proofs.Ytkcamjcicegclaa.V
open Go

/-- What a mail says. -/
structure D where
  link : Int
  frm : Int
  to : Int
  src : Int
  b : List UInt8
  sent : Int
deriving DecidableEq
structure RM (m : M) (d : D) : Prop where
  ok : MOk m d.b
  len : d.b.length ≤ 60
  e1 : m.link = d.link
  e2 : m.frm = d.frm
  e3 : m.to = d.to
  e4 : m.src = d.src
  e5 : m.sent = d.sent
theorem RM.good {m : M} {d : D} (h : RM m d) : Good m := ⟨d.b, h.ok, h.len⟩
/-- Mails that say these. -/
def RL : List M → List D → Prop
  | [], [] => True
  | m :: l, d :: ds => RM m d ∧ RL l ds
  | _, _ => False
theorem RL.len : ∀ {l : List M} {ds : List D}, RL l ds → l.length = ds.length
  | [], [], _ => rfl
  | m :: l, d :: ds, h => by simp [RL.len h.2]
  | [], _ :: _, h => h.elim
  | _ :: _, [], h => h.elim
theorem RL.fok : ∀ {l : List M} {ds : List D}, RL l ds → FOk l
  | [], [], _ => FOk.nil
  | m :: l, d :: ds, h => fun x hx => by
    rcases List.mem_cons.1 hx with rfl | hx
    · exact h.1.good
    · exact RL.fok h.2 x hx
  | [], _ :: _, h => h.elim
  | _ :: _, [], h => h.elim
theorem RL.get : ∀ {l : List M} {ds : List D}, RL l ds → ∀ {i : Nat} {m : M}, l[i]? = some m → ∃ d, ds[i]? = some d ∧ RM m d
  | [], [], _, i, m, h => by simp at h
  | m :: l, d :: ds, h, 0, m', hm => by simp at hm; subst hm; exact ⟨d, rfl, h.1⟩
  | m :: l, d :: ds, h, i + 1, m', hm => by simpa using RL.get h.2 (i := i) (by simpa using hm)
  | [], _ :: _, h, _, _, _ => h.elim
  | _ :: _, [], h, _, _, _ => h.elim
theorem RL.snoc : ∀ {l : List M} {ds : List D}, RL l ds → ∀ {m : M} {d : D}, RM m d → RL (l ++ [m]) (ds ++ [d])
  | [], [], _, m, d, h => ⟨h, trivial⟩
  | m :: l, d :: ds, h, _, _, g => ⟨h.1, RL.snoc h.2 g⟩
  | [], _ :: _, h, _, _, _ => h.elim
  | _ :: _, [], h, _, _, _ => h.elim
theorem RL.erase : ∀ {l : List M} {ds : List D}, RL l ds → ∀ (i : Nat), RL (l.eraseIdx i) (ds.eraseIdx i)
  | [], [], _, i => by simp [RL]
  | m :: l, d :: ds, h, 0 => by simpa using h.2
  | m :: l, d :: ds, h, i + 1 => by simpa using ⟨h.1, RL.erase h.2 i⟩
  | [], _ :: _, h, _ => h.elim
  | _ :: _, [], h, _ => h.elim
def lateD (now delay : Int) (d : D) : Bool := decide (d.sent ≤ now) && decide (delay ≤ IntKind.i64.wrap (now - d.sent))
theorem RM.late {m : M} {d : D} (h : RM m d) (now delay : Int) : lateB now delay m = lateD now delay d := by simp only [lateB, lateD, h.e5]
theorem RL.find : ∀ {l : List M} {ds : List D}, RL l ds → ∀ (now delay : Int), l.findIdx? (lateB now delay) = ds.findIdx? (lateD now delay)
  | [], [], _, _, _ => rfl
  | m :: l, d :: ds, h, now, delay => by rw [List.findIdx?_cons, List.findIdx?_cons, h.1.late, RL.find h.2]
  | [], _ :: _, h, _, _ => h.elim
  | _ :: _, [], h, _, _ => h.elim
theorem RL.count : ∀ {l : List M} {ds : List D}, RL l ds → ∀ (now delay : Int), l.countP (lateB now delay) = ds.countP (lateD now delay)
  | [], [], _, _, _ => rfl
  | m :: l, d :: ds, h, now, delay => by rw [List.countP_cons, List.countP_cons, h.1.late, RL.count h.2]
  | [], _ :: _, h, _, _ => h.elim
  | _ :: _, [], h, _, _ => h.elim
theorem RM.same {m n : M} {d e : D} (h : RM m d) (g : RM n e) : sameB m n d.b e.b = decide (d = e) := by
  rw [Bool.eq_iff_iff]
  simp only [sameB, Bool.and_eq_true, decide_eq_true_eq, h.e1, h.e2, h.e3, h.e4, h.e5, g.e1, g.e2, g.e3, g.e4, g.e5]
  constructor
  · rintro ⟨h1, h2, h3, h4, h5, h6⟩
    cases d; cases e; simp_all
  · intro h; subst h; simp

/-! ### The document's functions -/
/-- The document's flight, by value. -/
def rF (v : AV) (room lost : Int) : AV := .agg [v, .s (.int .i64 room), .s (.int .i64 lost)]
/-- The list that the document makes anew. -/
def rL (l : List M) : AV := apV (l.map M.c)
theorem rL_sl {l : List M} (h : FOk l) : IsSl 6 (l.map M.c) (rL l) := apV.sl (rows_wide l) h.rows_one

theorem reflate_c {m : M} (h1 : m.bytes.one = true) {now delay : Int} (H : AH) :
    call P A n_waywardenref19_late [.agg m.c, .s (.int .i64 now), .s (.int .i64 delay)] .none H = some (.returned (.s (.bool (lateB now delay m))), .none, H) := by
  rw [waywardenref19_late_eq]; unfold waywardenref19_late_E
  simp only [M.c, lateB, cells_agg]
  rw [newA_0 H (by simp [h1])]
  simp
  split
  · rename_i hs; rw [shut_lt (by simp)]; simp [hs]
  · rename_i hs; rw [shut_lt (by simp)]; simp [hs]

theorem without_c {v : AV} {l : List M} (hv : IsSl 6 (l.map M.c) v) (hl : FOk l) (hlen : l.length ≤ 1000) {i : Nat} (hi : i < l.length) (room lost : Int) (H : AH) :
    call P A n_waywardenref19_Flight_without [rF v room lost, .s (.int .i64 (i : Nat))] .none H = some (.returned (rF (rL (l.eraseIdx i)) room lost), .none, H) := by
  have h1 := hv.one1
  have hw : IntKind.i64.wrap ((i : Int) + 1) = (i : Int) + 1 := wrap64 (by omega)
  obtain ⟨va, ha1, ha2⟩ := hv.upto2 (i := i) (k := .i64) (by simp; omega)
  obtain ⟨vb, hb1, hb2⟩ := hv.from (i := i + 1) (k := .i64) (by simp; omega)
  let K : AH := H ++ [.arr [v, .s (.int .i64 room), .s (.int .i64 lost)], .arr [.s (.slice none 0 0), .s (.int .i64 0), .s (.int .i64 0)]]
  have hf : ∀ n m, n ≤ l.length → m ≤ l.length → fits (n + m) 64 = true := fun n m h g => by simp only [fits, Bool.and_eq_true, Nat.ble_eq, V.room]; omega
  obtain ⟨v1, G1, q1, p1, _, _⟩ := (ApL.nil K.length [] 6).app (K := K) (bytes := 64) (ha2.read _) ha2.wide ha2.one (by omega) (by rw [List.length_nil, List.length_take, List.length_map]; exact hf _ _ (by omega) (by omega))
  rw [List.nil_append] at p1
  obtain ⟨v2, G2, q2, p2, _, _⟩ := p1.app (bytes := 64) (hb2.read _) hb2.wide hb2.one (by omega) (by rw [List.length_take, List.length_drop, List.length_map]; exact hf _ _ (by omega) (by omega))
  have hrows : (l.map M.c).take i ++ (l.map M.c).drop (i + 1) = (l.eraseIdx i).map M.c := by rw [List.eraseIdx_eq_take_drop_succ]; simp
  rw [hrows] at p2
  have h2 := p2.one1
  have hb1 : slcA 6 v (some (.s (.int .i64 ((i : Int) + 1)))) none none = some vb := hb1
  have hb0 : bldV 0 [] [] = some (.sl 0 [] true) := rfl
  rw [waywardenref19_Flight_without_eq]; unfold waywardenref19_Flight_without_E
  simp only [K, List.append_nil, List.append_assoc, List.cons_append, List.nil_append] at q1 q2
  simp only [rF, cells_agg, hb0]
  rw [newA_0 H (by simp [h1])]
  simp [ha1, hb1, hw, q1, q2, ldAll, h2]
  have hle : FOk (l.eraseIdx i) := fun x hx => hl x (List.mem_of_mem_eraseIdx hx)
  have hK : K.length = (H ++ [AO.arr [v2, .s (.int .i64 room), .s (.int .i64 lost)], .arr [v2, .s (.int .i64 room), .s (.int .i64 lost)]]).length := by simp [K]
  rw [hK] at p2
  have hz := p2.frz (n := H.length) (by simp) (hle.rows_lt _) 38
  simp only [List.append_assoc, List.cons_append, List.nil_append] at hz
  exact shut_app (frz_agg (mapM_c1 hz (mapM_cs (mapM_cs mapM_c0))))

end Go.Proofs.Ytkcamjcicegclaa.V
