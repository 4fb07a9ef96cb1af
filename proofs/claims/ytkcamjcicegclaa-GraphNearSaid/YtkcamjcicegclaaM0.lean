/- V, M0: the evaluator V. Conditions: none. -/
import Derived.AtR
import Derived.Defers
import Derived.KernelRfl
set_option linter.unusedVariables false
set_option linter.unusedSimpArgs false
set_option linter.unnecessarySimpa false
/- V, part A: abstract values, abstract heaps, and what each operation of the model does to them. Conditions: none (definitions alone). -/
namespace Go.Proofs.Ytkcamjcicegclaa.V
open Go

/-- Abstract values: no block numbers, no capacities that were drawn. -/
inductive AV where
  | s (v : Value)
  | ptr (id off : Nat)
  | pv (cells : List AV) (off : Nat)
  | sl (len : Nat) (cells : List AV) (full : Bool)
  | slr (id off len sz : Nat) (cap : Option Nat)
  | fn (f : Fn) (first captured : List AV)
  | iface (t : TypeId) (v : AV)
  | agg (cs : List AV)
  | tup (vs : List AV)
  | mp (id : Nat)
  | bot
  deriving Inhabited

inductive AD where
  | fn (f : Fn) (captured args : List AV)
  deriving Inhabited

inductive AO where
  | arr (cells : List AV)
  | map (es : List (AV × AV))
  | loop (st : LoopState) (pend : Option Code) (fn : FuncId) (tmps : List AV) (ps : List Tmp) (asg body : Code)
  | dead
  deriving Inhabited

abbrev AH := List AO

/-- Values without an address. -/
def plain : Value → Bool
  | .bool _ | .int _ _ | .string _ | .pointer none | .map none | .nilFunc | .nilIface => true
  | .slice none 0 0 => true
  | _ => false

def AV.cells : AV → List AV
  | .agg cs => cs
  | v => [v]

/-- The value of one cell. -/
def AV.one : AV → Bool
  | .agg _ | .tup _ | .bot => false
  | _ => true

def fnLt (n : Nat) : Fn → Bool
  | .yield id => decide (id < n)
  | _ => true
mutual
/-- All addresses lie below n. -/
def AV.lt (n : Nat) : AV → Bool
  | .s _ => true
  | .ptr id _ => decide (id < n)
  | .pv cells _ => AV.ltL n cells
  | .sl _ cells _ => AV.ltL n cells
  | .slr id _ _ _ _ => decide (id < n)
  | .fn f a b => fnLt n f && AV.ltL n a && AV.ltL n b
  | .iface _ v => v.lt n
  | .agg cs => AV.ltL n cs
  | .tup vs => AV.ltL n vs
  | .mp id => decide (id < n)
  | .bot => true
def AV.ltL (n : Nat) : List AV → Bool
  | [] => true
  | v :: vs => v.lt n && AV.ltL n vs
end

/-! Lists by plain recursors: the kernel reckons with these. -/
noncomputable def nth {α : Type} (d : α) (l : List α) (n : Nat) : α := List.rec (motive := fun _ => Nat → α) (fun _ => d) (fun a _ ih n => Nat.rec a (fun m _ => ih m) n) l n
noncomputable def nthO {α : Type} (l : List α) (n : Nat) : Option α := List.rec (motive := fun _ => Nat → Option α) (fun _ => none) (fun a _ ih n => Nat.rec (some a) (fun m _ => ih m) n) l n
noncomputable def setN {α : Type} (l : List α) (n : Nat) (v : α) : List α := List.rec (motive := fun _ => Nat → List α) (fun _ => []) (fun a l ih n => Nat.rec (v :: l) (fun m _ => a :: ih m) n) l n
noncomputable def memN (l : List Nat) (n : Nat) : Bool := List.rec (motive := fun _ => Bool) false (fun a _ ih => match Nat.beq a n with | true => true | false => ih) l
theorem nth_eq {α : Type} (d : α) (l : List α) : ∀ n, nth d l n = l.getD n d := by
  induction l with
  | nil => intro n; rfl
  | cons a l ih => intro n; cases n with
    | zero => rfl
    | succ n => exact (ih n).trans (by simp)
theorem nthO_eq {α : Type} (l : List α) : ∀ n, nthO l n = l[n]? := by
  induction l with
  | nil => intro n; rfl
  | cons a l ih => intro n; cases n with
    | zero => rfl
    | succ n => exact (ih n).trans (by simp)
theorem setN_eq {α : Type} (l : List α) (v : α) : ∀ n, setN l n v = l.set n v := by
  induction l with
  | nil => intro n; rfl
  | cons a l ih => intro n; cases n with
    | zero => rfl
    | succ n => exact congrArg (a :: ·) (ih n)
theorem memN_eq (l : List Nat) (n : Nat) : memN l n = l.contains n := by
  induction l with
  | nil => rfl
  | cons a l ih =>
    show (match Nat.beq a n with | true => true | false => memN l n) = _
    rw [ih, List.contains_cons]
    cases h : Nat.beq a n with
    | true => have := Nat.eq_of_beq_eq_true h; subst this; simp
    | false => have := Nat.ne_of_beq_eq_false h; simp; intro h; exact absurd h.symm this

def absC : Value → AV
  | .agg cs => if cs.all plain then .agg (cs.toList.map .s) else .bot
  | .tuple vs => if vs.size = 0 then .tup [] else .bot
  | v => if plain v then .s v else .bot

noncomputable def aev (t : List AV) : Operand → AV
  | .tmp i => nth (.tup []) t i
  | .const v => absC v
  | .func f => .fn (.func f) [] []
  | .global _ => .bot

def AO.lt (n : Nat) : AO → Bool
  | .arr cells => AV.ltL n cells
  | .map es => AV.ltL n (es.map (·.1)) && AV.ltL n (es.map (·.2))
  | .loop _ _ _ t _ _ _ => AV.ltL n t
  | .dead => true
/-- What was there at the begin is as it was, or closed below n = the heap's length then. -/
def Closed (H0 H : AH) : Prop := ∀ id, id < H0.length → H[id]? = H0[id]? ∨ ∃ o, H[id]? = some o ∧ o.lt H0.length = true

/-- Made closed below n: own slices become by-value slices. -/
def frz (n : Nat) (H : AH) : Nat → AV → Option AV
  | 0, v => if v.lt n then some v else none
  | k + 1, v =>
    if v.lt n then some v else
    match v with
    | .slr id off len sz _ =>
      match H[id]? with
      | some (.arr cells) =>
        if off + len * sz ≤ cells.length then (((cells.drop off).take (len * sz)).mapM (frz n H k)).map fun cs => .sl len cs false else none
      | _ => none
    | .fn (.func f) a b => (a.mapM (frz n H k)).bind fun a' => (b.mapM (frz n H k)).map fun b' => .fn (.func f) a' b'
    | .iface t v => (frz n H k v).map (.iface t)
    | .agg cs => (cs.mapM (frz n H k)).map .agg
    | .tup vs => (vs.mapM (frz n H k)).map .tup
    | .sl len cs f => (cs.mapM (frz n H k)).map fun cs' => .sl len cs' f
    | .pv cs off => (cs.mapM (frz n H k)).map fun cs' => .pv cs' off
    | _ => none
/-- An older object, made closed below n. -/
def frzO (n : Nat) (H : AH) : AO → Option AO
  | .arr cells => (cells.mapM (frz n H 40)).map .arr
  | o => if o.lt n then some o else none
/-- The heap as it is left: what was there at the begin; what changed is made closed. -/
noncomputable def frzH (H0 H : AH) : Option AH :=
  (List.range H0.length).mapM fun id => @ite _ (H[id]? = H0[id]?) (Classical.propDecidable _) H[id]? (H[id]?.bind (frzO H0.length H))

/-! ### Memory -/
def ldCells (H : AH) (n : Nat) : AV → Option (List AV)
  | .ptr id off =>
    match H[id]? with
    | some (.arr cells) => if off + n ≤ cells.length then some ((cells.drop off).take n) else none
    | _ => none
  | .pv cells off => if off + n ≤ cells.length then some ((cells.drop off).take n) else none
  | _ => none
def ld1 (H : AH) : AV → Option AV
  | .ptr id off => match H[id]? with | some (.arr cells) => cells[off]? | _ => none
  | .pv cells off => cells[off]?
  | _ => none
def ldA (H : AH) (n : Nat) (a : AV) : Option AV := (ldCells H n a).map .agg

def splice (cells : List AV) (off : Nat) (new : List AV) : List AV := cells.take off ++ new ++ cells.drop (off + new.length)

def stCells (H : AH) (a : AV) (new : List AV) : Option AH :=
  match a with
  | .ptr id off =>
    match H[id]? with
    | some (.arr cells) =>
      if off + new.length ≤ cells.length ∧ new.all AV.one = true then some (H.set id (.arr (splice cells off new))) else none
    | _ => none
  | _ => none
/-- A variable of n cells is stored. -/
def stA (n : Nat) (H : AH) (a v : AV) : Option AH := if v.cells.length = n then stCells H a v.cells else none

def newA (H : AH) (cells : List AV) : Option (AV × AH) := if cells.all AV.one then some (.ptr H.length 0, H ++ [.arr cells]) else none

/-! ### Slices -/
def lenA : AV → Option Int
  | .sl n _ _ => some n
  | .slr _ _ n _ _ => some n
  | .s (.slice none 0 0) => some 0
  | .s (.string b) => some b.size
  | _ => none

def idxAddr (sz : Nat) (x : AV) (i : AV) : Option AV :=
  match i with
  | .s (.int _ i) =>
    match x with
    | .sl n cells _ => if 0 ≤ i ∧ i < n then some (.pv cells (i.toNat * sz)) else none
    | .slr id off n _ _ => if 0 ≤ i ∧ i < n then some (.ptr id (off + i.toNat * sz)) else none
    | _ => none
  | _ => none
def idxArr (sz n : Nat) (x : AV) (i : AV) : Option AV :=
  match i with
  | .s (.int _ i) =>
    if 0 ≤ i ∧ i < n then
      match x with
      | .ptr id off => some (.ptr id (off + i.toNat * sz))
      | .pv cells off => some (.pv cells (off + i.toNat * sz))
      | _ => none
    else none
  | _ => none

def intA : AV → Option Int
  | .s (.int _ n) => some n
  | _ => none

def hiOf (n : Int) : Option AV → Option Int
  | none => some n
  | some v => intA v
/-- x[lo:hi:mx] of a slice; bounds that Go would check against the capacity are checked against what is known of it. -/
def slcA (sz : Nat) (x : AV) (lo hi mx : Option AV) : Option AV :=
  (hiOf 0 lo).bind fun l =>
  match mx with
  | none =>
    match x with
    | .s (.slice none 0 0) => (hiOf 0 hi).bind fun h => if l = 0 ∧ h = 0 then some x else none
    | .sl n cells full => (hiOf n hi).bind fun h => if 0 ≤ l ∧ l ≤ h ∧ h ≤ n then some (.sl (h - l).toNat ((cells.drop (l.toNat * sz)).take ((h - l).toNat * sz)) (full && decide (h = n))) else none
    | .slr id off n sz' (some c) => (hiOf n hi).bind fun h => if sz' = sz ∧ 0 ≤ l ∧ l ≤ h ∧ h ≤ c then some (.slr id (off + l.toNat * sz) (h - l).toNat sz (some (c - l.toNat))) else none
    | .slr id off n sz' none => (hiOf n hi).bind fun h => if sz' = sz ∧ 0 ≤ l ∧ l ≤ h ∧ h ≤ n then some (.slr id (off + l.toNat * sz) (h - l).toNat sz none) else none
    | _ => none
  | some mv => (intA mv).bind fun m => (hi.bind intA).bind fun h =>
    match x with
    | .s (.slice none 0 0) => if l = 0 ∧ h = 0 ∧ m = 0 then some x else none
    | .sl n cells full => if 0 ≤ l ∧ l ≤ h ∧ h ≤ m ∧ m ≤ n then some (.sl (h - l).toNat ((cells.drop (l.toNat * sz)).take ((h - l).toNat * sz)) (decide (h = m))) else none
    | .slr id off n sz' (some c) => if sz' = sz ∧ 0 ≤ l ∧ l ≤ h ∧ h ≤ m ∧ m ≤ c then some (.slr id (off + l.toNat * sz) (h - l).toNat sz (some (m - l).toNat)) else none
    | .slr id off n sz' none => if sz' = sz ∧ 0 ≤ l ∧ l ≤ h ∧ h ≤ m ∧ m ≤ n then some (.slr id (off + l.toNat * sz) (h - l).toNat sz (some (m - l).toNat)) else none
    | _ => none
/-- a[lo:hi:mx] of an array of n elements behind a pointer. -/
def slcArr (sz n : Nat) (x : AV) (lo hi mx : Option AV) : Option AV :=
  match x with
  | .ptr id off => (hiOf 0 lo).bind fun l =>
    match mx with
    | none => (hiOf n hi).bind fun h => if 0 ≤ l ∧ l ≤ h ∧ h ≤ n then some (.slr id (off + l.toNat * sz) (h - l).toNat sz (some (n - l.toNat))) else none
    | some mv => (intA mv).bind fun m => (hi.bind intA).bind fun h => if 0 ≤ l ∧ l ≤ h ∧ h ≤ m ∧ m ≤ n then some (.slr id (off + l.toNat * sz) (h - l).toNat sz (some (m - l).toNat)) else none
  | _ => none
def slcStr (x : AV) (lo hi : Option AV) : Option AV :=
  match x with
  | .s (.string b) => (hiOf 0 lo).bind fun l => (hiOf b.size hi).bind fun h => if 0 ≤ l ∧ l ≤ h ∧ h ≤ b.size then some (.s (.string (b.extract l.toNat h.toNat))) else none
  | _ => none

def byteCells (b : ByteArray) : List AV := b.data.toList.map fun x => .s (.int .u8 x.toNat)

/-- The cells of the slice (or string) that is appended, and how many elements. -/
def readSl (H : AH) (sz : Nat) : AV → Option (Nat × List AV)
  | .s (.slice none 0 0) => some (0, [])
  | .s (.string b) => if sz = 1 then some (b.size, byteCells b) else none
  | .sl n cells _ => if cells.length = n * sz then some (n, cells) else none
  | .slr id off n sz' _ =>
    if sz' = sz then
      match H[id]? with
      | some (.arr cells) => if off + n * sz ≤ cells.length then some (n, (cells.drop off).take (n * sz)) else none
      | _ => none
    else none
  | _ => none

def room : Nat := 70368744177664   -- 2^46
/-- So many elements of so many bytes can be held. -/
def fits (n bytes : Nat) : Bool := Nat.ble (n * bytes) room && Nat.ble n 9223372036854775807

def isSlA : AV → Bool
  | .s (.slice none 0 0) | .sl _ _ _ | .slr _ _ _ _ _ => true
  | _ => false
/-- n elements, their cells new, appended to x: the new slice; own memory that cannot be told apart any more is dead. -/
def appCore (H : AH) (sz bytes : Nat) (x : AV) (n : Nat) (new : List AV) : Option (AV × AH) :=
  if n = 0 ∧ isSlA x = true then some (x, H) else
  if new.all AV.one = true then
  match x with
  | .s (.slice none 0 0) => if fits n bytes = true then some (.slr H.length 0 n sz none, H ++ [.arr new]) else none
  | .sl m cells true => if cells.length = m * sz ∧ cells.all AV.one = true ∧ fits (m + n) bytes = true then some (.slr H.length 0 (m + n) sz none, H ++ [.arr (cells ++ new)]) else none
  | .slr id off m sz' cap =>
    if sz' = sz ∧ 0 < sz ∧ fits (m + n) bytes = true then
      match H[id]? with
      | some (.arr cells) =>
        if off + m * sz ≤ cells.length then
          match cap with
          | some c =>
            if m + n ≤ c then (if off + (m + n) * sz ≤ cells.length then some (.slr id off (m + n) sz (some c), H.set id (.arr (splice cells (off + m * sz) new))) else none)
            else some (.slr H.length 0 (m + n) sz none, H ++ [.arr ((cells.drop off).take (m * sz) ++ new)])
          | none =>
            if off + (m + n) * sz ≤ cells.length then some (.slr id off (m + n) sz none, H.set id (.arr (splice cells (off + m * sz) new)))
            else if off + m * sz = cells.length then some (.slr H.length 0 (m + n) sz none, H.set id .dead ++ [.arr (cells.drop off ++ new)])
            else none
        else none
      | _ => none
    else none
  | _ => none
  else none

/-- append(x, y..) -/
def appA (H : AH) (sz bytes : Nat) (x y : AV) : Option (AV × AH) := (readSl H sz y).bind fun p => appCore H sz bytes x p.1 p.2
def repl (n : Nat) (z : List AV) : List AV := match n with | 0 => [] | n + 1 => z ++ repl n z
/-- append(x, make([]T, n)..) -/
def appZ (H : AH) (sz bytes : Nat) (z : List AV) (x n : AV) : Option (AV × AH) :=
  match n with
  | .s (.int _ n) => if 0 ≤ n ∧ fits n.toNat bytes = true ∧ z.length = sz ∧ z.all AV.one = true then appCore H sz bytes x n.toNat (repl n.toNat z) else none
  | _ => none
/-- copy(x, y). -/
def copyA (H : AH) (sz : Nat) (x y : AV) : Option (AV × AH) :=
  (readSl H sz y).bind fun (n, src) =>
  match x with
  | .slr id off m sz' _ =>
    if sz' = sz then
      let k := Nat.min n m
      (stCells H (.ptr id off) (src.take (k * sz))).map fun H' => (.s (.int .i64 k), H')
    else none
  | .s (.slice none 0 0) => some (.s (.int .i64 0), H)
  | _ => none

/-! ### Operators on plain values -/
def binInt (op : BinOp) (k : IntKind) (a b : Int) : Option Value :=
  match op with
  | .add => some (.int k (k.wrap (a + b)))
  | .sub => some (.int k (k.wrap (a - b)))
  | .mul => some (.int k (k.wrap (a * b)))
  | .quo => if b = 0 then none else some (.int k (k.wrap (a.tdiv b)))
  | .rem => if b = 0 then none else some (.int k (a.tmod b))
  | .and => some (.int k (k.wrap (BitVec.ofInt k.bits a &&& BitVec.ofInt k.bits b).toNat))
  | .or => some (.int k (k.wrap (BitVec.ofInt k.bits a ||| BitVec.ofInt k.bits b).toNat))
  | .xor => some (.int k (k.wrap (BitVec.ofInt k.bits a ^^^ BitVec.ofInt k.bits b).toNat))
  | .andNot => some (.int k (k.wrap (BitVec.ofInt k.bits a &&& ~~~(BitVec.ofInt k.bits b)).toNat))
  | .eql => some (.bool (a == b))
  | .neq => some (.bool (a != b))
  | .lss => some (.bool (a < b))
  | .leq => some (.bool (a ≤ b))
  | .gtr => some (.bool (a > b))
  | .geq => some (.bool (a ≥ b))
  | _ => none
def binStr (op : BinOp) (x y : ByteArray) : Option Value :=
  match op with
  | .add => if x.size + y.size ≤ 9223372036854775807 then some (.string (x ++ y)) else none
  | .eql => some (.bool (x.toList == y.toList))
  | .neq => some (.bool (!(x.toList == y.toList)))
  | .lss => some (.bool (Op.bytesLess x.toList y.toList))
  | .leq => some (.bool (Op.bytesLess x.toList y.toList || x.toList == y.toList))
  | .gtr => some (.bool (!(Op.bytesLess x.toList y.toList || x.toList == y.toList)))
  | .geq => some (.bool (!Op.bytesLess x.toList y.toList))
  | _ => none
def shV (op : BinOp) (k : IntKind) (x y : Int) : Option Value :=
  if y < 0 then none else
  match op with
  | .shl => some (.int k (k.wrap (x * 2 ^ (min y.toNat k.bits))))
  | .shr => some (.int k (x.fdiv (2 ^ (min y.toNat k.bits))))
  | _ => none
/-- How values of a type are held against each other. -/
inductive EqK where
  | no
  | bool
  | cells (gs : List Nat)
  | ptr (nz : Bool)
  | slice
  | map
  | func
  | iface (cst : Bool)
/-- Is it nil? -/
def nilA : EqK → AV → Option Bool
  | .ptr _, .s (.pointer none) => some true
  | .ptr _, .ptr _ _ => some false
  | .ptr _, .pv _ _ => some false
  | .slice, .s (.slice none 0 0) => some true
  | .slice, .slr _ _ _ _ _ => some false
  | .slice, .sl _ _ _ => some false
  | .map, .s (.map none) => some true
  | .map, .mp _ => some false
  | .func, .s .nilFunc => some true
  | .func, .fn _ _ _ => some false
  | .iface _, .s .nilIface => some true
  | .iface _, .iface _ _ => some false
  | _, _ => none
/-- Two values of one plain comparable kind: 0 a whole number, 1 a bool, 2 a string. -/
def eqVal : Nat → Value → Value → Option Bool
  | 0, .int k a, .int k' b => if k = k' then some (a == b) else none
  | 1, .bool a, .bool b => some (a == b)
  | 2, .string a, .string b => some (a == b)
  | _, _, _ => none
def eqCell (g : Nat) : AV → AV → Option Bool
  | .s a, .s b => eqVal g a b
  | _, _ => none
def eqCells : List Nat → List AV → List AV → Option Bool
  | [], [], [] => some true
  | g :: gs, a :: as, b :: bs => (eqCell g a b).bind fun e => (eqCells gs as bs).map fun r => e && r
  | _, _, _ => none

end Go.Proofs.Ytkcamjcicegclaa.V

/- V, part B: the evaluator, a functional on jobs, and its least fixed point. Conditions: none (definitions, and that the fixed point is one). -/
namespace Go.Proofs.Ytkcamjcicegclaa.V
open Go

/-- Marks that steer V and mean nothing to the machine: which functions keep their objects, which temporaries a loop's head keeps, in which order a drawn region is run. -/
structure Ann where
  keep : FuncId → Bool
  live : FuncId → Nat → Option (List Nat)
  plan : FuncId → Nat → Option (List Nat × List Nat)
  eqs : List (TypeId × List Nat)

structure APanic where
  v : AV
  recovered : Bool
  deriving Inhabited
/-- How a deferrer stands. -/
inductive UM where
  | none
  | returning
  | panicking (ch : List APanic)
  deriving Inhabited
inductive Ex where
  | normal
  | exit (id : Nat)
  | goto (l : Nat)
  | ret
  | panic (ch : List APanic)
  deriving Inhabited
inductive AEnd where
  | returned (v : AV)
  | panicked (ch : List APanic)
  deriving Inhabited
structure St where
  t : List AV
  ds : List AD
  u : UM
  H : AH
  deriving Inhabited
/-- Where code stands: the function, the round (if it is a loop's over a function), the base. -/
structure Cx where
  fid : FuncId
  rnd : Option Nat

inductive Job where
  | call (f : FuncId) (args : List AV) (u : UM) (H : AH)
  | exec (cx : Cx) (c : Code) (st : St)
  | scope (cx : Cx) (b r : Code) (st : St)
  | round (l : Nat) (args : List AV) (H : AH)
  | leave (fid : FuncId) (t : List AV) (ds : List AD) (m : UM) (H : AH)
inductive Out where
  | e (e : AEnd) (u : UM) (H : AH)
  | x (e : Ex) (st : St)

abbrev Or := Job → Option Out
def Out.toE : Out → Option (AEnd × UM × AH) | Out.e a u H => some (a, u, H) | _ => none
def Out.toE2 : Out → Option (AEnd × AH) | .e a _ H => some (a, H) | _ => none
def Out.toX : Out → Option (Ex × St) | .x a st => some (a, st) | _ => none
/-- How a body's end sets the mode. -/
def modeOf : Ex → Option UM
  | .normal | .ret => some .returning
  | .panic ch => some (.panicking ch)
  | _ => none

def Or.callE (S : Or) (f : FuncId) (args : List AV) (u : UM) (H : AH) : Option (AEnd × UM × AH) :=
  (S (.call f args u H)).bind Out.toE
def Or.roundE (S : Or) (l : Nat) (args : List AV) (H : AH) : Option (AEnd × AH) :=
  (S (.round l args H)).bind Out.toE2
def Or.leaveE (S : Or) (fid : FuncId) (t : List AV) (ds : List AD) (m : UM) (H : AH) : Option (AEnd × AH) :=
  (S (.leave fid t ds m H)).bind Out.toE2
def Or.execX (S : Or) (cx : Cx) (c : Code) (st : St) : Option (Ex × St) :=
  (S (.exec cx c st)).bind Out.toX
def Or.scopeX (S : Or) (cx : Cx) (b r : Code) (st : St) : Option (Ex × St) :=
  (S (.scope cx b r st)).bind Out.toX

variable (P : Program) (A : Ann)

/-! ### Types -/
def isAggP (t : TypeId) : Bool := match P.underlying t with | some (.struct _) | some (.array ..) => true | _ => false
def szP (t : TypeId) : Nat := ((P.info? t).map (·.size)).getD 0
def bytesP (t : TypeId) : Nat := ((P.info? t).map (·.bytes)).getD 0
def elemP (t : TypeId) : Option TypeId := match P.underlying t with | some (.slice e) => some e | _ => none
def arrP (t : TypeId) : Option (Nat × TypeId) := match P.underlying t with | some (.array n e) => some (n, e) | _ => none
def zeroP (t : TypeId) : Option Value := (P.info? t).bind (·.zero)
def fieldsP (t : TypeId) : Option (Array Field) := match P.underlying t with | some (.struct fs) => some fs | _ => none
def isStrP (t : TypeId) : Bool := match P.underlying t with | some .string => true | _ => false
def isIntP (t : TypeId) : Bool := match P.underlying t with | some (.int _) => true | _ => false
def kindP (t : TypeId) : Option IntKind := match P.underlying t with | some (.int k) => some k | _ => none
/-- The cells of a type, in order, each with its kind, if its equality is that of its cells: whole numbers, bools, strings, structs of them. -/
def leavesP : Nat → TypeId → Nat → Option (List (Nat × Nat))
  | 0, _, _ => none
  | k + 1, t, off =>
    match P.underlying t with
    | some (.int _) => some [(off, 0)]
    | some .bool => some [(off, 1)]
    | some .string => some [(off, 2)]
    | some (.struct fs) => if P.stoodInHeld t = false then leavesF (leavesP k) t off fs.toList else none
    | _ => none
where leavesF (rec : TypeId → Nat → Option (List (Nat × Nat))) (t : TypeId) (off : Nat) : List Field → Option (List (Nat × Nat))
  | [] => some []
  | f :: fs => if f.name ≠ "_" ∧ f.offset + szP P f.type ≤ szP P t ∧ (isAggP P f.type = true ∨ f.offset < szP P t) then
      match rec f.type (off + f.offset), leavesF rec t off fs with
      | some a, some b => some (a ++ b)
      | _, _ => none
    else none
def eqTy (t : TypeId) (gs : List Nat) : Bool := decide (leavesP P 8 t 0 = some ((List.range (szP P t)).zip gs)) && decide (gs.length = szP P t) && !P.eqGuardType P.depth t && isAggP P t
def isCst : Operand → Bool
  | .const _ => true
  | _ => false
def eqkP (t : TypeId) (cst : Bool) : EqK :=
  match P.underlying t with
  | some (.pointer e) => .ptr ((P.info? e).isSome && !Nat.beq (szP P e) 0)
  | some .bool => .bool
  | some (.slice _) => .slice
  | some (.map ..) => .map
  | some (.func ..) => .func
  | some (.interface _) => .iface cst
  | some (.struct _) => match (A.eqs.find? fun x => Nat.beq x.1 t).map (·.2) with
    | some gs => .cells gs
    | none => .no
  | _ => .no
/-- Is the zero value of the size that the type has? -/
def zokP (t : TypeId) : Bool := match zeroP P t with | some z => Nat.beq z.cells.size (szP P t) | none => false
/-- Parts put into a value of zeros: (offset, size, value). -/
def fillA (cells : List AV) : List (Nat × Nat × AV) → Option (List AV)
  | [] => some cells
  | (off, size, v) :: rest => if v.cells.length = size ∧ off + size ≤ cells.length ∧ v.cells.all AV.one = true then fillA (splice cells off v.cells) rest else none

def zeroCellsP (t : TypeId) : Option (List AV) := (zeroP P t).map fun z => (absC z).cells

def bldA (z : List AV) (ps : List (Nat × Nat × AV)) : Option AV := if z.all AV.one = true then (fillA z ps).map .agg else none
def placesP (fs : Array Field) : List (Nat × AV) → Option (List (Nat × Nat × AV))
  | [] => some []
  | (i, v) :: rest => match fs[i]? with
    | some f => match placesP fs rest with
      | some ps => some ((f.offset, szP P f.type, v) :: ps)
      | none => none
    | none => none
def buildA (t : TypeId) (parts : List (Nat × AV)) : Option AV :=
  match P.underlying t with
  | some (.struct fs) =>
    match zeroCellsP P t, placesP P fs parts with
    | some z, some ps => bldA z ps
    | _, _ => none
  | some (.array _ e) =>
    match zeroCellsP P t with
    | some z => bldA z (parts.map fun (i, v) => (i * szP P e, szP P e, v))
    | none => none
  | _ => none
def bldS (H : AH) (sz len : Nat) (z : List AV) (ps : List (Nat × Nat × AV)) : Option (AV × AH) :=
  if z.all AV.one = true then (fillA z ps).map fun cells => (.slr H.length 0 len sz (some len), H ++ [.arr cells]) else none
def buildSliceA (H : AH) (t : TypeId) (len : Nat) (parts : List (Nat × AV)) : Option (AV × AH) :=
  match elemP P t with
  | some e => match zeroCellsP P e with
    | some z => if len * szP P e ≤ 16777216 ∧ z.length = szP P e then bldS H (szP P e) len (repl len z) (parts.map fun (i, v) => (i * szP P e, szP P e, v)) else none
    | none => none
  | none => none
/-- The same where the order is drawn: a slice by value. -/
def bldV (len : Nat) (z : List AV) (ps : List (Nat × Nat × AV)) : Option AV :=
  if z.all AV.one = true then (fillA z ps).map fun cells => .sl len cells true else none
def buildSliceV (t : TypeId) (len : Nat) (parts : List (Nat × AV)) : Option AV :=
  match elemP P t with
  | some e => match zeroCellsP P e with
    | some z => if len * szP P e ≤ 16777216 ∧ z.length = szP P e then bldV len (repl len z) (parts.map fun (i, v) => (i * szP P e, szP P e, v)) else none
    | none => none
  | none => none
def mkS (H : AH) (sz bytes : Nat) (z : List AV) (l c : AV) : Option (AV × AH) :=
  (intA l).bind fun l => (intA c).bind fun c =>
  if 0 ≤ l ∧ l ≤ c ∧ fits c.toNat bytes = true ∧ z.length = sz ∧ z.all AV.one = true then
    some (.slr H.length 0 l.toNat sz (some c.toNat), H ++ [.arr (repl c.toNat z)])
  else none
def makeSliceA (H : AH) (t : TypeId) (l c : AV) : Option (AV × AH) :=
  match elemP P t with
  | some e => match zeroCellsP P e with
    | some z => mkS H (szP P e) (bytesP P e) z l c
    | none => none
  | none => none

/-- What an operation without a call leaves. -/
inductive R1 where
  | val (v : AV) (H : AH)
  | enter (f : FuncId) (args : List AV)
  | yield (l : Nat) (args : List AV)
  | defer (d : AD)
  | recover
  | panic (v : AV)

def asB {β : Type} (v : AV) (k : Bool → Option β) : Option β := match v with | .s (.bool b) => k b | _ => none
def asP {β : Type} (v : AV) (k : AV → Option β) : Option β :=
  match v with
  | .ptr id off => k (.ptr id off) | .pv c off => k (.pv c off) | .fn (.func f) a b => k (.fn (.func f) a b) | .fn (.yield f) a b => k (.fn (.yield f) a b) | .iface t v => k (.iface t v)
  | _ => none
def asI {β : Type} (v : AV) (k : AV → Option β) : Option β := match v with | .iface t v => k (.iface t v) | _ => none
def addA (v : AV) (n : Nat) : Option AV := match v with | .ptr id off => some (.ptr id (off + n)) | .pv c off => some (.pv c (off + n)) | _ => none
def applyA {β : Type} (f : AV) (args : List AV) (kc : FuncId → List AV → Option β) (ky : Nat → List AV → Option β) : Option β :=
  match f with
  | .fn (.func g) first captured => kc g (first ++ args ++ captured)
  | .fn (.yield l) first captured => ky l (first ++ args)
  | _ => none
def deferA {β : Type} (f : AV) (args : List AV) (kd : AD → Option β) : Option β := match f with | .fn (.func g) first cap => kd (.fn (.func g) cap (first ++ args)) | _ => none

def bytesOfCells (cells : List AV) : Option ByteArray := (cells.mapM fun (c : AV) => (match c with | AV.s (.int .u8 n) => some n | _ => none : Option Int)).map fun (l : List Int) => ⟨(l.map fun (n : Int) => n.toNat.toUInt8).toArray⟩
def strOfSl (H : AH) (x : AV) : Option AV := (readSl H 1 x).bind fun p => (bytesOfCells p.2).map fun b => .s (.string b)
def toInt (k : IntKind) (x : AV) : Option AV := match x with | .s (.int _ n) => some (.s (.int k (k.wrap n))) | _ => none
def asStr (x : AV) : Option AV := match x with | .s (.string b) => some (.s (.string b)) | _ => none
def toBytes (H : AH) (x : AV) : Option (AV × AH) := match x with | .s (.string b) => some (.slr H.length 0 b.size 1 none, H ++ [.arr (byteCells b)]) | _ => none
def eqA (c : EqK) (x y : AV) : Option Bool :=
  match c with
  | .no => none
  | .bool => none
  | .cells gs => match x, y with | .agg a, .agg b => eqCells gs a b | _, _ => none
  | .iface cst => (nilA c x).bind fun a => (nilA c y).bind fun b => if a = true ∧ b = true then (if cst = true then some true else none) else if a = true ∨ b = true then some false else none
  | .ptr nz => match x, y with
    | .ptr i a, .ptr j b => if i = j ∧ nz = true then some (a == b) else none
    | x, y => (nilA c x).bind fun a => (nilA c y).bind fun b => if a = true ∨ b = true then some (a && b) else none
  | c => (nilA c x).bind fun a => (nilA c y).bind fun b => if a = true ∨ b = true then some (a && b) else none

def binA (c : EqK) (op : BinOp) (x y : AV) : Option AV :=
  match op, x, y with
  | .shl, .s (.int k a), .s (.int _ b) => (shV .shl k a b).map .s
  | .shr, .s (.int k a), .s (.int _ b) => (shV .shr k a b).map .s
  | op, .s (.int k a), .s (.int k' b) => if k = k' then (binInt op k a b).map .s else none
  | op, .s (.string a), .s (.string b) => (binStr op a b).map .s
  | .eql, .s (.bool a), .s (.bool b) => match c with | .bool => some (.s (.bool (a == b))) | _ => none
  | .neq, .s (.bool a), .s (.bool b) => match c with | .bool => some (.s (.bool (!(a == b)))) | _ => none
  | .eql, x, y => (eqA c x y).map fun b => .s (.bool b)
  | .neq, x, y => (eqA c x y).map fun b => .s (.bool (!b))
  | _, _, _ => none

def unA (op : UnOp) (x : AV) : Option AV :=
  match op, x with
  | .neg, .s (.int k n) => some (.s (.int k (k.wrap (0 - n))))
  | .xor, .s (.int k n) => (binInt .xor k (if k.signed then -1 else k.max) n).map .s
  | .not, .s (.bool b) => some (.s (.bool !b))
  | _, _ => none

def min2A (x y : AV) : Option AV := match x, y with | .s (.int k a), .s (.int k' b) => if k = k' then some (.s (.int k (if b < a then b else a))) else none | _, _ => none
def max2A (x y : AV) : Option AV := match x, y with | .s (.int k a), .s (.int k' b) => if k = k' then some (.s (.int k (if a < b then b else a))) else none | _, _ => none
def fold2 (f : AV → AV → Option AV) : AV → List AV → Option AV
  | x, [] => some x
  | x, y :: rest => (f x y).bind fun z => fold2 f z rest
def minA (args : List AV) : Option AV := match args with | [] => none | x :: rest => fold2 min2A x rest
def maxA (args : List AV) : Option AV := match args with | [] => none | x :: rest => fold2 max2A x rest
def lenV (x : AV) : Option AV :=
  match x with
  | .slr _ _ n _ _ => some (.s (.int .i64 n))
  | .sl n _ _ => some (.s (.int .i64 n))
  | .s (.slice none 0 0) => some (.s (.int .i64 0))
  | _ => none
def lenS (x : AV) : Option AV := match x with | .s (.string b) => some (.s (.int .i64 b.size)) | _ => none
def capV (x : AV) : Option AV :=
  match x with
  | .slr _ _ _ _ (some c) => some (.s (.int .i64 c))
  | .sl n _ true => some (.s (.int .i64 n))
  | .s (.slice none 0 0) => some (.s (.int .i64 0))
  | _ => none

/-- The abstract heaps in which a load of a drawn region must read the same. -/
noncomputable def ldAll (ld : AH → Option AV) (H : AH) : List AH → Option AV
  | [] => ld H
  | H' :: Hs => (ldAll ld H Hs).bind fun v => @ite _ (ld H' = some v) (Classical.propDecidable _) (some v) none

def strIdx (x i : AV) : Option AV :=
  match x, i with
  | .s (.string b), .s (.int _ i) => if 0 ≤ i ∧ i < b.size then (b[i.toNat]?).map fun c => .s (.int .u8 c.toNat) else none
  | _, _ => none
def aggAt (n : Nat) (whole : Bool) (x : AV) (off : Nat) : Option AV :=
  match x with
  | .agg cs => if whole then some (.agg ((cs.drop off).take n)) else cs[off]?
  | _ => none
def arrIdx (sz : Nat) (whole : Bool) (len : Nat) (x i : AV) : Option AV :=
  match i with
  | .s (.int _ i) => if 0 ≤ i ∧ i < len then aggAt sz whole x (i.toNat * sz) else none
  | _ => none
def tupAt (x : AV) (i : Nat) : Option AV := match x with | .tup vs => vs[i]? | _ => none
def assertA (asserted : TypeId) (zero : Option Value) (ok : Bool) (x : AV) : Option AV :=
  match x with
  | .iface t v => if t = asserted then some (if ok then .tup [v, .s (.bool true)] else v) else if ok then zero.map fun z => .tup [absC z, .s (.bool false)] else none
  | .s .nilIface => if ok then zero.map fun z => .tup [absC z, .s (.bool false)] else none
  | _ => none

noncomputable def opK {β : Type} (dr : Bool) (t : List AV) (H : AH) (old : List AH) (o : Oper)
    (kv : AV → AH → Option β) (kc : FuncId → List AV → Option β) (ky : Nat → List AV → Option β) (kd : AD → Option β) (kr : Option β) (kp : AV → Option β) : Option β :=
  match o.op with
  | .move x => kv (aev t x) H
  | .assign x => kv (aev t x) H
  | .pick c a b => asB (aev t c) fun c => kv (if c then aev t a else aev t b) H
  | .alloc e => ((zeroCellsP P e).bind fun z => newA H z).bind fun p => kv p.1 p.2
  | .box _ x => (newA H (aev t x).cells).bind fun p => kv p.1 p.2
  | .build ty parts => (buildA P ty (parts.toList.map fun p => (p.1, aev t p.2))).bind fun v => kv v H
  | .buildSlice ty len parts => match dr with
    | true => (buildSliceV P ty len (parts.toList.map fun p => (p.1, aev t p.2))).bind fun v => kv v H
    | false => (buildSliceA P H ty len (parts.toList.map fun p => (p.1, aev t p.2))).bind fun p => kv p.1 p.2
  | .load ty a => (if isAggP P ty then ldAll (fun H => ldA H (szP P ty) (aev t a)) H old else ldAll (fun H => ld1 H (aev t a)) H old).bind fun v => kv v H
  | .store ty a x => (stA (szP P ty) H (aev t a) (aev t x)).bind fun H' => kv (.tup []) H'
  | .nilCheck x => asP (aev t x) fun v => kv v H
  | .binOp op ty x y _ => (binA (eqkP P A ty (isCst x || isCst y)) op (aev t x) (aev t y)).bind fun v => kv v H
  | .unOp op _ x => (unA op (aev t x)).bind fun v => kv v H
  | .convert src dst x =>
    match P.underlying dst, P.underlying src with
    | some (.int k), _ => (toInt k (aev t x)).bind fun v => kv v H
    | some .string, some .string => (asStr (aev t x)).bind fun v => kv v H
    | some .string, some (.slice e) => if kindP P e = some .u8 then (ldAll (fun H => strOfSl H (aev t x)) H old).bind fun v => kv v H else none
    | _, _ => none
  | .makeInterface ty x => match P.underlying ty with | some (.interface _) => none | some _ => kv (.iface ty (aev t x)) H | none => none
  | .makeFunc f a b => match f with | .func g => kv (.fn (.func g) (a.toList.map (aev t)) (b.toList.map (aev t))) H | _ => none
  | .makeSlice ty l c => (makeSliceA P H ty (aev t l) (aev t c)).bind fun p => kv p.1 p.2
  | .slice ty x lo hi mx =>
    match P.underlying ty with
    | some (.array n e) => (slcArr (szP P e) n (aev t x) (lo.map (aev t)) (hi.map (aev t)) (mx.map (aev t))).bind fun v => kv v H
    | some (.slice e) => (slcA (szP P e) (aev t x) (lo.map (aev t)) (hi.map (aev t)) (mx.map (aev t))).bind fun v => kv v H
    | some .string => if mx.isSome then none else (slcStr (aev t x) (lo.map (aev t)) (hi.map (aev t))).bind fun v => kv v H
    | _ => none
  | .fieldAddr ty x i =>
    match (fieldsP P ty).bind fun fs => fs[i]? with
    | some f => if szP P f.type = 0 then none else (addA (aev t x) f.offset).bind fun v => kv v H
    | none => none
  | .field ty x i =>
    match (fieldsP P ty).bind fun fs => fs[i]? with
    | some f => (aggAt (szP P f.type) (isAggP P f.type) (aev t x) f.offset).bind fun v => kv v H
    | none => none
  | .indexAddr ty x i =>
    match P.underlying ty with
    | some (.array n e) => (idxArr (szP P e) n (aev t x) (aev t i)).bind fun v => kv v H
    | some (.slice e) => (idxAddr (szP P e) (aev t x) (aev t i)).bind fun v => kv v H
    | _ => none
  | .index ty x i =>
    match P.underlying ty with
    | some .string => (strIdx (aev t x) (aev t i)).bind fun v => kv v H
    | some (.array n e) => (arrIdx (szP P e) (isAggP P e) n (aev t x) (aev t i)).bind fun v => kv v H
    | _ => none
  | .extract x i => (tupAt (aev t x) i).bind fun v => kv v H
  | .call c =>
    match c.callee with
    | .value f => applyA (aev t f) (c.args.toList.map (aev t)) kc ky
    | .builtin b =>
      match b with
      | .len => match (c.argTypes[0]?).bind P.underlying with
        | some (.array n _) => match c.args.toList with | [] => none | _ :: _ => kv (.s (.int .i64 n)) H
        | some (.slice _) => (lenV ((c.args.toList.map (aev t)).getD 0 .bot)).bind fun v => kv v H
        | some .string => (lenS ((c.args.toList.map (aev t)).getD 0 .bot)).bind fun v => kv v H
        | _ => none
      | .cap => match (c.argTypes[0]?).bind P.underlying with
        | some (.slice _) => (capV ((c.args.toList.map (aev t)).getD 0 .bot)).bind fun v => kv v H
        | _ => none
      | .append =>
        match (c.argTypes[0]?).bind (elemP P), c.argTypes[1]? with
        | some e, some t2 =>
          if zokP P e = false then none else
          match P.underlying t2 with
          | some (.int _) => (match zeroCellsP P e with | some z => (appZ H (szP P e) (bytesP P e) z ((c.args.toList.map (aev t)).getD 0 .bot) ((c.args.toList.map (aev t)).getD 1 .bot)).bind fun p => kv p.1 p.2 | none => none)
          | some (.slice _) => (appA H (szP P e) (bytesP P e) ((c.args.toList.map (aev t)).getD 0 .bot) ((c.args.toList.map (aev t)).getD 1 .bot)).bind fun p => kv p.1 p.2
          | some .string => (appA H (szP P e) (bytesP P e) ((c.args.toList.map (aev t)).getD 0 .bot) ((c.args.toList.map (aev t)).getD 1 .bot)).bind fun p => kv p.1 p.2
          | _ => none
        | _, _ => none
      | .copy =>
        match (c.argTypes[0]?).bind (elemP P) with
        | some e => (copyA H (szP P e) ((c.args.toList.map (aev t)).getD 0 .bot) ((c.args.toList.map (aev t)).getD 1 .bot)).bind fun p => kv p.1 p.2
        | _ => none
      | .min => (minA (c.args.toList.map (aev t))).bind fun v => kv v H
      | .max => (maxA (c.args.toList.map (aev t))).bind fun v => kv v H
      | .recover => kr
      | .panic => asI ((c.args.toList.map (aev t)).getD 0 .bot) kp
      | _ => none
    | .invoke _ _ => none
  | .defer c =>
    match c.callee with
    | .value f => deferA (aev t f) (c.args.toList.map (aev t)) kd
    | _ => none
  | .panic x => asI (aev t x) kp
  | .typeAssert x xt asserted ok =>
    match P.underlying asserted with
    | some (.interface _) => none
    | some _ => (assertA asserted (zeroP P asserted) ok (aev t x)).bind fun v => kv v H
    | none => none
  | _ => none
noncomputable def op1 (dr : Bool) (t : List AV) (H : AH) (old : List AH) (o : Oper) : Option R1 :=
  opK P A dr t H old o (fun v H => some (.val v H)) (fun f a => some (.enter f a)) (fun l a => some (.yield l a)) (fun d => some (.defer d)) (some .recover) (fun v => some (.panic v))

/-! ### Regions -/
/-- Operations that act on memory or may panic by a call: all of a drawn region's stand in one chain. -/
def heavy (o : Oper) : Bool :=
  match o.op with
  | .store .. | .defer _ | .panic _ | .mapUpdate .. | .range .. | .next .. | .box .. | .makeSlice .. => true
  | .call c => match c.callee with | .builtin .len | .builtin .cap | .builtin .min | .builtin .max => false | _ => true
  | _ => false
/-- Is an operation run? sk: those that were skipped. none: it is not known. -/
noncomputable def wantedA (ops : Array Oper) (sk : List Nat) (t : List AV) (o : Oper) : Option Bool :=
  match o.guard with
  | none => some true
  | some (j, want) =>
    if memN sk j = true then some false else
    match (nthO ops.toList j).bind (·.dst) with
    | none => some false
    | some d => match nth .bot t d with
      | .s (.bool b) => some (b == want)
      | _ => none
noncomputable def putA (t : List AV) (dst : Option Tmp) (v : AV) : List AV := match dst with | some d => setN t d v | none => t

/-- One operation, calls included. -/
noncomputable def opS (S : Or) (cx : Cx) (draw : Bool) (o : Oper) (old : List AH) (st : St) : Option (Ex × St) :=
  (op1 P A draw st.t st.H old o).bind fun
  | .val v H => some (.normal, { st with t := putA st.t o.dst v, H := H })
  | .enter f args => (S.callE f args .none st.H).bind fun r => match r.1 with
    | .returned v => some (.normal, { st with t := putA st.t o.dst v, H := r.2.2 })
    | .panicked ch => if draw = true then none else some (.panic ch, { st with H := r.2.2 })
  | .yield l args => (S.roundE l args st.H).bind fun r => match r.1 with
    | .returned v => some (.normal, { st with t := putA st.t o.dst v, H := r.2 })
    | .panicked ch => if draw = true then none else some (.panic ch, { st with H := r.2 })
  | .defer d => if cx.rnd.isSome = true then none else some (.normal, { st with t := putA st.t o.dst (.tup []), ds := d :: st.ds })
  | .recover => if cx.rnd.isSome = true then none else match st.u with
    | .panicking (⟨v, false⟩ :: older) => some (.normal, { st with t := putA st.t o.dst v, u := .panicking (⟨v, true⟩ :: older) })
    | _ => some (.normal, { st with t := putA st.t o.dst (.s .nilIface) })
  | .panic v => if draw = true then none else some (.panic [⟨v, false⟩], st)

/-- The operations of a region, one behind the other; sk: the skipped ones; sn (in a drawn region): the heap ahead of each heavy operation. -/
noncomputable def runOps (S : Or) (cx : Cx) (ops : Array Oper) (draw : Bool) (hb : List Nat) : List Nat → List Nat → List AH → St → Option (Ex × St)
  | [], _, _, st => some (.normal, st)
  | i :: rest, sk, sn, st =>
    match nthO ops.toList i with
    | none => none
    | some o =>
      match wantedA ops sk st.t o with
      | none => none
      | some false => runOps S cx ops draw hb rest (i :: sk) (if (draw && heavy o) = true then sn ++ [st.H] else sn) { st with t := putA st.t o.dst (.tup []) }
      | some true => (opS P A S cx draw o (if draw = true then sn.drop (nth 0 hb i) else []) st).bind fun x => match x.1 with
        | .normal => runOps S cx ops draw hb rest sk (if (draw && heavy o) = true then sn ++ [st.H] else sn) x.2
        | e => some (e, x.2)

noncomputable def runRegion (S : Or) (cx : Cx) (id : Nat) (ops : Array Oper) (draw : Bool) (st : St) : Option (Ex × St) :=
  if draw = true then
    match A.plan cx.fid id with
    | some (order, hb) => runOps P A S cx ops true hb order [] [] st
    | none => none
  else runOps P A S cx ops false [] (List.range ops.size) [] [] st

/-! ### What is asked of a region (looked at once, for a whole program) -/
/-- What stands ahead of an operation, by the edges that bind: a mask. -/
def maskOf (acc : List Nat) (es : List Edge) : Nat :=
  es.foldl (fun m e => if Region.binds .any e = true then m ||| (1 <<< e.on) ||| acc.getD e.on 0 else m) 0
def ancs (ops : List Oper) : List Nat := ops.foldl (fun acc o => acc ++ [maskOf acc o.after.toList]) []
def edgesBack : Nat → List Oper → Bool
  | _, [] => true
  | i, o :: os => (o.after.toList.all fun e => !Region.binds .any e || Nat.blt e.on i) && edgesBack (i + 1) os
/-- The order is one that the edges allow; each heavy operation comes just behind all that must stand ahead of it. -/
def orderOk (ops : Array Oper) (an : List Nat) : List Nat → Nat → Bool
  | [], _ => true
  | i :: rest, done =>
    (match ops[i]? with
     | some o => if heavy o = true then Nat.beq done (an.getD i 0) else Nat.beq (an.getD i 0 &&& done) (an.getD i 0)
     | none => false) && Nat.beq ((done >>> i) &&& 1) 0 && orderOk ops an rest (done ||| (1 <<< i))
def heavyCount (ops : List Oper) (m : Nat) (i : Nat) : Nat :=
  match ops with
  | [] => 0
  | o :: os => (if heavy o = true then (m >>> i) &&& 1 else 0) + heavyCount os m (i + 1)
def hbOk (ops : List Oper) : List Nat → List Nat → Bool
  | [], [] => true
  | m :: ms, h :: hs => Nat.beq h (heavyCount ops m 0) && hbOk ops ms hs
  | _, _ => false
/-- The temporaries that an operation names beside its own result. -/
def namesOf (ops : Array Oper) (o : Oper) : List Nat :=
  (o.op.operands.toList.filterMap fun x => match x with | .tmp t => some t | _ => none) ++ (match o.guard with | some (g, _) => ((ops[g]?).bind (·.dst)).toList | none => [])
def writerOf : List Oper → Nat → Nat → Option Nat
  | [], _, _ => none
  | o :: os, i, t => if o.dst = some t then some i else writerOf os (i + 1) t
/-- Who names a temporary that an operation writes stands in an order with it. -/
def tempsOk (ops : Array Oper) (an : List Nat) : Nat → List Oper → Bool
  | _, [] => true
  | j, o :: os => ((namesOf ops o).all fun t => match writerOf ops.toList 0 t with
      | some i => i == j || Nat.beq (((an.getD j 0) >>> i) &&& 1) 1 || Nat.beq (((an.getD i 0) >>> j) &&& 1) 1
      | none => true) && tempsOk ops an (j + 1) os
/-- A temporary is written once. -/
def uniqOk : List Oper → Bool
  | [] => true
  | o :: os => (match o.dst with | some t => (writerOf os 0 t).isNone | none => true) && uniqOk os
def guardsBack : Nat → List Oper → Bool
  | _, [] => true
  | i, o :: os => (match o.guard with | some (g, _) => Nat.blt g i && o.after.toList.any (fun e => e.on == g && Region.binds .any e) | none => true) && guardsBack (i + 1) os
/-- What is made new and unlike others not in a chain: it is always made, and just heavy operations name it. -/
def allocOk (ops : Array Oper) : Bool :=
  ops.toList.all fun o => match o.op with
    | .alloc _ => o.guard.isNone && ops.toList.all fun x => heavy x || (match o.dst with | some d => !(namesOf ops x).contains d | none => true)
    | _ => true
def planOk (ops : Array Oper) (order hb : List Nat) : Bool :=
  let an := ancs ops.toList
  edgesBack 0 ops.toList && guardsBack 0 ops.toList && Nat.beq order.length ops.size && orderOk ops an order 0 && hbOk ops.toList an hb && tempsOk ops an 0 ops.toList && allocOk ops
/-- The types that an operation names have descriptions, and so have their parts. -/
def tyOk (t : TypeId) : Bool :=
  match P.underlying t with
  | some (.array _ e) => (P.underlying e).isSome
  | some (.slice e) => (P.underlying e).isSome
  | some (.struct fs) => fs.toList.all fun f => (P.underlying f.type).isSome
  | some _ => true
  | none => false
def opOk (o : Oper) : Bool :=
  match o.op with
  | .load t _ | .store t _ _ | .build t _ | .buildSlice t _ _ | .makeSlice t _ _ | .slice t _ _ _ _ | .fieldAddr t _ _ | .field t _ _ | .indexAddr t _ _ | .index t _ _ => tyOk P t
  | .convert s d _ => tyOk P s && tyOk P d
  | .call c => match c.callee with | .builtin _ => c.argTypes.toList.all (tyOk P) | _ => true
  | _ => true
def codeOk (fid : FuncId) : Code → Bool
  | .region id ops draw => uniqOk ops.toList && ops.toList.all (opOk P) && (!draw || match A.plan fid id with | some (o, h) => planOk ops o h | none => true)
  | .seq a b => codeOk fid a && codeOk fid b
  | .cond _ a b => codeOk fid a && codeOk fid b
  | .block _ b => codeOk fid b
  | .loop b => codeOk fid b
  | .scope b => codeOk fid b
  | .rangeFunc _ _ a b => codeOk fid a && codeOk fid b
  | _ => true
def resOk : ResultVar → Bool
  | .tmp _ => true
  | .cell _ t => tyOk P t
def funcsOk : Nat → List Func → Bool
  | _, [] => true
  | i, f :: fs => (f.name != "runtime.NumGoroutine") && (match f.body with | some c => codeOk P A i c | none => true) && f.results.toList.all (resOk P) && funcsOk (i + 1) fs

/-! ### Control -/
/-- A loop's head: only the marked temporaries are kept. -/
def firstRegion : Code → Option Nat
  | .region id _ _ => some id
  | .seq a b => (firstRegion a).or (firstRegion b)
  | .block _ b | .loop b | .scope b => firstRegion b
  | .cond _ a b => (firstRegion a).or (firstRegion b)
  | _ => none
def keepOnly (l : List Nat) (t : List AV) (i : Nat) : List AV :=
  match t with
  | [] => []
  | v :: vs => (if l.contains i then v else .bot) :: keepOnly l vs (i + 1)
def forget (fid : FuncId) (c : Code) (t : List AV) : List AV :=
  match (firstRegion c).bind (A.live fid) with
  | some l => keepOnly l t 0
  | none => t

def loadVarA (H : AH) (t : TypeId) (a : AV) : Option AV := if isAggP P t then ldA H (szP P t) a else ld1 H a
def tupV : List AV → AV
  | [v] => v
  | vs => .tup vs
/-- The results of a call, in order, read from temporaries and cells. -/
noncomputable def resK {β : Type} (H : AH) (t : List AV) : List ResultVar → List AV → (AV → Option β) → Option β
  | [], acc, k => k (tupV acc)
  | .tmp i :: rs, acc, k => resK H t rs (acc ++ [nth (.tup []) t i]) k
  | .cell a ty :: rs, acc, k => (loadVarA P H ty (nth (.tup []) t a)).bind fun v => resK H t rs (acc ++ [v]) k
noncomputable def resultsA (fn : Func) (t : List AV) (H : AH) : Option AV := resK P H t fn.results.toList [] some

def settleA : List APanic → UM
  | ⟨_, true⟩ :: _ => .returning
  | ch => .panicking ch
def settleU : UM → UM
  | .panicking ch => settleA ch
  | u => u
def raiseU (u : UM) (ch : List APanic) : UM :=
  match u with
  | .panicking old => .panicking (ch ++ old)
  | _ => .panicking ch

def frzEnd (n : Nat) (H : AH) : AEnd → Option AEnd
  | .returned v => (frz n H 40 v).map .returned
  | .panicked ch => (ch.mapM fun p => (frz n H 40 p.v).map fun v => (⟨v, p.recovered⟩ : APanic)).map .panicked
def frzU (n : Nat) (H : AH) : UM → Option UM
  | .panicking ch => (ch.mapM fun p => (frz n H 40 p.v).map fun v => (⟨v, p.recovered⟩ : APanic)).map .panicking
  | u => some u

/-- The end of a call in the mode that its function has. H0: the heap as it began. -/
noncomputable def shut (keep : Bool) (H0 : AH) (x : AEnd × UM × AH) : Option Out :=
  if keep = true then some (.e x.1 x.2.1 x.2.2) else
  (frzEnd H0.length x.2.2 x.1).bind fun e => (frzU H0.length x.2.2 x.2.1).bind fun u =>
    (frzH H0 x.2.2).map fun H' => .e e u H'

/-- A call of a function value. -/
def callV (S : Or) (f : AV) (args : List AV) (H : AH) : Option (AEnd × UM × AH) :=
  match f with
  | .fn (.func g) first cap => S.callE g (first ++ args ++ cap) .none H
  | _ => none
/-- A range over a function: the loop's record, the call, the pending jump. -/
def rangeA (A : Ann) (S : Or) (cx : Cx) (f : AV) (ps : Array Tmp) (asg body : Code) (st : St) : Option Out :=
  (callV S f [.fn (.yield st.H.length) [] []] (st.H ++ [.loop .ready none cx.fid (forget A cx.fid body st.t) ps.toList asg body])).bind fun (e, _, H') =>
  match e with
  | .panicked ch => some (.x (.panic ch) { st with H := H' })
  | .returned _ =>
    match H'[st.H.length]? with
    | some (.loop s pend fid t ps asg body) =>
      if s = LoopState.busy then none else
      match pend with
      | none => some (.x .normal { st with H := H'.set st.H.length (.loop .exhausted pend fid t ps asg body) })
      | some .ret => some (.x .ret { st with H := H'.set st.H.length (.loop .exhausted pend fid t ps asg body) })
      | some (.exit i) => some (.x (.exit i) { st with H := H'.set st.H.length (.loop .exhausted pend fid t ps asg body) })
      | some (.goto i) => some (.x (.goto i) { st with H := H'.set st.H.length (.loop .exhausted pend fid t ps asg body) })
      | some _ => none
    | _ => none

noncomputable def F (S : Or) : Or
  | .call f args u H =>
    (P.funcs[f]?).bind fun fn => fn.body.bind fun c =>
    (S.execX ⟨f, none⟩ c ⟨args ++ List.replicate (fn.ntmps - args.length) (.tup []), [], u, H⟩).bind fun (e, st) =>
    (modeOf e).bind fun m => (S.leaveE f st.t st.ds m st.H).bind fun (e, H') => shut (A.keep f) H (e, st.u, H')
  | .leave f t ds m H =>
    match ds with
    | [] => match m with
      | .returning => (P.funcs[f]?).bind fun fn => (resultsA P fn t H).map fun v => Out.e (.returned v) .none H
      | .panicking ch => some (.e (.panicked ch) .none H)
      | .none => none
    | .fn (.func g) cap args :: ds => (S.callE g (args ++ cap) m H).bind fun (e, u, H') => match e with
      | .returned _ => S (.leave f t ds (settleU u) H')
      | .panicked ch => S (.leave f t ds (raiseU u ch) H')
    | _ => none
  | .exec cx c st =>
    match c with
    | .skip | .label _ => some (.x .normal st)
    | .region id ops draw => (runRegion P A S cx id ops draw st).map fun (e, st) => .x e st
    | .seq a b => (S.execX cx a st).bind fun (e, st') => match e with | .normal => S (.exec cx b st') | e => some (.x e st')
    | .cond c a b => match aev st.t c with | .s (.bool v) => S (.exec cx (if v then a else b) st) | _ => none
    | .block id b => (S.execX cx b st).bind fun (e, st') => match e with | .exit i => some (.x (if i = id then .normal else .exit i) st') | e => some (.x e st')
    | .loop b => (S.execX cx b { st with t := forget A cx.fid b st.t }).bind fun (e, st') => match e with | .normal => S (.exec cx (.loop b) st') | e => some (.x e st')
    | .exit id => some (.x (.exit id) st)
    | .goto l => some (.x (.goto l) st)
    | .ret => some (.x .ret st)
    | .scope b => S (.scope cx b b st)
    | .rangeFunc f ps asg body => rangeA A S cx (aev st.t f) ps asg body st
    | .refuse _ => none
  | .scope cx b r st =>
    (S.execX cx r { st with t := forget A cx.fid r st.t }).bind fun (e, st') => match e with
      | .goto l => match findLabel b l with
        | some r' => S (.scope cx b r' st')
        | none => some (.x (.goto l) st')
      | e => some (.x e st')
  | .round l args H =>
    match H[l]? with
    | some (.loop s pend fid t ps asg body) =>
      if args.length = ps.length then
        let t' := (ps.zip args).foldl (fun t (i, v) => t.set i v) t
        (S.execX ⟨fid, some l⟩ asg ⟨t', [], .none, H⟩).bind fun (e, st) => match e with
        | .normal => (match st.H[l]? with
          | some (.loop s pend fid t ps asg body) =>
            if s = .ready then
              (S.execX ⟨fid, some l⟩ body { st with H := st.H.set l (.loop .busy pend fid t ps asg body) }).bind fun (e, st) =>
              match st.H[l]? with
              | some (.loop s pend fid t ps asg body) => match e with
                | .normal => some (.e (.returned (.s (.bool true))) .none (st.H.set l (.loop .ready none fid t ps asg body)))
                | .ret => some (.e (.returned (.s (.bool false))) .none (st.H.set l (.loop .done (some .ret) fid t ps asg body)))
                | .exit id => some (.e (.returned (.s (.bool false))) .none (st.H.set l (.loop .done (some (.exit id)) fid t ps asg body)))
                | .goto g => some (.e (.returned (.s (.bool false))) .none (st.H.set l (.loop .done (some (.goto g)) fid t ps asg body)))
                | .panic ch => some (.e (.panicked ch) .none st.H)
              | _ => none
            else none
          | _ => none)
        | _ => none
      else none
    | _ => none

end Go.Proofs.Ytkcamjcicegclaa.V
