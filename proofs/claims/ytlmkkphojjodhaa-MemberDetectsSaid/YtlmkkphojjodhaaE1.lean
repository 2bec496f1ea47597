/- The terms of the symbolic engine and what they denote; no program in sight. -/
import Derived.WalkKit
set_option linter.unusedSimpArgs false
set_option linter.unusedVariables false
namespace Go.Eng
open Go

abbrev Hp := Nat → Option Obj
/-- Part of. -/
def Hp.le (a b : Hp) : Prop := ∀ x o, a x = some o → b x = some o

/-- What a variable of the engine stands for: read as a number, a Bool, a value, rows of cells, a region's address, or a heap assertion. -/
structure U where
  i : Int := 0
  b : Bool := false
  v : Value := .nilFunc
  d : List (List Value) := []
  r : Option (Nat × Nat) := none
  h : Hp := fun _ => none

/-- A value of one cell; rows of such. -/
def U.good (u : U) : Prop := u.v.oneCell' = true ∧ ∀ row ∈ u.d, ∀ v ∈ row, v.oneCell' = true

abbrev Env := Nat → U

def Env.good (ρ : Env) : Prop := ∀ n, (ρ n).good

def Env.set (ρ : Env) (n : Nat) (u : U) : Env := fun m => if m = n then u else ρ m

@[simp] theorem Env.set_same (ρ : Env) (n : Nat) (u : U) : (ρ.set n u) n = u := by simp [Env.set]
theorem Env.set_ne (ρ : Env) {n m : Nat} (u : U) (h : m ≠ n) : (ρ.set n u) m = ρ m := by simp [Env.set, h]

/-- One cell's content, read as a number, a Bool. -/
def vInt : Value → Int
  | .int _ z => z
  | _ => 0
def vBool : Value → Bool
  | .bool b => b
  | _ => false
def cellV (d : List (List Value)) (e : Int) (c : Nat) : Value := ((d[e.toNat]?).getD [])[c]?.getD .nilFunc
def cellI (d : List (List Value)) (e : Int) (c : Nat) : Int := vInt (cellV d e c)
def cellB (d : List (List Value)) (e : Int) (c : Nat) : Bool := vBool (cellV d e c)
/-- The list with what stands at c, c + 1, .. replaced. -/
def splice (row : List Value) (c : Nat) (vs : List Value) : List Value := row.take c ++ vs ++ row.drop (c + vs.length)
def putD (d : List (List Value)) (e : Int) (c : Nat) (vs : List Value) : List (List Value) :=
  d.set e.toNat (splice ((d[e.toNat]?).getD []) c vs)

/-- The terms' heads: without a part, with one, two, three. -/
inductive O0 where
  | lit (z : Int)
  | bl (b : Bool)
  | isnil (r : Nat)
  | vnilp
  | vnils
  | vnilf
  | vstr (l : List UInt8)
  | dnil
  | rnil
  deriving Inhabited, DecidableEq
inductive O1 where
  | conv (k : IntKind)
  | dlen
  | not
  | vint (k : IntKind)
  | vbool
  | vptr (r p c : Nat)
  deriving Inhabited, DecidableEq
inductive O2 where
  | arith (op : BinOp) (k : IntKind)
  | plus
  | minus
  | tims
  | imin
  | imax
  | icell (c : Nat)
  | cmp (op : BinOp)
  | beq
  | and
  | or
  | bcell (c : Nat)
  | vcell (c : Nat)
  | dsnoc
  | rcons
  | drep
  | dapp
  | dtake
  | ddrop
  deriving Inhabited, DecidableEq
inductive O3 where
  | vslice (r p : Nat)
  | dput (c : Nat)
  deriving Inhabited, DecidableEq

/-- The terms: of every sort in one type. -/
inductive T where
  | var (n : Nat)
  | c0 (o : O0)
  | c1 (o : O1) (a : T)
  | c2 (o : O2) (a b : T)
  | c3 (o : O3) (a b c : T)
  | ife (a b x y : T)
  deriving Inhabited

abbrev T.lit (z : Int) : T := .c0 (.lit z)
abbrev T.bl (b : Bool) : T := .c0 (.bl b)
abbrev T.isnil (r : Nat) : T := .c0 (.isnil r)
abbrev T.vnilp : T := .c0 .vnilp
abbrev T.vnils : T := .c0 .vnils
abbrev T.vnilf : T := .c0 .vnilf
abbrev T.vstr (l : List UInt8) : T := .c0 (.vstr l)
abbrev T.dnil : T := .c0 .dnil
abbrev T.rnil : T := .c0 .rnil
abbrev T.conv (k : IntKind) (a : T) : T := .c1 (.conv k) a
abbrev T.dlen (a : T) : T := .c1 .dlen a
abbrev T.not (a : T) : T := .c1 .not a
abbrev T.vint (k : IntKind) (a : T) : T := .c1 (.vint k) a
abbrev T.vbool (a : T) : T := .c1 .vbool a
abbrev T.vptr (r : Nat) (e : T) (p c : Nat) : T := .c1 (.vptr r p c) e
abbrev T.arith (op : BinOp) (k : IntKind) (a b : T) : T := .c2 (.arith op k) a b
abbrev T.plus (a b : T) : T := .c2 .plus a b
abbrev T.minus (a b : T) : T := .c2 .minus a b
abbrev T.tims (a b : T) : T := .c2 .tims a b
abbrev T.imin (a b : T) : T := .c2 .imin a b
abbrev T.imax (a b : T) : T := .c2 .imax a b
abbrev T.icell (d e : T) (c : Nat) : T := .c2 (.icell c) d e
abbrev T.cmp (op : BinOp) (a b : T) : T := .c2 (.cmp op) a b
abbrev T.beq (a b : T) : T := .c2 .beq a b
abbrev T.and (a b : T) : T := .c2 .and a b
abbrev T.or (a b : T) : T := .c2 .or a b
abbrev T.bcell (d e : T) (c : Nat) : T := .c2 (.bcell c) d e
abbrev T.vcell (d e : T) (c : Nat) : T := .c2 (.vcell c) d e
abbrev T.dsnoc (d r : T) : T := .c2 .dsnoc d r
abbrev T.rcons (v r : T) : T := .c2 .rcons v r
abbrev T.drep (n r : T) : T := .c2 .drep n r
abbrev T.dapp (a b : T) : T := .c2 .dapp a b
abbrev T.dtake (a b : T) : T := .c2 .dtake a b
abbrev T.ddrop (a b : T) : T := .c2 .ddrop a b
abbrev T.vslice (r : Nat) (off len cap : T) (p : Nat) : T := .c3 (.vslice r p) off len cap
abbrev T.dput (d e : T) (c : Nat) (r : T) : T := .c3 (.dput c) d e r

/-- Whether two terms are the same text. -/
def T.same : T → T → Bool
  | .var a, .var b => Nat.beq a b
  | .c0 a, .c0 b => decide (a = b)
  | .c1 o a, .c1 o' a' => decide (o = o') && a.same a'
  | .c2 o a b, .c2 o' a' b' => decide (o = o') && a.same a' && b.same b'
  | .c3 o a b c, .c3 o' a' b' c' => decide (o = o') && a.same a' && b.same b' && c.same c'
  | .ife a b x y, .ife a' b' x' y' => a.same a' && b.same b' && x.same x' && y.same y'
  | _, _ => false

theorem T.same_eq : ∀ {a b : T}, a.same b = true → a = b
  | .var a, .var b, h => by simp [T.same] at h; rw [h]
  | .c0 a, .c0 b, h => by simp [T.same] at h; rw [h]
  | .c1 o a, .c1 o' a', h => by simp [T.same] at h; rw [h.1, T.same_eq h.2]
  | .c2 o a b, .c2 o' a' b', h => by simp [T.same] at h; rw [h.1.1, T.same_eq h.1.2, T.same_eq h.2]
  | .c3 o a b c, .c3 o' a' b' c', h => by simp [T.same] at h; rw [h.1.1.1, T.same_eq h.1.1.2, T.same_eq h.1.2, T.same_eq h.2]
  | .ife a b x y, .ife a' b' x' y', h => by simp [T.same] at h; rw [T.same_eq h.1.1.1, T.same_eq h.1.1.2, T.same_eq h.1.2, T.same_eq h.2]

/-- Go's arithmetic on numbers of one kind (the second number is not 0 where it divides). -/
def arithOf (op : BinOp) (k : IntKind) (x y : Int) : Int :=
  match op with
  | .add => k.wrap (x + y)
  | .sub => k.wrap (x - y)
  | .mul => k.wrap (x * y)
  | .quo => k.wrap (x.tdiv y)
  | .rem => x.tmod y
  | .and => k.wrap (BitVec.ofInt k.bits x &&& BitVec.ofInt k.bits y).toNat
  | .or => k.wrap (BitVec.ofInt k.bits x ||| BitVec.ofInt k.bits y).toNat
  | .xor => k.wrap (BitVec.ofInt k.bits x ^^^ BitVec.ofInt k.bits y).toNat
  | .andNot => k.wrap (BitVec.ofInt k.bits x &&& ~~~BitVec.ofInt k.bits y).toNat
  | .shl => k.wrap (x * 2 ^ (min y.toNat k.bits))
  | .shr => x.fdiv (2 ^ (min y.toNat k.bits))
  | _ => 0
def cmpOf (op : BinOp) (x y : Int) : Bool :=
  match op with
  | .eql => x == y
  | .neq => x != y
  | .lss => decide (x < y)
  | .leq => decide (x ≤ y)
  | .gtr => decide (x > y)
  | .geq => decide (x ≥ y)
  | _ => false

def addrOf (r : Option (Nat × Nat)) (n : Nat) : Option Addr := r.map fun (b, o) => ⟨b, o + n, none⟩

def O0.den (ρ : Env) : O0 → U
  | .lit z => { i := z }
  | .bl b => { b := b }
  | .isnil r => { b := (ρ r).r.isNone }
  | .vnilp => { v := .pointer none }
  | .vnils => { v := .slice none 0 0 }
  | .vnilf => { v := .nilFunc }
  | .vstr l => { v := .string ⟨l.toArray⟩ }
  | .dnil => { d := [] }
  | .rnil => { d := [[]] }
def O1.den (ρ : Env) (a : U) : O1 → U
  | .conv k => { i := k.wrap a.i }
  | .dlen => { i := (a.d.length : Int) }
  | .not => { b := !a.b }
  | .vint k => { v := .int k a.i }
  | .vbool => { v := .bool a.b }
  | .vptr r p c => { v := .pointer (addrOf (ρ r).r (a.i.toNat * p + c)) }
def O2.den (a b : U) : O2 → U
  | .arith op k => { i := arithOf op k a.i b.i }
  | .plus => { i := a.i + b.i }
  | .minus => { i := a.i - b.i }
  | .tims => { i := a.i * b.i }
  | .imin => { i := if b.i < a.i then b.i else a.i }
  | .imax => { i := if b.i > a.i then b.i else a.i }
  | .icell c => { i := cellI a.d b.i c }
  | .cmp op => { b := cmpOf op a.i b.i }
  | .beq => { b := a.b == b.b }
  | .and => { b := a.b && b.b }
  | .or => { b := a.b || b.b }
  | .bcell c => { b := cellB a.d b.i c }
  | .vcell c => { v := cellV a.d b.i c }
  | .dsnoc => { d := a.d ++ b.d }
  | .rcons => { d := [a.v :: b.d.headD []] }
  | .drep => { d := List.replicate a.i.toNat (b.d.headD []) }
  | .dapp => { d := a.d ++ b.d }
  | .dtake => { d := a.d.take b.i.toNat }
  | .ddrop => { d := a.d.drop b.i.toNat }
def O3.den (ρ : Env) (a b c : U) : O3 → U
  | .vslice r p => { v := .slice (addrOf (ρ r).r (a.i.toNat * p)) b.i.toNat c.i.toNat }
  | .dput k => { d := putD a.d b.i k (c.d.headD []) }
def T.den (ρ : Env) : T → U
  | .var n => ρ n
  | .c0 o => o.den ρ
  | .c1 o a => o.den ρ (a.den ρ)
  | .c2 o a b => o.den (a.den ρ) (b.den ρ)
  | .c3 o a b c => o.den ρ (a.den ρ) (b.den ρ) (c.den ρ)
  | .ife a b x y => { i := if (a.den ρ).i = (b.den ρ).i then (x.den ρ).i else (y.den ρ).i }

/-- The rows that a list of cells makes. -/
def T.row : List T → T
  | [] => .rnil
  | t :: ts => .rcons t (T.row ts)

/-- Values: one cell, a struct or an array, a tuple of results, a function value. -/
inductive SV where
  | one (t : T)
  | agg (ts : List T)
  | tup (vs : List (Bool × List T))
  | fn (f : Fn) (first caps : List T)
  deriving Inhabited

def denVs (ρ : Env) (ts : List T) : List Value := ts.map fun t => (t.den ρ).v

def den1 (ρ : Env) : Bool × List T → Value
  | (true, ts) => .agg (denVs ρ ts).toArray
  | (false, ts) => (denVs ρ ts).headD .nilFunc

def SV.den (ρ : Env) : SV → Value
  | .one t => (t.den ρ).v
  | .agg ts => .agg (denVs ρ ts).toArray
  | .tup vs => .tuple (vs.map (den1 ρ)).toArray
  | .fn f first caps => .func f (denVs ρ first).toArray (denVs ρ caps).toArray

/-- The kind of a cell of a row. -/
inductive CK where
  | int (k : IntKind)
  | bool
  | any
  deriving Inhabited, DecidableEq

def CK.fits : CK → Value → Bool
  | .int k, .int k' _ => k == k'
  | .bool, .bool _ => true
  | .any, v => v.oneCell'
  | _, _ => false

/-- All cells of a row fit. -/
def fitsRow (pat : List CK) (row : List Value) : Prop := row.length = pat.length ∧ ∀ (c : Nat) (k : CK) (v : Value), pat[c]? = some k → row[c]? = some v → CK.fits k v = true

/-- Heap assertions. -/
inductive SH where
  | cells (r : Nat) (ty : TypeId) (cs : List T)
  | arr (r : Nat) (ty : TypeId) (pat : List CK) (d cap : T)
  | abs (n t : Nat)
  deriving Inhabited

/-- The cells of a block from 'o' on are these rows. -/
def rowsAt (c : Array Value) (o : Nat) (pat : List CK) (d : List (List Value)) : Prop :=
  ∀ (i : Nat) (row : List Value), d[i]? = some row → fitsRow pat row ∧ ∀ (k : Nat) (v : Value), row[k]? = some v → c[o + i * pat.length + k]? = some v

/-- In this piece of memory a slice's value reads as these rows. -/
def Rd (h : Hp) (pat : List CK) (v : Value) (d : List (List Value)) : Prop :=
  (v = .slice none 0 0 ∧ d = []) ∨
  ∃ b o cap c ty fr, v = .slice (some ⟨b, o, none⟩) d.length cap ∧ d.length ≤ cap ∧ h b = some (.cells c ty fr) ∧ rowsAt c o pat d

def SH.den (ρ : Env) : SH → Hp → Prop
  | .cells r ty cs, h => ∃ b, (ρ r).r = some (b, 0) ∧ h b = some (.cells (denVs ρ cs).toArray ty (0, 0))
  | .arr r ty pat d cap, h =>
    ((ρ r).r = none ∧ (d.den ρ).d = [] ∧ (cap.den ρ).i = 0) ∨
    ∃ b c, (ρ r).r = some (b, 0) ∧ h b = some (.cells c ty (0, 0)) ∧ c.size = (cap.den ρ).i.toNat * pat.length ∧
      ((d.den ρ).d.length : Int) ≤ (cap.den ρ).i ∧ rowsAt c 0 pat (d.den ρ).d
  | .abs n _, h => Hp.le (ρ n).h h

/-- The same, of memory that is only read: at any place of a block, whatever lies beside it. -/
def SH.roden (ρ : Env) : SH → Hp → Prop
  | .cells r _ cs, h => ∃ b o c ty fr, (ρ r).r = some (b, o) ∧ h b = some (.cells c ty fr) ∧ ∀ (k : Nat) (v : Value), (denVs ρ cs)[k]? = some v → c[o + k]? = some v
  | .arr r _ pat d _, h =>
    ((ρ r).r = none ∧ (d.den ρ).d = []) ∨
    ∃ b o c ty fr, (ρ r).r = some (b, o) ∧ h b = some (.cells c ty fr) ∧ rowsAt c o pat (d.den ρ).d
  | .abs n _, h => Hp.le (ρ n).h h

/-! ### Pieces of memory -/

def Hp.disj (h1 h2 : Hp) : Prop := ∀ b, h1 b = none ∨ h2 b = none
def Hp.union (h1 h2 : Hp) : Hp := fun b => (h1 b).or (h2 b)
def Hp.sub (h : Hp) (w : World) : Prop := ∀ b o, h b = some o → w.heap[b]? = some o
def Hp.one (b : Nat) (o : Obj) : Hp := fun b' => if b' = b then some o else none
def Hp.upd (h : Hp) (b : Nat) (o : Obj) : Hp := fun b' => if b' = b then some o else h b'
def Hp.emp : Hp := fun _ => none

def star (ρ : Env) : List SH → Hp → Prop
  | [], _ => True
  | x :: xs, h => ∃ h1 h2, Hp.disj h1 h2 ∧ h = Hp.union h1 h2 ∧ x.den ρ h1 ∧ star ρ xs h2

end Go.Eng
