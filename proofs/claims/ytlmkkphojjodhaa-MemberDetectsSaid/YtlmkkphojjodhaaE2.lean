/- The symbolic engine: one call's body is carried out over terms; what comes out is a tree of conditions. -/
import Derived.Test.YtlmkkphojjodhaaE1
set_option linter.unusedSimpArgs false
set_option linter.unusedVariables false
namespace Go.Eng
open Go

/-! ### Terms made small on the way -/

def T.isLit : T → Option Int
  | .c0 (.lit z) => some z
  | _ => none
def mkPlus (a b : T) : T :=
  match a.isLit, b.isLit with
  | some x, some y => .lit (x + y)
  | some x, none => if x = 0 then b else .plus a b
  | none, some y => if y = 0 then a else .plus a b
  | none, none => .plus a b
def mkMinus (a b : T) : T :=
  match a.isLit, b.isLit with
  | some x, some y => .lit (x - y)
  | none, some y => if y = 0 then a else .minus a b
  | _, _ => if a.same b then .lit 0 else .minus a b
def mkArith (op : BinOp) (k : IntKind) (a b : T) : T :=
  match a.isLit, b.isLit with
  | some x, some y => .lit (arithOf op k x y)
  | _, _ => .arith op k a b
def mkConv (k : IntKind) (a : T) : T :=
  match a.isLit with
  | some x => .lit (k.wrap x)
  | none => .conv k a
def mkCmp (op : BinOp) (a b : T) : T :=
  match a.isLit, b.isLit with
  | some x, some y => .bl (cmpOf op x y)
  | _, _ => if a.same b then .bl (cmpOf op 0 0) else .cmp op a b
def mkNot : T → T
  | .c0 (.bl b) => .bl (!b)
  | .c1 .not a => a
  | a => .not a
def mkBeq (a b : T) : T :=
  match a, b with
  | .c0 (.bl x), .c0 (.bl y) => .bl (x == y)
  | a, b => if a.same b then .bl true else .beq a b
def mkAnd (a b : T) : T :=
  match a, b with
  | .c0 (.bl true), b => b
  | .c0 (.bl false), _ => .bl false
  | a, .c0 (.bl true) => a
  | a, b => .and a b
def mkMin (a b : T) : T :=
  match a.isLit, b.isLit with
  | some x, some y => .lit (if y < x then y else x)
  | _, _ => .imin a b
def mkMax (a b : T) : T :=
  match a.isLit, b.isLit with
  | some x, some y => .lit (if y > x then y else x)
  | _, _ => .imax a b
def mkIfe (a b x y : T) : T :=
  match a.isLit, b.isLit with
  | some u, some v => if u = v then x else y
  | _, _ => if a.same b then x else .ife a b x y
def replaceAt (l : List T) (i : Nat) (vs : List T) : List T := l.take i ++ vs ++ l.drop (i + vs.length)

/-- The number of rows, where the form tells it. -/
def slen : T → Option Nat
  | .c0 .dnil => some 0
  | .c0 .rnil => some 1
  | .c2 .rcons _ _ => some 1
  | .c2 .drep n _ => match n.isLit with
    | some z => some z.toNat
    | none => none
  | .c2 .dapp a b => match slen a, slen b with
    | some n, some m => some (n + m)
    | _, _ => none
  | .c3 (.dput _) d _ _ => slen d
  | _ => none
/-- The cells of a row, where the form tells them. -/
def rowList : T → Option (List T)
  | .c0 .rnil => some []
  | .c2 .rcons v r => match rowList r with
    | some ts => some (v :: ts)
    | none => none
  | _ => none
def rowAt : T → Nat → Option (List T)
  | .c0 .rnil, 0 => some []
  | .c2 .rcons v r, 0 => rowList (.c2 .rcons v r)
  | .c2 .drep n r, i => match n.isLit with
    | some z => if Nat.blt i z.toNat then rowList r else none
    | none => none
  | .c2 .dapp a b, i => match slen a with
    | some n => if Nat.blt i n then rowAt a i else rowAt b (i - n)
    | none => none
  | .c3 (.dput c) d e r, i => match e.isLit, rowAt d i, rowList r with
    | some z, some ts, some vs => if Nat.beq z.toNat i then (if Nat.ble (c + vs.length) ts.length then some (replaceAt ts c vs) else none) else some ts
    | _, _, _ => none
  | _, _ => none
def statRow (d e : T) : Option (List T) :=
  match e.isLit with
  | some z => rowAt d z.toNat
  | none => none

def mkDlen0 : T → T
  | .c0 .dnil => .lit 0
  | .c2 .drep n r => .dlen (.drep n r)
  | .c3 (.dput _) d _ _ => mkDlen0 d
  | d => .dlen d
def mkDlen (d : T) : T :=
  match slen d with
  | some n => .lit (n : Int)
  | none => mkDlen0 d

/-- A number that is never negative, by its form. -/
def nonneg : T → Bool
  | .c0 (.lit z) => decide (0 ≤ z)
  | .c1 .dlen _ => true
  | .c2 .plus a b => nonneg a && nonneg b
  | .c2 .imin a b => nonneg a && nonneg b
  | _ => false
def mkLe0 (t : T) : T := if nonneg t then .bl true else mkCmp .leq (.lit 0) t

/-! ### The state -/

structure S where
  env : List (Nat × SV)
  heap : List SH
  ro : List SH
  pc : List (T × Bool)
  nx : Nat
  nt : Nat
  vw : List (List Nat × SH) := []
  deriving Inhabited

def lookE (t : Nat) : List (Nat × SV) → Option SV
  | [] => none
  | (k, v) :: r => if Nat.beq t k then some v else lookE t r
def putE (t : Nat) (v : SV) : List (Nat × SV) → List (Nat × SV)
  | [] => [(t, v)]
  | (k, u) :: r => if Nat.beq t k then (t, v) :: r else if Nat.blt t k then (t, v) :: (k, u) :: r else (k, u) :: putE t v r
def delE (t : Nat) : List (Nat × SV) → List (Nat × SV)
  | [] => []
  | (k, u) :: r => if Nat.beq t k then delE t r else (k, u) :: delE t r

/-- Whether a condition is known: as a constant, or by the way's tests. -/
def lookP (c : T) : List (T × Bool) → Option Bool
  | [] => none
  | (k, b) :: r => if c.same k then some b else lookP c r
def known (c : T) (pc : List (T × Bool)) : Option Bool :=
  match c with
  | .c0 (.bl b) => some b
  | .c1 .not a => (lookP a pc).map (!·)
  | c => lookP c pc

def ofCell : Value → Option T
  | .int k n => some (.vint k (.lit n))
  | .bool b => some (.vbool (.bl b))
  | .pointer none => some .vnilp
  | .slice none 0 0 => some .vnils
  | .nilFunc => some .vnilf
  | .string s => some (.vstr s.data.toList)
  | _ => none
def ofCells : List Value → Option (List T)
  | [] => some []
  | v :: r => match ofCell v, ofCells r with
    | some t, some ts => some (t :: ts)
    | _, _ => none
def ofValue : Value → Option SV
  | .agg cs => (ofCells cs.toList).map .agg
  | v => (ofCell v).map .one

def opd (s : S) : Operand → Option SV
  | .tmp t => lookE t s.env
  | .const v => ofValue v
  | .func f => some (.fn (.func f) [] [])
  | .global _ => none
def opds (s : S) : List Operand → Option (List SV)
  | [] => some []
  | x :: r => match opd s x, opds s r with
    | some v, some vs => some (v :: vs)
    | _, _ => none

def SV.cells : SV → Option (List T)
  | .one t => some [t]
  | .agg ts => some ts
  | _ => none
def cellsAll : List SV → Option (List T)
  | [] => some []
  | .one t :: r => (cellsAll r).map (t :: ·)
  | _ => none

/-! ### The type table -/

def aggP (P : Program) (t : TypeId) : Option Bool :=
  match P.underlying t with
  | some (.struct _) | some (.array _ _) => some true
  | some _ => some false
  | none => none
def sizeP (P : Program) (t : TypeId) : Option Nat := (P.info? t).map (·.size)
def zeroP (P : Program) (t : TypeId) : Option (List T) :=
  match (P.info? t).bind (·.zero) with
  | some v => ofCells v.cells.toList
  | none => none
def fieldP (P : Program) (t : TypeId) (f : Nat) : Option (Nat × TypeId) :=
  match P.underlying t with
  | some (.struct fs) =>
    match fs[f]? with
    | some x =>
      match sizeP P x.type with
      | some (_ + 1) => some (x.offset, x.type)
      | _ => none
    | none => none
  | _ => none

def heapAt (r : Nat) : List SH → Option (Nat × SH)
  | [] => none
  | .cells r' ty cs :: l => if Nat.beq r r' then some (0, .cells r' ty cs) else (heapAt r l).map fun (k, x) => (k + 1, x)
  | .arr r' ty pat d cap :: l => if Nat.beq r r' then some (0, .arr r' ty pat d cap) else (heapAt r l).map fun (k, x) => (k + 1, x)
  | .abs _ _ :: l => (heapAt r l).map fun (k, x) => (k + 1, x)

/-- The cells c, c + 1, .. of row e, each by its kind. -/
def rowCells (d e : T) : List CK → Nat → List T
  | [], _ => []
  | .int k :: r, c => .vint k (.icell d e c) :: rowCells d e r (c + 1)
  | .bool :: r, c => .vbool (.bcell d e c) :: rowCells d e r (c + 1)
  | .any :: r, c => .vcell d e c :: rowCells d e r (c + 1)

def SH.reg : SH → Option Nat
  | .cells r .. => some r
  | .arr r .. => some r
  | .abs _ _ => none
def absIn (n : Nat) : List SH → Bool
  | [] => false
  | .abs m _ :: l => Nat.beq n m || absIn n l
  | _ :: l => absIn n l
/-- Whether a piece of memory is still at hand. -/
def S.piece (s : S) (n : Nat) : Bool := absIn n s.heap || absIn n s.ro
def regIs (r : Nat) (x : SH) : Bool :=
  match x.reg with
  | some q => Nat.beq r q
  | none => false
def vwAt (s : S) (r : Nat) : List (List Nat × SH) → Option (Nat × SH)
  | [] => none
  | (ms, x) :: l => if regIs r x && ms.all s.piece then some (0, x) else vwAt s r l
def S.look (s : S) (r : Nat) : Option (Nat × SH) := ((heapAt r s.heap).orElse (fun _ => heapAt r s.ro)).orElse (fun _ => vwAt s r s.vw)

/-- What is read at a place: the cells, and what must be true. -/
def readH (x : SH) (e : T) (p c n : Nat) : Option (List T × List T) :=
  match x with
  | .cells _ _ cs =>
    match e.isLit with
    | some z => if 0 ≤ z ∧ z.toNat * p + c + n ≤ cs.length then some ((cs.drop (z.toNat * p + c)).take n, []) else none
    | none => none
  | .arr _ _ pat d _ =>
    if Nat.beq p pat.length && Nat.ble (c + n) p then
      match statRow d e with
      | some ts => some ((ts.drop c).take n, [])
      | none => some (rowCells d e ((pat.drop c).take n) c, [mkLe0 e, mkCmp .lss e (mkDlen d)])
    else none
  | .abs _ _ => none

def fitsT : CK → T → Bool
  | .int k, .c1 (.vint k') _ => decide (k = k')
  | .bool, .c1 .vbool _ => true
  | .any, .c1 (.vptr _ _ _) _ => true
  | .any, .c0 .vnilp => true
  | .any, .c0 .vnils => true
  | .any, .c3 (.vslice _ _) _ _ _ => true
  | _, _ => false
def fitsTs : List CK → List T → Bool
  | _, [] => true
  | k :: ks, t :: ts => fitsT k t && fitsTs ks ts
  | [], _ :: _ => false

def writeH (x : SH) (e : T) (p c : Nat) (vs : List T) : Option (SH × List T) :=
  match x with
  | .cells r ty cs =>
    match e.isLit with
    | some z => if 0 ≤ z ∧ z.toNat * p + c + vs.length ≤ cs.length then some (.cells r ty (replaceAt cs (z.toNat * p + c) vs), []) else none
    | none => none
  | .arr r ty pat d cap =>
    if Nat.beq p pat.length && Nat.ble (c + vs.length) p && fitsTs (pat.drop c) vs then
      some (.arr r ty pat (.dput d e c (T.row vs)) cap, [mkLe0 e, mkCmp .lss e (mkDlen d)]) else none
  | .abs _ _ => none

/-! ### One operation -/

/-- What one operation comes to: what must be true; how many new variables; the heap; the value. -/
structure R1 where
  needs : List T
  fresh : Nat
  heap : List SH
  val : Option SV
  deriving Inhabited

def quiet (s : S) (v : SV) : R1 := { needs := [], fresh := 0, heap := s.heap, val := some v }

/-- What tells that a place is no nil: nothing, if its block is known; else that the row is there. -/
def there (s : S) (r : Nat) (e : T) : List T :=
  match s.look r with
  | some (_, .cells ..) => []
  | some (_, .arr _ _ _ d _) => [mkLe0 e, mkCmp .lss e (mkDlen d)]
  | _ => [.not (.isnil r)]

def fillT (place : Nat → Option (Nat × Nat)) (cells : List T) : List (Nat × List T) → Option (List T)
  | [] => some cells
  | (i, vs) :: rest =>
    match place i with
    | none => none
    | some (off, size) => if Nat.beq vs.length size && Nat.ble (off + vs.length) cells.length then fillT place (replaceAt cells off vs) rest else none

def partsT (s : S) : List (Nat × Operand) → Option (List (Nat × List T))
  | [] => some []
  | (i, x) :: r => match (opd s x).bind SV.cells, partsT s r with
    | some cs, some l => some ((i, cs) :: l)
    | _, _ => none

def placesOf (P : Program) : List Field → Option (List (Nat × Nat))
  | [] => some []
  | f :: fs => match P.info? f.type, placesOf P fs with
    | some i, some l => some ((f.offset, i.size) :: l)
    | _, _ => none
def placeP (P : Program) (t : TypeId) : Option (Nat → Option (Nat × Nat)) :=
  match P.underlying t with
  | some (.struct fs) => (placesOf P fs.toList).map fun l => fun i => l[i]?
  | some (.array _ e) => (sizeP P e).map fun n => fun i => some (i * n, n)
  | _ => none

def repeatT (zero : List T) : Nat → List T
  | 0 => []
  | n + 1 => zero ++ repeatT zero n

/-- The kinds of the cells of a row, by its zero. -/
def kindOf : T → CK
  | .c1 (.vint k) _ => .int k
  | .c1 .vbool _ => .bool
  | _ => .any

/-- Whether a pointer to a place of this region is nil. -/
def nilT (s : S) (r : Nat) : T :=
  match s.look r with
  | some (_, .cells ..) => .bl false
  | some (_, .arr _ _ _ d _) => mkAnd (mkCmp .eql (mkDlen d) (.lit 0)) (.isnil r)
  | _ => .isnil r

/-- Structs compared: the fields one after another. -/
def eqFs (P : Program) (f : TypeId → List T → List T → Option T) (cs ds : List T) : List Field → Option T
  | [] => some (.bl true)
  | x :: fs =>
    if x.name ≠ "_" then
      match aggP P x.type, sizeP P x.type, eqFs P f cs ds fs with
      | some ag, some n, some r =>
        if (ag || Nat.beq n 1) && Nat.ble (x.offset + n) cs.length && Nat.ble (x.offset + n) ds.length then
          (f x.type ((cs.drop x.offset).take n) ((ds.drop x.offset).take n)).map fun a => mkAnd a r
        else none
      | _, _, _ => none
    else eqFs P f cs ds fs
def eqT (P : Program) : Nat → TypeId → List T → List T → Option T
  | 0, _, _, _ => none
  | n + 1, t, cs, ds =>
    match P.underlying t with
    | some (.int _) => match cs, ds with
      | [.c1 (.vint k) a], [.c1 (.vint k') b] => if k = k' then some (mkCmp .eql a b) else none
      | _, _ => none
    | some .bool => match cs, ds with
      | [.c1 .vbool a], [.c1 .vbool b] => some (mkBeq a b)
      | _, _ => none
    | some (.struct fs) => if P.stoodInHeld t then none else eqFs P (eqT P n) cs ds fs.toList
    | _ => none
def eqAgg (P : Program) (t : TypeId) (cs ds : List T) : Option T :=
  if P.eqGuardType P.depth t then none else
  match P.underlying t with
  | some (.struct _) => eqT P 8 t cs ds
  | _ => none

def stepBin (op : BinOp) (P : Program) (ty : TypeId) (s : S) (x y : SV) : Option R1 :=
  match x, y with
  | .one (.c1 (.vint k) a), .one (.c1 (.vint k') b) =>
    match op with
    | .shl | .shr => some { quiet s (.one (.vint k (mkArith op k a b))) with needs := [mkCmp .geq b (.lit 0)] }
    | .quo | .rem => if k = k' then some { quiet s (.one (.vint k (mkArith op k a b))) with needs := [mkCmp .neq b (.lit 0)] } else none
    | .add | .sub | .mul | .and | .or | .xor | .andNot => if k = k' then some (quiet s (.one (.vint k (mkArith op k a b)))) else none
    | .eql | .neq | .lss | .leq | .gtr | .geq => if k = k' then some (quiet s (.one (.vbool (mkCmp op a b)))) else none
  | .one (.c1 .vbool a), .one (.c1 .vbool b) =>
    match op, P.underlying ty with
    | .eql, some .bool => some (quiet s (.one (.vbool (mkBeq a b))))
    | .neq, some .bool => some (quiet s (.one (.vbool (mkNot (mkBeq a b)))))
    | _, _ => none
  | .one (.c1 (.vptr r _ _) _), .one (.c0 .vnilp) =>
    match op, P.underlying ty with
    | .eql, some (.pointer _) => some (quiet s (.one (.vbool (nilT s r))))
    | .neq, some (.pointer _) => some (quiet s (.one (.vbool (mkNot (nilT s r)))))
    | _, _ => none
  | .one (.c0 .vnilp), .one (.c0 .vnilp) =>
    match op, P.underlying ty with
    | .eql, some (.pointer _) => some (quiet s (.one (.vbool (.bl true))))
    | .neq, some (.pointer _) => some (quiet s (.one (.vbool (.bl false))))
    | _, _ => none
  | .one (.c3 (.vslice r _) _ _ _), .one (.c0 .vnils) =>
    match op, P.underlying ty with
    | .eql, some (.slice _) => some (quiet s (.one (.vbool (nilT s r))))
    | .neq, some (.slice _) => some (quiet s (.one (.vbool (mkNot (nilT s r)))))
    | _, _ => none
  | .one (.c0 .vnils), .one (.c0 .vnils) =>
    match op, P.underlying ty with
    | .eql, some (.slice _) => some (quiet s (.one (.vbool (.bl true))))
    | .neq, some (.slice _) => some (quiet s (.one (.vbool (.bl false))))
    | _, _ => none
  | .agg cs, .agg ds =>
    match op, eqAgg P ty cs ds with
    | .eql, some c => some (quiet s (.one (.vbool c)))
    | .neq, some c => some (quiet s (.one (.vbool (mkNot c))))
    | _, _ => none
  | _, _ => none

def bytesP (P : Program) (t : TypeId) : Option Nat := (P.info? t).map (·.bytes)

/-- The rows that a list of cells makes, p cells each. -/
def rowsLit (pat : List CK) (p : Nat) : Nat → List T → Option T
  | 0, [] => some .dnil
  | 0, _ :: _ => none
  | n + 1, cs =>
    if Nat.ble p cs.length && fitsTs pat (cs.take p) then
      match rowsLit pat p n (cs.drop p) with
      | some r => some (match n with | 0 => T.row (cs.take p) | _ => .dapp (T.row (cs.take p)) r)
      | none => none
    else none

/-- A slice as rows: what it holds (from its head, to its length), its length, its capacity; where it lies among what is owned; what must be true. -/
structure Src where
  d : T
  len : T
  needs : List T
  deriving Inhabited

def srcOf (s : S) (pat : List CK) (x : SV) : Option Src :=
  match x with
  | .one (.c0 .vnils) => some ⟨.dnil, .lit 0, []⟩
  | .one (.c3 (.vslice r p) off len _) =>
    if !(Nat.beq p pat.length) then none else
    match s.look r with
    | some (_, .cells _ _ cs) =>
      match off.isLit, len.isLit with
      | some 0, some n =>
        if 0 ≤ n ∧ n.toNat * p ≤ cs.length then (rowsLit pat p n.toNat (cs.take (n.toNat * p))).map fun d => ⟨d, len, []⟩ else none
      | _, _ => none
    | some (_, .arr _ _ pat' d _) =>
      if !(decide (pat' = pat)) then none else
      match off.isLit with
      | some 0 => if len.same (mkDlen d) then some ⟨d, len, []⟩ else some ⟨.dtake d len, len, [mkLe0 len, mkCmp .leq len (mkDlen d)]⟩
      | _ => some ⟨.dtake (.ddrop d off) len, len, [mkLe0 off, mkLe0 len, mkCmp .leq (mkPlus off len) (mkDlen d)]⟩
    | _ => none
  | _ => none

/-- The slice that is appended to: its rows, its length and capacity, its place among what is owned. -/
def dstOf (s : S) (ty : TypeId) (pat : List CK) (x : SV) : Option (T × T × Option Nat × List T) :=
  match x with
  | .one (.c0 .vnils) => some (.dnil, .lit 0, none, [])
  | .one (.c3 (.vslice r p) off len cap) =>
    if !(Nat.beq p pat.length) then none else
    match off.isLit, heapAt r s.heap with
    | some 0, some (k, .arr _ ty' pat' d cap') =>
      if Nat.beq ty ty' && decide (pat' = pat) then some (d, len, some k, [mkCmp .eql len (mkDlen d), mkCmp .eql cap cap']) else none
    | some 0, some (k, .cells _ ty' []) =>
      if Nat.beq ty ty' then some (.dnil, .lit 0, some k, [mkCmp .eql len (.lit 0), mkCmp .eql cap (.lit 0)]) else none
    | _, _ => none
  | _ => none

def T.inB (n : Nat) : T → Bool
  | .var m => Nat.blt m n
  | .c0 (.isnil r) => Nat.blt r n
  | .c0 _ => true
  | .c1 (.vptr r _ _) a => Nat.blt r n && a.inB n
  | .c1 _ a => a.inB n
  | .c2 _ a b => a.inB n && b.inB n
  | .c3 (.vslice r _) a b c => Nat.blt r n && a.inB n && b.inB n && c.inB n
  | .c3 _ a b c => a.inB n && b.inB n && c.inB n
  | .ife a b x y => a.inB n && b.inB n && x.inB n && y.inB n

def SH.inNx0 (n : Nat) : SH → Bool
  | .cells r _ cs => Nat.blt r n && cs.all (T.inB n)
  | .arr r _ _ d cap => Nat.blt r n && d.inB n && cap.inB n
  | .abs m _ => Nat.blt m n

def mkApp (a b : T) : T :=
  match a with
  | .c0 .dnil => b
  | a => .dapp a b

def eraseO (l : List SH) : Option Nat → List SH
  | none => l
  | some k => l.eraseIdx k

def stepAppend (P : Program) (s : S) (t : TypeId) (x y : SV) : Option R1 :=
  match P.underlying t with
  | some (.slice el) =>
    match zeroP P el, sizeP P el, bytesP P el with
    | some z, some n, some bz =>
      if Nat.beq z.length n && Nat.blt 0 n && Nat.blt 0 bz then
        match dstOf s el (z.map kindOf) x, srcOf s (z.map kindOf) y with
        | some (d, len, k, n1), some src => if !((mkApp d src.d).inB s.nx && (mkPlus len src.len).inB s.nx) then none else some { needs := n1 ++ src.needs ++ [mkCmp .leq (.tims (.lit bz) (mkPlus len src.len)) (.lit 140737488355328)], fresh := 2, heap := .arr s.nx el (z.map kindOf) (mkApp d src.d) (.var (s.nx + 1)) :: eraseO s.heap k, val := some (.one (.vslice s.nx (.lit 0) (mkPlus len src.len) (.var (s.nx + 1)) n)) }
        | _, _ => none
      else none
    | _, _, _ => none
  | _ => none

def stepMake (P : Program) (s : S) (t : TypeId) (l c : SV) : Option R1 :=
  match P.underlying t, l, c with
  | some (.slice el), .one (.c1 (.vint _) l), .one (.c1 (.vint _) c) =>
    match zeroP P el, sizeP P el, bytesP P el with
    | some z, some n, some bz =>
      if Nat.beq z.length n && Nat.blt 0 n && Nat.blt 0 bz then
        some { needs := [mkLe0 l, mkCmp .leq l c, mkCmp .leq (.tims (.lit bz) c) (.lit 281474976710656)], fresh := 1, heap := .arr s.nx el (z.map kindOf) (.drep l (T.row z)) c :: s.heap, val := some (.one (.vslice s.nx (.lit 0) l c n)) }
      else none
    | _, _, _ => none
  | _, _, _ => none

def boundOf (s : S) (dflt : T) : Option Operand → Option T
  | none => some dflt
  | some x => match opd s x with
    | some (.one (.c1 (.vint _) t)) => some t
    | _ => none

def cutOff (l m off : T) : T :=
  match l.isLit with
  | some 0 => off
  | _ => mkIfe m l off (mkPlus off l)

def stepSlice (P : Program) (s : S) (t : TypeId) (x : SV) (lo hi mx : Option Operand) : Option R1 :=
  match P.underlying t, x with
  | some (.slice el), .one (.c0 .vnils) =>
    match sizeP P el, boundOf s (.lit 0) lo, boundOf s (.lit 0) hi, boundOf s (.lit 0) mx with
    | some _, some (.c0 (.lit 0)), some (.c0 (.lit 0)), some (.c0 (.lit 0)) => if mx.isNone || hi.isSome then some (quiet s (.one .vnils)) else none
    | _, _, _, _ => none
  | some (.slice el), .one (.c3 (.vslice r p) off len cap) =>
    match sizeP P el, boundOf s (.lit 0) lo, boundOf s len hi, boundOf s cap mx with
    | some n, some l, some h, some m =>
      if Nat.beq n p && (mx.isNone || hi.isSome) then
        some { quiet s (.one (.vslice r (cutOff l m off) (mkMinus h l) (mkMinus m l) p)) with
          needs := [mkLe0 off, mkLe0 len, mkLe0 cap, mkLe0 l, mkCmp .leq l h, mkCmp .leq h m, mkCmp .leq m cap] }
      else none
    | _, _, _, _ => none
  | _, _ => none

def stepOp (P : Program) (s : S) (o : Oper) : Option R1 :=
  match o.op with
  | .call { callee := .builtin .append, args, argTypes } =>
    match args.toList, argTypes.toList with
    | [x, y], [t, t2] =>
      if Nat.beq t t2 then
        match opd s x, opd s y with
        | some a, some b => stepAppend P s t a b
        | _, _ => none
      else none
    | _, _ => none
  | .makeSlice t l c =>
    match opd s l, opd s c with
    | some a, some b => stepMake P s t a b
    | _, _ => none
  | .slice t x lo hi mx =>
    match opd s x with
    | some a => stepSlice P s t a lo hi mx
    | none => none
  | .move x | .assign x => (opd s x).map (quiet s)
  | .pick c a b =>
    match opd s c with
    | some (.one (.c1 .vbool t)) =>
      match known t s.pc with
      | some true => (opd s a).map (quiet s)
      | some false => (opd s b).map (quiet s)
      | none => none
    | _ => none
  | .box ty x =>
    match (opd s x).bind SV.cells with
    | some cs => some { needs := [], fresh := 1, heap := .cells s.nx ty cs :: s.heap, val := some (.one (.vptr s.nx (.lit 0) 0 0)) }
    | none => none
  | .alloc ty =>
    match zeroP P ty with
    | some cs => some { needs := [], fresh := 1, heap := .cells s.nx ty cs :: s.heap, val := some (.one (.vptr s.nx (.lit 0) 0 0)) }
    | none => none
  | .build t parts =>
    match zeroP P t, placeP P t, partsT s parts.toList with
    | some z, some pl, some ps => (fillT pl z ps).map fun cs => quiet s (.agg cs)
    | _, _, _ => none
  | .buildSlice t len parts =>
    match P.underlying t with
    | some (.slice el) =>
      match zeroP P el, sizeP P el, partsT s parts.toList with
      | some z, some n, some ps =>
        if Nat.beq z.length n && Nat.blt 0 n && Nat.ble (len * n) 16777216 then
          match fillT (fun i => some (i * n, n)) (repeatT z len) ps with
          | some cs => some { needs := [], fresh := 1, heap := .cells s.nx el cs :: s.heap, val := some (.one (.vslice s.nx (.lit 0) (.lit len) (.lit len) n)) }
          | none => none
        else none
      | _, _, _ => none
    | _ => none
  | .load t a =>
    match opd s a, aggP P t, sizeP P t with
    | some (.one (.c1 (.vptr r p c) e)), some ag, some n =>
      match s.look r with
      | some (_, x) =>
        match readH x e p c n with
        | some (cs, needs) => if ag then some { quiet s (.agg cs) with needs } else
          match cs with
          | [t] => some { quiet s (.one t) with needs }
          | _ => none
        | none => none
      | none => none
    | _, _, _ => none
  | .store t a v =>
    match opd s a, (opd s v).bind SV.cells, sizeP P t with
    | some (.one (.c1 (.vptr r p c) e)), some vs, some n =>
      if Nat.beq vs.length n then
        match heapAt r s.heap with
        | some (k, x) => (writeH x e p c vs).map fun (x', needs) => { needs, fresh := 0, heap := s.heap.set k x', val := none }
        | none => none
      else none
    | _, _, _ => none
  | .nilCheck x =>
    match opd s x with
    | some (.one (.c1 (.vptr r p c) e)) => some { quiet s (.one (.vptr r e p c)) with needs := there s r e }
    | _ => none
  | .binOp op ty x y _ =>
    match opd s x, opd s y with
    | some a, some b => stepBin op P ty s a b
    | _, _ => none
  | .unOp op _ x =>
    match op, opd s x with
    | .not, some (.one (.c1 .vbool t)) => some (quiet s (.one (.vbool (mkNot t))))
    | .neg, some (.one (.c1 (.vint k) t)) => some (quiet s (.one (.vint k (mkArith .sub k (.lit 0) t))))
    | _, _ => none
  | .convert src dst x =>
    match P.underlying src, P.underlying dst, opd s x with
    | some _, some (.int k), some (.one (.c1 (.vint _) t)) => some (quiet s (.one (.vint k (mkConv k t))))
    | _, _, _ => none
  | .fieldAddr t x f =>
    match opd s x, fieldP P t f with
    | some (.one (.c1 (.vptr r p c) e)), some (off, _) => some { quiet s (.one (.vptr r e p (c + off))) with needs := there s r e }
    | _, _ => none
  | .field t x f =>
    match opd s x, fieldP P t f with
    | some (.agg cs), some (off, u) =>
      match aggP P u, sizeP P u with
      | some true, some n => if Nat.ble (off + n) cs.length then some (quiet s (.agg ((cs.drop off).take n))) else none
      | some false, _ => (cs[off]?).map fun t => quiet s (.one t)
      | _, _ => none
    | _, _ => none
  | .indexAddr t x i =>
    match P.underlying t, opd s x, opd s i with
    | some (.slice el), some (.one (.c3 (.vslice r p) off len _)), some (.one (.c1 (.vint _) j)) =>
      match sizeP P el with
      | some n => if Nat.beq n p then some { quiet s (.one (.vptr r (mkPlus off j) p 0)) with
          needs := [mkLe0 j, mkCmp .lss j len, mkLe0 off] ++ there s r (mkPlus off j) } else none
      | none => none
    | some (.array m el), some (.one (.c1 (.vptr r p c) e)), some (.one (.c1 (.vint _) j)) =>
      match sizeP P el, j.isLit with
      | some n, some z => if 0 ≤ z ∧ z < m then some { quiet s (.one (.vptr r e p (c + z.toNat * n))) with needs := there s r e } else none
      | _, _ => none
    | _, _, _ => none
  | .extract x i =>
    match opd s x with
    | some (.tup vs) =>
      match vs[i]? with
      | some (true, ts) => some (quiet s (.agg ts))
      | some (false, [t]) => some (quiet s (.one t))
      | _ => none
    | _ => none
  | .makeFunc fn first captured =>
    match (opds s first.toList).bind cellsAll, (opds s captured.toList).bind cellsAll with
    | some a, some b => some (quiet s (.fn fn a b))
    | _, _ => none
  | .call { callee := .builtin .len, args, argTypes } =>
    match (argTypes[0]?).bind P.underlying, args.toList with
    | some (.slice _), [x] =>
      match opd s x with
      | some (.one (.c3 (.vslice _ _) _ len _)) => some { quiet s (.one (.vint .i64 len)) with needs := [mkLe0 len] }
      | some (.one (.c0 .vnils)) => some (quiet s (.one (.vint .i64 (.lit 0))))
      | _ => none
    | _, _ => none
  | .call { callee := .builtin .min, args, .. } =>
    match opds s args.toList with
    | some [.one (.c1 (.vint k) a), .one (.c1 (.vint _) b)] => some (quiet s (.one (.vint k (mkMin a b))))
    | _ => none
  | .call { callee := .builtin .max, args, .. } =>
    match opds s args.toList with
    | some [.one (.c1 (.vint k) a), .one (.c1 (.vint _) b)] => some (quiet s (.one (.vint k (mkMax a b))))
    | _ => none
  | _ => none

/-! ### Operations that write where other slices look on -/

/-- One row is appended where there is room: it is written behind the slice's rows. -/
def stepInpl (P : Program) (s : S) (t : TypeId) (x y : SV) : Option R1 :=
  match P.underlying t, x with
  | some (.slice el), .one (.c3 (.vslice r p) off len cap) =>
    match zeroP P el, sizeP P el, bytesP P el with
    | some z, some n, some _ =>
      if Nat.beq z.length n && Nat.blt 0 n && Nat.beq n p then
        match off.isLit, heapAt r s.heap, srcOf s (z.map kindOf) y with
        | some 0, some (k, .arr rr ty pat d capA), some src =>
          match slen src.d, rowAt src.d 0 with
          | some 1, some ts =>
            if Nat.beq ts.length n && decide (pat = z.map kindOf) then
              match writeH (.arr rr ty pat d capA) len n 0 ts with
              | some (x', ns) =>
                if (s.heap.set k x').all (SH.inNx0 s.nx) && (mkPlus len (.lit 1)).inB s.nx && cap.inB s.nx && Nat.blt r s.nx then
                  some { needs := mkCmp .leq (mkPlus len (.lit 1)) cap :: mkCmp .eql src.len (.lit 1) :: ns ++ src.needs, fresh := 1, heap := s.heap.set k x', val := some (.one (.vslice r (.lit 0) (mkPlus len (.lit 1)) cap p)) }
                else none
              | none => none
            else none
          | _, _ => none
        | _, _, _ => none
      else none
    | _, _, _ => none
  | _, _ => none

/-- What a slice covers is cleared: its block's rows are known up to there. -/
def stepClear (P : Program) (s : S) (t : TypeId) (x : SV) : Option R1 :=
  match P.underlying t, x with
  | some (.slice el), .one (.c3 (.vslice r p) off len _) =>
    match zeroP P el, sizeP P el with
    | some z, some n =>
      if Nat.beq z.length n && Nat.blt 0 n && Nat.beq n p then
        match heapAt r s.heap with
        | some (k, .arr rr ty pat d capA) =>
          if Nat.beq pat.length p && (s.heap.set k (.arr rr ty pat (.dtake d (mkIfe len (.lit 0) (mkDlen d) off)) capA)).all (SH.inNx0 s.nx) then
            some { needs := [mkLe0 off, mkLe0 len, mkCmp .leq (mkPlus off len) (mkDlen d)], fresh := 1, heap := s.heap.set k (.arr rr ty pat (.dtake d (mkIfe len (.lit 0) (mkDlen d) off)) capA), val := some (.tup []) }
          else none
        | _ => none
      else none
    | _, _ => none
  | _, _ => none

def lookN (t : Nat) : List (Nat × Nat) → Option Nat
  | [] => none
  | (k, v) :: r => if Nat.beq t k then some v else lookN t r
def dstIs (o : Oper) (ip : List (Nat × Nat)) (m : Nat) : Bool :=
  match o.dst with
  | some t => match lookN t ip with
    | some k => Nat.beq k m
    | none => false
  | none => false
/-- A block of which only the rows that the slice holds are kept in mind. -/
def shrinkS (ip : List (Nat × Nat)) (s : S) (o : Oper) : S :=
  match o.op with
  | .call { callee := .builtin .append, args, .. } =>
    if dstIs o ip 1 then
      match args.toList with
      | x :: _ =>
        match opd s x with
        | some (.one (.c3 (.vslice r _) _ len _)) =>
          match heapAt r s.heap with
          | some (k, .arr rr ty pat d cap) => { s with heap := s.heap.set k (.arr rr ty pat (.dtake d len) cap) }
          | _ => s
        | _ => s
      | [] => s
    else s
  | _ => s

/-- One operation, those of this page among them; 'ip' names the temporaries of appends in place. -/
def stepX (P : Program) (ip : List (Nat × Nat)) (s : S) (o : Oper) : Option R1 :=
  match o.op with
  | .call { callee := .builtin .append, args, argTypes } =>
    if dstIs o ip 0 then
      match args.toList, argTypes.toList with
      | [x, y], [t, t2] =>
        if Nat.beq t t2 then
          match opd s x, opd s y with
          | some a, some b => stepInpl P s t a b
          | _, _ => none
        else none
      | _, _ => none
    else stepOp P s o
  | .call { callee := .builtin .clear, args, argTypes } =>
    match args.toList, argTypes.toList with
    | [x], [t] =>
      match opd s x with
      | some a => stepClear P s t a
      | none => none
    | _, _ => none
  | _ => stepOp P s o

end Go.Eng
