/- The symbolic engine: matching, contracts, loops, and the walk over a whole body. -/
import Derived.Test.YtlmkkphojjodhaaE2
import Derived.OrdersHeld
import Derived.Deep.RegionHeld3
set_option linter.unusedSimpArgs false
set_option linter.unusedVariables false
namespace Go.Eng
open Go

/-! ### Patterns: a variable from 'th' on is one to be bound; below it stands for itself -/

inductive Bd where
  | t (t : T)
  | r (r : Nat)
  | nil
  deriving Inhabited

structure Sg where
  th : Nat
  bd : List (Nat × Bd)
  eqI : List (T × T)     -- to be equal, as numbers, when all is bound
  eqB : List (T × T)
  eqD : List (T × T)
  deriving Inhabited

def look (n : Nat) : List (Nat × Bd) → Option Bd
  | [] => none
  | (k, b) :: r => if Nat.beq n k then some b else look n r

/-- The region that stands for a region of a pattern. -/
def Sg.reg (σ : Sg) (r : Nat) : Option Nat :=
  if Nat.blt r σ.th then some r else
  match look r σ.bd with
  | some (.r r') => some r'
  | _ => none

/-- A term with what is bound put in. -/
def Sg.sub (σ : Sg) : T → Option T
  | .var n => if Nat.blt n σ.th then some (.var n) else
    match look n σ.bd with
    | some (.t t) => some t
    | some (.r m) => some (.var m)
    | _ => none
  | .c0 (.isnil r) =>
    if Nat.blt r σ.th then some (.isnil r) else
    match look r σ.bd with
    | some (.r r') => some (.isnil r')
    | some .nil => some (.bl true)
    | _ => none
  | .c0 o => some (.c0 o)
  | .c1 (.vptr r p c) a =>
    match σ.reg r, σ.sub a with
    | some r', some a' => some (.vptr r' a' p c)
    | _, _ => none
  | .c1 o a => (σ.sub a).map (.c1 o)
  | .c2 o a b =>
    match σ.sub a, σ.sub b with
    | some a', some b' => some (.c2 o a' b')
    | _, _ => none
  | .c3 (.vslice r p) a b c =>
    match σ.reg r, σ.sub a, σ.sub b, σ.sub c with
    | some r', some a', some b', some c' => some (.vslice r' a' b' c' p)
    | _, _, _, _ => none
  | .c3 o a b c =>
    match σ.sub a, σ.sub b, σ.sub c with
    | some a', some b', some c' => some (.c3 o a' b' c')
    | _, _, _ => none
  | .ife a b x y =>
    match σ.sub a, σ.sub b, σ.sub x, σ.sub y with
    | some a', some b', some x', some y' => some (.ife a' b' x' y')
    | _, _, _, _ => none

def Sg.bind (σ : Sg) (n : Nat) (b : Bd) : Sg := { σ with bd := (n, b) :: σ.bd }

/-- A number, a Bool, rows: bound at once or left to be compared. -/
def mI (p a : T) (σ : Sg) : Sg :=
  match p with
  | .var n => if !(Nat.blt n σ.th) && (look n σ.bd).isNone then σ.bind n (.t a) else { σ with eqI := (p, a) :: σ.eqI }
  | p => { σ with eqI := (p, a) :: σ.eqI }
def mB (p a : T) (σ : Sg) : Sg :=
  match p with
  | .var n => if !(Nat.blt n σ.th) && (look n σ.bd).isNone then σ.bind n (.t a) else { σ with eqB := (p, a) :: σ.eqB }
  | p => { σ with eqB := (p, a) :: σ.eqB }
def mR (p a : Nat) (σ : Sg) : Option Sg :=
  if Nat.blt p σ.th then (if Nat.beq p a then some σ else none) else
  match look p σ.bd with
  | none => some (σ.bind p (.r a))
  | some (.r a') => if Nat.beq a a' then some σ else none
  | _ => none
def mNil (p : Nat) (σ : Sg) : Option Sg :=
  if Nat.blt p σ.th then none else
  match look p σ.bd with
  | none => some (σ.bind p .nil)
  | some .nil => some σ
  | _ => none

/-- One cell. -/
def mV (p a : T) (σ : Sg) : Option Sg :=
  match p, a with
  | .c1 (.vint k) x, .c1 (.vint k') y => if k = k' then some (mI x y σ) else none
  | .c1 .vbool x, .c1 .vbool y => some (mB x y σ)
  | .c1 (.vptr r p c) e, .c1 (.vptr r' p' c') e' => if p = p' ∧ c = c' then (mR r r' σ).map (mI e e') else none
  | .c3 (.vslice r p) o l c, .c3 (.vslice r' p') o' l' c' => if p = p' then (mR r r' σ).map fun σ => mI c c' (mI l l' (mI o o' σ)) else none
  | .c3 (.vslice r _) o l c, .c0 .vnils => (mNil r σ).map fun σ => mI c (.lit 0) (mI l (.lit 0) (mI o (.lit 0) σ))
  | .c0 .vnilp, .c0 .vnilp => some σ
  | .c0 .vnils, .c0 .vnils => some σ
  | .var n, a => if !(Nat.blt n σ.th) && (look n σ.bd).isNone then some (σ.bind n (.t a)) else if Nat.blt n σ.th && (T.var n).same a then some σ else none
  | _, _ => none
def mVs : List T → List T → Sg → Option Sg
  | [], [], σ => some σ
  | p :: ps, a :: as, σ => (mV p a σ).bind (mVs ps as)
  | _, _, _ => none
/-- Rows: bound at once; or cell by cell, where both are told by their form; or left to be compared. -/
def mRw : T → T → Sg → Option Sg
  | .c2 .rcons v r, .c2 .rcons v' r', σ => (mV v v' σ).bind (mRw r r')
  | .c0 .rnil, .c0 .rnil, σ => some σ
  | _, _, _ => none
def mD : T → T → Sg → Sg
  | .var n, a, σ => if !(Nat.blt n σ.th) && (look n σ.bd).isNone then σ.bind n (.t a) else { σ with eqD := (.var n, a) :: σ.eqD }
  | .c3 (.dput c) d e r, .c3 (.dput c') d' e' r', σ =>
    if c = c' then
      match mRw r r' σ with
      | some σ1 => mI e e' (mD d d' σ1)
      | none => { σ with eqD := (.c3 (.dput c) d e r, .c3 (.dput c') d' e' r') :: σ.eqD }
    else { σ with eqD := (.c3 (.dput c) d e r, .c3 (.dput c') d' e' r') :: σ.eqD }
  | .c2 .dapp x y, .c2 .dapp x' y', σ => mD y y' (mD x x' σ)
  | .c2 .rcons v r, a, σ =>
    match mRw (.c2 .rcons v r) a σ with
    | some σ1 => σ1
    | none => { σ with eqD := (.c2 .rcons v r, a) :: σ.eqD }
  | p, a, σ => { σ with eqD := (p, a) :: σ.eqD }
def mSV (p a : SV) (σ : Sg) : Option Sg :=
  match p, a with
  | .one p, .one a => mV p a σ
  | .agg ps, .agg as => mVs ps as σ
  | .fn f a b, .fn f' a' b' => if f = f' then (mVs a a' σ).bind (mVs b b') else none
  | .tup ps, .tup as => mTup ps as σ
  | _, _ => none
where
  mTup : List (Bool × List T) → List (Bool × List T) → Sg → Option Sg
    | [], [], σ => some σ
    | (g, p) :: ps, (g', a) :: as, σ => if g = g' then (mVs p a σ).bind (mTup ps as) else none
    | _, _, _ => none
def mSVs : List SV → List SV → Sg → Option Sg
  | [], [], σ => some σ
  | p :: ps, a :: as, σ => (mSV p a σ).bind (mSVs ps as)
  | _, _, _ => none

/-- A heap assertion of a pattern is found among those at hand; it is taken away where it is owned. -/
def mH1 (p a : SH) (σ : Sg) : Option Sg :=
  match p, a with
  | .cells _ ty ps, .cells _ ty' as => if Nat.beq ty ty' then mVs ps as σ else none
  | .arr _ ty pat d cap, .arr _ ty' pat' d' cap' => if Nat.beq ty ty' && decide (pat = pat') then some (mI cap cap' (mD d d' σ)) else none
  | .arr _ ty pat d cap, .cells _ ty' as =>
    if Nat.beq ty ty' && Nat.blt 0 pat.length && Nat.beq (as.length % pat.length) 0 then
      match rowsLit pat pat.length (as.length / pat.length) as with
      | some D => some (mI cap (.lit ((as.length / pat.length : Nat) : Int)) (mD d D σ))
      | none => none
    else none
  | _, _ => none
def isNilBd : Option Bd → Bool
  | some .nil => true
  | _ => false
def SH.isAbs : SH → Option (Nat × Nat)
  | .abs n t => some (n, t)
  | _ => none
def absAt (t : Nat) : List SH → Option (Nat × Nat)
  | [] => none
  | .abs m t' :: l => if Nat.beq t t' then some (0, m) else (absAt t l).map fun (k, x) => (k + 1, x)
  | _ :: l => (absAt t l).map fun (k, x) => (k + 1, x)
def mHs (own : Bool) : List SH → List SH → List SH → Sg → Option (List SH × Sg)
  | [], h, _, σ => some (h, σ)
  | p :: ps, h, ro, σ =>
    match p.isAbs with
    | some (n, t) =>
      match absAt t h with
      | some (k, m) => (mR n m σ).bind (mHs own ps (if own then h.eraseIdx k else h) ro)
      | none => if own then none else
        match absAt t ro with
        | some (_, m) => (mR n m σ).bind (mHs own ps h ro)
        | none => none
    | none =>
    match p.reg with
    | none => none
    | some r =>
      if !(Nat.blt r σ.th) && isNilBd (look r σ.bd) then
        match p with
        | .arr _ _ _ d cap => mHs own ps h ro (mI cap (.lit 0) (mD d .dnil σ))
        | _ => none
      else
      match σ.reg r with
      | none => none
      | some r' =>
        match heapAt r' h with
        | some (k, a) => (mH1 p a σ).bind (mHs own ps (if own then h.eraseIdx k else h) ro)
        | none => if own then none else
          match heapAt r' ro with
          | some (_, a) => (mH1 p a σ).bind (mHs own ps h ro)
          | none => none

/-- What was left to be compared: the same text, or a condition. -/
def Sg.eqs (σ : Sg) (f : T → T → Option T) : List (T × T) → Option (List T)
  | [] => some []
  | (p, a) :: r =>
    match σ.sub p, σ.eqs f r with
    | some p', some cs => if p'.same a then some cs else
      match f p' a with
      | some c => some (c :: cs)
      | none => none
    | _, _ => none
def Sg.left (σ : Sg) : Option (List T) :=
  match σ.eqs (fun p a => some (mkCmp .eql p a)) σ.eqI, σ.eqs (fun p a => some (mkBeq p a)) σ.eqB, σ.eqs (fun _ _ => none) σ.eqD with
  | some a, some b, some c => some (a ++ b ++ c)
  | _, _, _ => none

/-- Values and heaps with what is bound put in. -/
def Sg.subs (σ : Sg) : List T → Option (List T)
  | [] => some []
  | t :: ts => match σ.sub t, σ.subs ts with
    | some a, some b => some (a :: b)
    | _, _ => none
def Sg.subSV (σ : Sg) : SV → Option SV
  | .one t => (σ.sub t).map .one
  | .agg ts => (σ.subs ts).map .agg
  | .tup vs => (tup vs).map .tup
  | .fn f a b => match σ.subs a, σ.subs b with
    | some x, some y => some (.fn f x y)
    | _, _ => none
where
  tup : List (Bool × List T) → Option (List (Bool × List T))
    | [] => some []
    | (g, ts) :: r => match σ.subs ts, tup r with
      | some a, some b => some ((g, a) :: b)
      | _, _ => none
def Sg.subH (σ : Sg) : SH → Option SH
  | .cells r ty cs => match σ.reg r, σ.subs cs with
    | some r', some cs' => some (.cells r' ty cs')
    | _, _ => none
  | .arr r ty pat d cap => match σ.reg r, σ.sub d, σ.sub cap with
    | some r', some d', some cap' => some (.arr r' ty pat d' cap')
    | _, _, _ => none
  | .abs n t => (σ.reg n).map fun m => .abs m t
def Sg.subHs (σ : Sg) : List SH → Option (List SH)
  | [] => some []
  | x :: r => match σ.subH x, σ.subHs r with
    | some a, some b => some (a :: b)
    | _, _ => none

/-! ### Contracts and loops -/

structure Alt where
  k : Nat                 -- how many new variables
  ret : SV
  heap : List SH
  post : Env → Prop

structure Ctr where
  fn : FuncId
  nv : Nat
  args : List SV
  heap : List SH
  ro : List SH
  pre : Env → Prop
  alts : List Alt
  ip : List (Nat × Nat) := []   -- appends: 0 in place, 1 to what is in the slice alone

/-- A loop's invariant: variables from 1000 on are the loop's own. -/
structure Inv where
  key : Nat
  nv : Nat
  env : List (Nat × SV)
  heap : List SH
  inv : Env → Prop
  mu : Env → Nat

def mEnv : List (Nat × SV) → List (Nat × SV) → Sg → Option Sg
  | [], _, σ => some σ
  | (t, p) :: ps, env, σ =>
    match lookE t env with
    | some a => (mSV p a σ).bind (mEnv ps env)
    | none => none

/-- New variables get their numbers. -/
def newBd (from_ base : Nat) : Nat → List (Nat × Bd)
  | 0 => []
  | k + 1 => (from_ + k, .r (base + k)) :: newBd from_ base k
def Sg.subEnv (σ : Sg) : List (Nat × SV) → Option (List (Nat × SV))
  | [] => some []
  | (t, v) :: r => match σ.subSV v, σ.subEnv r with
    | some a, some b => some ((t, a) :: b)
    | _, _ => none

def sameTs : List T → List T → Bool
  | [], [] => true
  | a :: l, b :: m => a.same b && sameTs l m
  | _, _ => false
def SH.same : SH → SH → Bool
  | .cells r ty cs, .cells r' ty' cs' => Nat.beq r r' && Nat.beq ty ty' && sameTs cs cs'
  | .arr r ty pat d cap, .arr r' ty' pat' d' cap' => Nat.beq r r' && Nat.beq ty ty' && decide (pat = pat') && d.same d' && cap.same cap'
  | .abs n t, .abs n' t' => Nat.beq n n' && Nat.beq t t'
  | _, _ => false

/-! ### The tree -/

inductive Out where
  | stuck (why : Nat) (a b : Nat)
  | need (c : T) (o : Out)
  | br (c : T) (x y : Out)
  | fresh (n : Nat) (o : Out)
  | both (x y : Out)
  | top
  | pre (ci : Nat) (σ : Sg) (o : Out)
  | post (ci ai : Nat) (σ : Sg) (base : Nat) (o : Out)
  | inv (li : Nat) (base : Nat) (σ : Sg) (o : Out)
  | hyp (li : Nat) (base : Nat) (o : Out)
  | back (li : Nat) (base : Nat) (σ : Sg)
  | ret (ai : Nat) (σ : Sg)
  | pack (l : List SH) (n : Nat) (o : Out)
  | view (x : T) (pat : List CK) (ms : List Nat) (base : Nat) (o : Out)
  | know (c : T) (o : Out)
  deriving Inhabited

structure Ctx where
  P : Program
  me : Ctr
  ctrs : List Ctr
  invs : List Inv

inductive KI where
  | code (c : Code)
  | blk (id : Nat)
  | ops (ops : Array Oper) (l : List Nat)
  | lend (li : Nat) (base : Nat)
  | any (ops : Array Oper) (listed : Array Bool) (left : Nat) (st : List SH)
  | again (c : Code)
  deriving Inhabited

def popTo (id : Nat) : List KI → Option (List KI)
  | [] => none
  | .blk j :: K => if Nat.beq id j then some K else popTo id K
  | _ :: K => popTo id K

/-- That a region is there, said by what is known of it. -/
def liven (s : S) (c : T) : T :=
  match c with
  | .c1 .not (.c0 (.isnil r)) =>
    match s.look r with
    | some (_, .cells ..) => .bl true
    | some (_, .arr _ _ _ d _) => mkCmp .lss (.lit 0) (mkDlen d)
    | _ => c
  | c => c

def needs (s : S) : List T → (S → Out) → Out
  | [], k => k s
  | c :: cs, k =>
    match known (liven s c) s.pc with
    | some true => needs s cs k
    | some false => .stuck 7 0 0
    | none => .need (liven s c) (needs { s with pc := (liven s c, true) :: s.pc } cs k)

def SV.inB (n : Nat) : SV → Bool
  | .one t => t.inB n
  | .agg ts => ts.all (T.inB n)
  | .tup vs => vs.all fun x => x.2.all (T.inB n)
  | .fn _ a b => a.all (T.inB n) && b.all (T.inB n)
def SH.inB (n : Nat) : SH → Bool
  | .cells r _ cs => Nat.blt r n && cs.all (T.inB n)
  | .arr r _ _ d cap => Nat.blt r n && d.inB n && cap.inB n
  | .abs m _ => Nat.blt m n
/-- Only variables that p lets. -/
def T.inS (p : Nat → Bool) : T → Bool
  | .var m => p m
  | .c0 (.isnil r) => p r
  | .c0 _ => true
  | .c1 (.vptr r _ _) a => p r && a.inS p
  | .c1 _ a => a.inS p
  | .c2 _ a b => a.inS p && b.inS p
  | .c3 (.vslice r _) a b c => p r && a.inS p && b.inS p && c.inS p
  | .c3 _ a b c => a.inS p && b.inS p && c.inS p
  | .ife a b x y => a.inS p && b.inS p && x.inS p && y.inS p
def SV.inS (p : Nat → Bool) : SV → Bool
  | .one t => t.inS p
  | .agg ts => ts.all (T.inS p)
  | .tup vs => vs.all fun x => x.2.all (T.inS p)
  | .fn _ a b => a.all (T.inS p) && b.all (T.inS p)
def SH.inS (p : Nat → Bool) : SH → Bool
  | .cells r _ cs => p r && cs.all (T.inS p)
  | .arr r _ _ d cap => p r && d.inS p && cap.inS p
  | .abs m _ => p m
/-- The variables that a loop's pattern may have. -/
def patB (base nv n : Nat) : Bool := (Nat.blt n base && Nat.blt n 1000) || (Nat.ble 1000 n && Nat.blt n (1000 + nv))
def Inv.fits (I : Inv) (base : Nat) : Bool := I.env.all (fun x => x.2.inS (patB base I.nv)) && I.heap.all (SH.inS (patB base I.nv))

/-- Nothing of the state speaks of a variable that is still to come. -/
def S.inNx (s : S) : Bool := s.env.all (fun x => x.2.inB s.nx) && s.heap.all (SH.inB s.nx) && s.ro.all (SH.inB s.nx) && s.pc.all (fun x => x.1.inB s.nx) && s.vw.all (fun x => x.1.all (fun m => Nat.blt m s.nx) && x.2.inB s.nx)

def S.scopedEH (s : S) : Bool := s.env.all (fun x => x.2.inB s.nx) && s.heap.all (SH.inB s.nx)
def Bd.inB (n : Nat) : Bd → Bool
  | .t x => x.inB n
  | .r m => Nat.blt m n
  | .nil => true
/-- What is bound at a call speaks of the caller's variables alone; the contract's results of its own alone. -/
def callOk (σ : Sg) (c : Ctr) (a : Alt) (nx : Nat) : Bool :=
  σ.bd.all (fun x => Nat.blt x.1 c.nv && x.2.inB nx) && a.ret.inS (fun n => Nat.blt n (c.nv + a.k)) && a.heap.all (SH.inS fun n => Nat.blt n (c.nv + a.k))

def freshes (s : S) : Nat → (S → Out) → Out
  | 0, k => k s
  | n + 1, k => if s.inNx then .fresh s.nx (freshes { s with nx := s.nx + 1 } n k) else .stuck 30 0 0

/-! ### Pieces of memory put together; slices that are only known as values -/

def absTags : List SH → List Nat
  | [] => []
  | .abs _ t :: l => t :: absTags l
  | _ :: l => absTags l
def nonAbs (l : List SH) : List SH := l.filter fun x => x.isAbs.isNone
def isTag (t : Nat) (x : SH) : Bool :=
  match x with
  | .abs _ t' => Nat.beq t t'
  | _ => false
/-- What is chosen of the heap becomes one piece, unless it is one already. -/
def packOne (s : S) (sel : SH → Bool) (t : Nat) (k : S → Out) : Out :=
  match s.heap.filter sel with
  | [.abs _ _] => k s
  | l => if s.inNx then .pack l s.nx (k { s with heap := .abs s.nx t :: s.heap.filter (fun x => !sel x), nx := s.nx + 1 }) else .stuck 60 t 0
def packAll (s : S) (left : List SH) : List Nat → (S → Out) → Out
  | [], k => k s
  | t :: ts, k => packOne s (fun x => (isTag t x || (Nat.beq (t % 2) 0 && x.isAbs.isNone)) && left.any (SH.same x)) t fun s => packAll s left ts k
/-- For a call: pieces with one tag become one. -/
def packCall (s : S) : List Nat → (S → Out) → Out
  | [], k => k s
  | t :: ts, k =>
    match s.heap.filter (isTag t) with
    | _ :: _ :: _ => packOne s (isTag t) t fun s => packCall s ts k
    | _ => packCall s ts k

def opaque1 : T → Bool
  | .var _ => true
  | .c2 (.vcell _) _ _ => true
  | _ => false
def absVars : List SH → List Nat
  | [] => []
  | .abs n _ :: l => n :: absVars l
  | _ :: l => absVars l
/-- A temporary that holds a slice of which only the value is known: its rows are told of. -/
def viewT (s : S) (t el : Nat) (pat : List CK) (k : S → Out) : Out :=
  match lookE t s.env with
  | some (.one x) =>
    if opaque1 x && !((absVars s.heap ++ absVars s.ro).isEmpty) then
      if s.inNx && Nat.blt t s.nt then
        .view x pat (absVars s.heap ++ absVars s.ro) s.nx (k { s with
          env := putE t (.one (.vslice s.nx (.lit 0) (.dlen (.var (s.nx + 2))) (.var (s.nx + 1)) pat.length)) s.env
          vw := (absVars s.heap ++ absVars s.ro, .arr s.nx el pat (.var (s.nx + 2)) (.var (s.nx + 1))) :: s.vw
          nx := s.nx + 3 })
      else .stuck 61 t 0
    else k s
  | _ => k s
def viewsK (s : S) : List (Nat × Nat × List CK) → (S → Out) → Out
  | [], k => k s
  | (t, el, pat) :: l, k => viewT s t el pat fun s => viewsK s l k
def elemPat (P : Program) (t : TypeId) : Option (Nat × List CK) :=
  match P.underlying t with
  | some (.slice el) => match zeroP P el with
    | some z => some (el, z.map kindOf)
    | none => none
  | _ => none
def viewOpd (P : Program) (t : TypeId) (x : Operand) : List (Nat × Nat × List CK) :=
  match x, elemPat P t with
  | .tmp k, some (el, pat) => [(k, el, pat)]
  | _, _ => []
/-- The argument patterns that are slices, with the temporaries that stand there. -/
def viewArgs (hs : List SH) : List SV → List Operand → List (Nat × Nat × List CK)
  | .one (.c3 (.vslice r _) _ _ _) :: ps, x :: xs =>
    match heapAt r hs, x with
    | some (_, .arr _ ty pat _ _), .tmp k => (k, ty, pat) :: viewArgs hs ps xs
    | _, _ => viewArgs hs ps xs
  | _ :: ps, _ :: xs => viewArgs hs ps xs
  | _, _ => []
def firstCtr (f : FuncId) : List Ctr → Option Ctr
  | [] => none
  | c :: l => if Nat.beq c.fn f then some c else firstCtr f l
def viewOps (P : Program) (ctrs : List Ctr) (s : S) (o : Oper) : List (Nat × Nat × List CK) :=
  match o.op with
  | .call { callee := .builtin .len, args, argTypes } =>
    match args.toList, argTypes.toList with
    | [x], [t] => viewOpd P t x
    | _, _ => []
  | .call { callee := .builtin .append, args, argTypes } =>
    match args.toList, argTypes.toList with
    | [x, y], [t, t2] => viewOpd P t x ++ viewOpd P t2 y
    | _, _ => []
  | .slice t x _ _ _ => viewOpd P t x
  | .indexAddr t x _ => viewOpd P t x
  | .binOp op t x y _ =>
    match op with
    | .eql => viewOpd P t x ++ viewOpd P t y
    | .neq => viewOpd P t x ++ viewOpd P t y
    | _ => []
  | .call { callee := .value f, args, .. } =>
    match opd s f with
    | some (.fn (.func fid) [] _) => match firstCtr fid ctrs with
      | some c => viewArgs (c.heap ++ c.ro) c.args args.toList
      | none => []
    | _ => []
  | _ => []
def callTags (ctrs : List Ctr) (s : S) (o : Oper) : List Nat :=
  match o.op with
  | .call { callee := .value f, .. } =>
    match opd s f with
    | some (.fn (.func fid) _ _) => match firstCtr fid ctrs with
      | some c => absTags c.heap
      | none => []
    | _ => []
  | _ => []

/-- A condition without its outer negation. -/
def pcOf (c : T) (b : Bool) : T × Bool :=
  match c with
  | .c1 .not a => (a, !b)
  | c => (c, b)
def branch (s : S) (c : T) (k : Bool → S → Out) : Out :=
  match known c s.pc with
  | some b => k b s
  | none => .br c (k true { s with pc := pcOf c true :: s.pc }) (k false { s with pc := pcOf c false :: s.pc })

/-- The guard of an operation, as a test. -/
def guardT (ops : Array Oper) (s : S) (o : Oper) : Option (Option (T × Bool)) :=
  match o.guard with
  | none => some none
  | some (j, want) =>
    match (ops[j]?).bind (·.dst) with
    | some t =>
      match lookE t s.env with
      | some (.one (.c1 .vbool c)) => some (some (c, want))
      | some (.tup []) => some (some (.bl (!want), want))
      | _ => none
    | none => none

def putDst (dst : Option Nat) (v : Option SV) (s : S) : Option S :=
  match dst, v with
  | none, _ => some s
  | some d, some v => if Nat.blt d s.nt then some { s with env := putE d v s.env } else none
  | some _, none => none


def resOne (P : Program) (s : S) : ResultVar → Option SV
  | .tmp t => lookE t s.env
  | .cell a t =>
    match lookE a s.env, aggP P t, sizeP P t with
    | some (.one (.c1 (.vptr r p c) e)), some ag, some n =>
      match heapAt r s.heap with
      | some (_, x) =>
        match readH x e p c n with
        | some (cs, []) => if ag then some (.agg cs) else match cs with | [t] => some (.one t) | _ => none
        | _ => none
      | none => none
    | _, _, _ => none
def flatSV : SV → Option (Bool × List T)
  | .one t => some (false, [t])
  | .agg ts => some (true, ts)
  | _ => none
def resAll (P : Program) (s : S) : List ResultVar → Option (List (Bool × List T))
  | [] => some []
  | r :: rs => match (resOne P s r).bind flatSV, resAll P s rs with
    | some x, some l => some (x :: l)
    | _, _ => none
def resultSV (fn : Func) (s : S) (P : Program) : Option SV :=
  match fn.results.toList with
  | [r] => resOne P s r
  | rs => (resAll P s rs).map .tup

/-- Whether an alternative's form fits: what else there is in memory; whether it fits as it stands. -/
def fitsAlt (me : Ctr) (s : S) (v : SV) (a : Alt) : Option (List SH × Bool) :=
  match (mSV a.ret v { th := me.nv, bd := [], eqI := [], eqB := [], eqD := [] }).bind (mHs true (nonAbs a.heap) s.heap []) with
  | some (rest, σ) =>
    match σ.left with
    | some cs => some (rest, cs.isEmpty)
    | none => none
  | none => none
/-- The result against the contract's own alternatives: the first whose form fits. -/
def retAlts (me : Ctr) (s : S) (v : SV) (strict : Bool) : Nat → List Alt → Out
  | _, [] => .stuck 9 0 0
  | ai, a :: r =>
    match fitsAlt me s v a with
    | none => retAlts me s v strict (ai + 1) r
    | some (rest, exact) =>
      if strict && !exact then retAlts me s v strict (ai + 1) r else
      if !(v.inB s.nx) then .stuck 62 ai 0 else
      packAll s rest (absTags a.heap) fun s =>
        match (mSV a.ret v { th := me.nv, bd := [], eqI := [], eqB := [], eqD := [] }).bind (mHs true a.heap s.heap []) with
        | some (_, σ) =>
          match σ.left with
          | some cs => needs s cs fun _ => .ret ai σ
          | none => .stuck 63 ai 0
        | none => .stuck 64 ai 0
/-- Whether one of the alternatives fits as it stands. -/
def retExact (me : Ctr) (s : S) (v : SV) (l : List Alt) : Bool := l.any fun a => match fitsAlt me s v a with
  | some (_, b) => b
  | none => false

def fstRegion : Code → Option Nat
  | .region id _ _ => some id
  | .seq a b => (fstRegion a).orElse fun _ => fstRegion b
  | .cond _ a b => (fstRegion a).orElse fun _ => fstRegion b
  | .block _ b => fstRegion b
  | .loop b => fstRegion b
  | .scope b => fstRegion b
  | _ => none

def findInv1 (key : Nat) : List Inv → Nat → Option (Nat × Inv)
  | [], _ => none
  | x :: r, n => if Nat.beq x.key key then some (n, x) else findInv1 key r (n + 1)
def invFits (s : S) (I : Inv) : Bool := ((mEnv I.env s.env { th := 1000, bd := [], eqI := [], eqB := [], eqD := [] }).bind (mHs true (nonAbs I.heap) s.heap [])).isSome
def findInv2 (key : Nat) (s : S) : List Inv → Nat → Option (Nat × Inv)
  | [], _ => none
  | x :: r, n => if Nat.beq x.key key && invFits s x then some (n, x) else findInv2 key s r (n + 1)
/-- The first invariant of this loop that fits; if none fits, the first one. -/
def findInv (key : Nat) (s : S) (l : List Inv) : Option (Nat × Inv) :=
  match findInv2 key s l 0 with
  | some x => some x
  | none => findInv1 key l 0

/-- Two numbers of which both are known are the same. -/
def litsAgree (x : T × T) : Bool :=
  match x.1.isLit, x.2.isLit with
  | some a, some b => decide (a = b)
  | _, _ => true

/-- The slices told of, whose pieces are still at hand. -/
def viewsOf (s : S) : List SH := (s.vw.filter fun x => x.1.all s.piece).map (·.2)

/-- The contracts of a function, tried in their order: the first whose form fits. -/
def callC (s : S) (f : FuncId) (args : List SV) : Nat → List Ctr → Option (Nat × Ctr × List SH × Sg)
  | _, [] => none
  | n, c :: r =>
    if Nat.beq c.fn f then
      match ((mSVs c.args args { th := 0, bd := [], eqI := [], eqB := [], eqD := [] }).bind (mHs true c.heap s.heap [])) with
      | some (h, σ) =>
        match mHs false c.ro h (s.ro ++ viewsOf { s with heap := h }) σ with
        | some (_, σ) => if σ.eqI.all litsAgree then some (n, c, h, σ) else callC s f args (n + 1) r
        | none => callC s f args (n + 1) r
      | none => callC s f args (n + 1) r
    else callC s f args (n + 1) r

def callArgs (s : S) (c : Call) : Option (FuncId × List SV) :=
  match c.callee with
  | .value f =>
    match opd s f, opds s c.args.toList with
    | some (.fn (.func fid) first caps), some as => some (fid, (first.map .one) ++ as ++ (caps.map .one))
    | _, _ => none
  | _ => none

def altOuts (k : Nat → Alt → Out) : Nat → List Alt → Out
  | _, [] => .top
  | n, a :: r => .both (k n a) (altOuts k (n + 1) r)

/-- One operation that is carried out, and what follows. -/
def goOp1 (E : Ctx) (s : S) (i : Nat) (o : Oper) (k : S → Out) : Out :=
  match o.op with
  | .call { callee := .value f, args, argTypes } =>
    match callArgs s { callee := .value f, args, argTypes } with
    | none => .stuck 10 i 0
    | some (fid, as) =>
      match callC s fid as 0 E.ctrs with
      | none => .stuck 11 fid i
      | some (ci, c, h, σ) =>
        match σ.left with
        | none => .stuck 12 fid i
        | some cs => needs s cs fun s => .pre ci σ <|
          altOuts (fun ai a => if !(callOk σ c a s.nx) then .stuck 19 fid i else freshes { s with heap := h } a.k fun s' =>
            match Sg.subSV { σ with bd := newBd c.nv s.nx a.k ++ σ.bd } a.ret, Sg.subHs { σ with bd := newBd c.nv s.nx a.k ++ σ.bd } a.heap with
            | some v, some hs =>
              match putDst o.dst (some v) { s' with heap := hs ++ s'.heap } with
              | some s'' => .post ci ai σ s.nx (k s'')
              | none => .stuck 13 fid i
            | _, _ => .stuck 14 fid i) 0 c.alts
  | _ =>
    match stepX E.P E.me.ip s o with
    | none => .stuck 15 i 0
    | some r => needs s r.needs fun s => freshes s r.fresh fun s =>
      match putDst o.dst r.val { s with heap := r.heap } with
      | some s => k s
      | none => .stuck 16 i 0
/-- The slice whose block's bound is told before the operation. -/
def knowOf (ip : List (Nat × Nat)) (s : S) (o : Oper) : Option T :=
  let at_ (x : Operand) : Option T :=
    match opd s x with
    | some (.one (.c3 (.vslice r _) _ _ _)) =>
      match heapAt r s.heap with
      | some (_, .arr _ _ _ d cap) => some (mkCmp .leq (mkDlen d) cap)
      | _ => none
    | _ => none
  match o.op with
  | .slice _ x _ _ _ => at_ x
  | .call { callee := .builtin .append, args, .. } =>
    if dstIs o ip 0 then
      match args.toList with
      | x :: _ => at_ x
      | [] => none
    else none
  | _ => none
def knowK (ip : List (Nat × Nat)) (s : S) (o : Oper) (k : S → Out) : Out :=
  match knowOf ip s o with
  | some c => match known c s.pc with
    | some _ => k s
    | none => .know c (k { s with pc := (c, true) :: s.pc })
  | none => k s
def goOp (E : Ctx) (s : S) (i : Nat) (o : Oper) (k : S → Out) : Out :=
  packCall s (callTags E.ctrs s o) fun s => viewsK s (viewOps E.P E.ctrs s o) fun s => knowK E.me.ip s o fun s => goOp1 E (shrinkS E.me.ip s o) i o k

/-! ### A region whose order is open: what only reads what nobody in it writes comes first -/

/-- The first list is part of the second, in its order. -/
def subHeap : List SH → List SH → Bool
  | [], _ => true
  | _ :: _, [] => false
  | x :: xs, y :: ys => if x.same y then subHeap xs ys else subHeap (x :: xs) ys

/-- What each operation waits for, as bits, the operations in their order. -/
def cloMask (md : Region.Mode) (acc : Array Nat) (l : List Edge) : Nat := l.foldl (fun m e => if Region.binds md e then m ||| 2 ^ e.on ||| acc.getD e.on 0 else m) 0
def cloGo (md : Region.Mode) : List Oper → Array Nat → Array Nat
  | [], acc => acc
  | o :: r, acc => cloGo md r (acc.push (cloMask md acc o.after.toList))
/-- Whether an operation waits for all of these. -/
def lateOp (md : Region.Mode) (ops : Array Oper) (A : List Nat) (j : Nat) : Bool :=
  match (cloGo md ops.toList #[])[j]? with
  | some m => A.all fun i => m.testBit i
  | none => false
def earlyKind : Op → Bool
  | .store .. => false
  | .alloc .. => false
  | .box .. => false
  | .makeSlice .. => false
  | .buildSlice .. => false
  | .call { callee := .builtin .len, .. } => true
  | .call { callee := .builtin .min, .. } => true
  | .call { callee := .builtin .max, .. } => true
  | .call _ => false
  | _ => true
def early1 (ops : Array Oper) : List Nat := go ops.toList 0
where
  go : List Oper → Nat → List Nat
    | [], _ => []
    | o :: r, i => if earlyKind o.op then i :: go r (i + 1) else go r (i + 1)
def early2 (ops : Array Oper) : List Nat := go ops.toList 0 []
where
  go : List Oper → Nat → List Nat → List Nat
    | [], _, acc => acc.reverse
    | o :: r, i, acc => if earlyKind o.op && o.after.toList.all (fun e => !(Region.binds .any e) || acc.contains e.on) then go r (i + 1) (i :: acc) else go r (i + 1) acc
def breaks : Op → Bool
  | .store .. => true
  | .call { callee := .builtin .append, .. } => true
  | _ => false
def allLate (ops : Array Oper) (A : List Nat) : Bool := go ops.toList 0
where
  go : List Oper → Nat → Bool
    | [], _ => true
    | o :: r, i => (!breaks o.op || lateOp .any ops A i) && go r (i + 1)
/-- What comes early: all that only reads; or, where an operation that writes has such behind it, what waits for nothing else. -/
def earlyOf (ops : Array Oper) : List Nat := if allLate ops (early1 ops) then early1 ops else early2 ops
/-- The operations without the late ones. -/
def noLate (ops : Array Oper) : List Oper := go ops.toList 0
where
  go : List Oper → Nat → List Oper
    | [], _ => []
    | o :: r, i => if lateOp .any ops (earlyOf ops) i then go r (i + 1) else o :: go r (i + 1)

inductive Pick where
  | br (c : T)
  | take (i : Nat)
  | all
  deriving Inhabited

/-- The guard's answer, where it is known. -/
def guardB (ops : Array Oper) (s : S) (o : Oper) : Option (Option Bool) :=
  match guardT ops s o with
  | none => none
  | some none => some (some true)
  | some (some (c, want)) => match known c s.pc with
    | some b => some (some (b == want))
    | none => some none

def quietR (E : Ctx) (s : S) (st : List SH) (o : Oper) : Option R1 :=
  match stepOp E.P { s with heap := st } o with
  | some r => if Nat.beq r.fresh 0 && r.val.isSome then some r else none
  | none => none

def pickBr (ops : Array Oper) (s : S) : List Nat → Option T
  | [] => none
  | i :: l => match ops[i]? with
    | none => pickBr ops s l
    | some o => match guardT ops s o with
      | some (some (c, _)) => match known c s.pc with
        | none => some c
        | some _ => pickBr ops s l
      | _ => pickBr ops s l
def pickTake (E : Ctx) (ops : Array Oper) (listed : Array Bool) (s : S) (st : List SH) : List Nat → Option Nat
  | [] => none
  | i :: l => match ops[i]? with
    | none => pickTake E ops listed s st l
    | some o =>
      match guardB ops s o with
      | some (some g) => if (!g || (quietR E s st o).isSome) && (earlyOf ops).contains i && Region.free .any ops listed i then some i else pickTake E ops listed s st l
      | _ => pickTake E ops listed s st l
def pickNext (E : Ctx) (ops : Array Oper) (listed : Array Bool) (s : S) (st : List SH) (R : List Nat) : Pick :=
  match pickBr ops s R with
  | some c => .br c
  | none =>
    if subHeap st s.heap then
      match pickTake E ops listed s st R with
      | some i => .take i
      | none => .all
    else .all

def allOuts (k : Nat → Out) : List Nat → Out
  | [] => .top
  | i :: l => .both (k i) (allOuts k l)

/-- What operations write where they go: the regions that a plain store names, off the operations that were walked in the order of the text. -/
def stableOf (E : Ctx) (s : S) (ops : List Oper) : List SH := go ops s s.heap
where
  go : List Oper → S → List SH → List SH
    | [], _, st => st
    | o :: r, s, st =>
      match o.op with
      | .call { callee := .value f, args, argTypes } =>
        match callArgs s { callee := .value f, args, argTypes } with
        | some (fid, as) =>
          match callC s fid as 0 E.ctrs with
          | some (_, _, h, _) => go r s (st.filter fun x => h.any fun y => x.same y)
          | none => go r s st
        | none => go r s st
      | _ =>
        match stepOp E.P s o with
        | some r1 => go r { s with env := (match r1.val, o.dst with | some v, some d => putE d v s.env | _, _ => s.env), heap := r1.heap, nx := s.nx + r1.fresh } (st.filter fun x => r1.heap.any fun y => x.same y)
        | none =>
          match o.op with
          | .store _ a _ => match opd s a with
            | some (.one (.c1 (.vptr rg _ _) _)) => go r s (st.filter fun x => !(match x.reg with | some q => Nat.beq q rg | none => false))
            | _ => []
          | _ => go r s st

/-- Back at a loop's head. -/
def lendK (I : Inv) (li base : Nat) (s : S) : Out :=
  match (mEnv I.env s.env { th := 1000, bd := [], eqI := [], eqB := [], eqD := [] }).bind (mHs true I.heap s.heap []) with
  | some (_, σ) =>
    match σ.left with
    | some cs => needs s cs fun _ => .back li base σ
    | none => .stuck 2 li 0
  | none => .stuck 3 li 1
/-- At a loop's head for the first time. -/
def headK (I : Inv) (li : Nat) (s : S) (k : S → Out) : Out :=
  match (mEnv I.env s.env { th := 1000, bd := [], eqI := [], eqB := [], eqD := [] }).bind (mHs true I.heap s.heap []) with
  | none => .stuck 23 li 1
  | some (_, σ) =>
    match σ.left with
    | none => .stuck 24 li 0
    | some cs => needs s cs fun s => if !(s.inNx && I.fits s.nx) then .stuck 28 li 0 else .inv li s.nx σ <|
      let σ1 : Sg := { th := 1000, bd := newBd 1000 s.nx I.nv, eqI := [], eqB := [], eqD := [] }
      match σ1.subEnv I.env, σ1.subHs I.heap with
      | some env, some hs => freshes s I.nv fun s' => if !({ s' with env := env, heap := hs, vw := [] } : S).inNx then .stuck 29 li 0 else
          .hyp li s.nx (k { s' with env := env, heap := hs, vw := [] })
      | _, _ => .stuck 25 li 0

/-- The whole walk. -/
def exec (E : Ctx) (fn : Func) : Nat → List KI → S → Out
  | 0, _, _ => .stuck 0 0 0
  | n + 1, [], s =>
    match resultSV fn s E.P with
    | some v => retAlts E.me s v (retExact E.me s v E.me.alts) 0 E.me.alts
    | none => .stuck 1 0 0
  | n + 1, .blk _ :: K, s => exec E fn n K s
  | n + 1, .again c :: K, s => exec E fn n (.code c :: .again c :: K) s
  | n + 1, .lend li base :: _, s =>
    match E.invs[li]? with
    | some I =>
      match (mEnv I.env s.env { th := 1000, bd := [], eqI := [], eqB := [], eqD := [] }).bind (mHs true (nonAbs I.heap) s.heap []) with
      | some (rest, _) => packAll s rest (absTags I.heap) fun s => lendK I li base s
      | none => .stuck 3 li 0
    | none => .stuck 4 li 0
  | n + 1, .ops _ [] :: K, s => exec E fn n K s
  | n + 1, .ops ops (i :: l) :: K, s =>
    match ops[i]? with
    | none => exec E fn n (.ops ops l :: K) s
    | some o =>
      match guardT ops s o with
      | none => .stuck 17 i 0
      | some none => goOp E s i o (fun s => exec E fn n (.ops ops l :: K) s)
      | some (some (c, want)) => branch s c fun b s => if b = want then goOp E s i o (fun s => exec E fn n (.ops ops l :: K) s) else
        match putDst o.dst (some (.tup [])) s with
        | some s => exec E fn n (.ops ops l :: K) s
        | none => .stuck 18 i 0
  | n + 1, .any ops listed left st :: K, s =>
    match Region.ready .any ops listed with
    | [] => exec E fn n K s
    | j :: R =>
      match left with
      | 0 => .stuck 41 0 0
      | left + 1 =>
        match pickNext E ops listed s st (j :: R) with
        | .br c => branch s c fun _ s => exec E fn n (.any ops listed (left + 1) st :: K) s
        | .take i =>
          if !(subHeap st s.heap && Region.noSelect ops && (earlyOf ops).contains i && Region.free .any ops listed i && (j :: R).contains i) then .stuck 42 i 0 else
          match ops[i]? with
          | none => .stuck 43 i 0
          | some o =>
            match guardB ops s o with
            | some (some false) =>
              match putDst o.dst (some (.tup [])) s with
              | some s => exec E fn n (.any ops (listed.setIfInBounds i true) left st :: K) s
              | none => .stuck 44 i 0
            | some (some true) =>
              match quietR E s st o with
              | some r => needs s r.needs fun s =>
                match putDst o.dst r.val s with
                | some s => exec E fn n (.any ops (listed.setIfInBounds i true) left st :: K) s
                | none => .stuck 45 i 0
              | none => .stuck 46 i 0
            | _ => .stuck 47 i 0
        | .all => allOuts (fun i =>
            match ops[i]? with
            | none => .stuck 43 i 0
            | some o =>
              match guardB ops s o with
              | some (some true) => goOp E s i o fun s => if !(lateOp .any ops (earlyOf ops) i || subHeap st s.heap) then .stuck 50 i 0 else exec E fn n (.any ops (listed.setIfInBounds i true) left st :: K) s
              | some (some false) =>
                if !(lateOp .any ops (earlyOf ops) i || subHeap st s.heap) then .stuck 51 i 0 else
                match putDst o.dst (some (.tup [])) s with
                | some s => exec E fn n (.any ops (listed.setIfInBounds i true) left st :: K) s
                | none => .stuck 48 i 0
              | _ => .stuck 49 i 0) (j :: R)
  | n + 1, .code c :: K, s =>
    match c with
    | .skip => exec E fn n K s
    | .label _ => exec E fn n K s
    | .seq a b => exec E fn n (.code a :: .code b :: K) s
    | .block id b => exec E fn n (.code b :: .blk id :: K) s
    | .exit id =>
      match popTo id K with
      | some K' => exec E fn n K' s
      | none => .stuck 20 id 0
    | .ret => exec E fn n [] s
    | .cond c a b =>
      match opd s c with
      | some (.one (.c1 .vbool t)) => branch s t fun x s => exec E fn n (.code (if x then a else b) :: K) s
      | _ => .stuck 21 0 0
    | .region _ ops false => exec E fn n (.ops ops (List.range ops.size) :: K) s
    | .region _ ops true =>
      if E.P.follows .mixedOrders && Region.noSelect ops && s.inNx then
        if (stableOf E s (noLate ops)).all (SH.inB s.nx) then exec E fn n (.any ops (Array.replicate ops.size false) ops.size (stableOf E s (noLate ops)) :: K) s else .stuck 32 0 0
      else .stuck 31 0 0
    | .loop b =>
      match (fstRegion b).bind fun key => findInv key s E.invs with
      | none => exec E fn n (.code b :: .again b :: K) s
      | some (li, I) =>
        match (mEnv I.env s.env { th := 1000, bd := [], eqI := [], eqB := [], eqD := [] }).bind (mHs true (nonAbs I.heap) s.heap []) with
        | none => .stuck 23 li 0
        | some (rest, _) => packAll s rest (absTags I.heap) fun s => headK I li s fun s' => exec E fn n (.code b :: .lend li (s'.nx - I.nv) :: K) s'
    | _ => .stuck 26 0 0

end Go.Eng
