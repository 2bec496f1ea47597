/- Texts E1, E2, E2m, E3, E4, E4b. -/
import Derived.WalkKit
import Derived.OrdersHeld
import Derived.Deep.RegionHeld3
set_option linter.unusedSimpArgs false
set_option linter.unusedVariables false
namespace Go.Eng
open Go

abbrev Hp:=Nat->Option Obj
def Hp.le (a b:Hp):Prop:=∀ x o,a x = some o->b x = some o

structure U where
 i:Int:=0
 b:Bool:=false
 v:Value:=.nilFunc
 d:List (List Value):=[]
 r:Option Addr:=none
 h:Hp:=fun _=>none

def U.good (u:U):Prop:=u.v.oneCell' = true/\∀ row ∈ u.d,∀ v ∈ row,v.oneCell' = true

abbrev Env:=Nat->U

def Env.good (ρ:Env):Prop:=∀ n,(ρ n).good

def Env.set (ρ:Env) (n:Nat) (u:U):Env:=fun m=>if m = n then u else ρ m

@[simp] theorem Env.set_same (ρ:Env) (n:Nat) (u:U):(ρ.set n u) n = u:=by simp [Env.set]
theorem Env.set_ne (ρ:Env) {n m:Nat} (u:U) (h:m ≠ n):(ρ.set n u) m = ρ m:=by simp [Env.set,h]

def qag:Value->Int
 | .int _ z=>z
 | _=>0
def qun:Value->Bool
 | .bool b=>b
 | _=>false
def qF (d:List (List Value)) (e:Int) (c:Nat):Value:=((d[e.toNat]?).getD [])[c]?.getD .nilFunc
def qb (d:List (List Value)) (e:Int) (c:Nat):Int:=qag (qF d e c)
def q76 (d:List (List Value)) (e:Int) (c:Nat):Bool:=qun (qF d e c)
def qaq (row:List Value) (c:Nat) (vs:List Value):List Value:=row.take c ++ vs ++ row.drop (c + vs.length)
def qa (d:List (List Value)) (i:Nat):Int:=qag ((d.headD [])[i]?.getD .nilFunc)
def qap (d:List (List Value)) (i:Nat):Bool:=qun ((d.headD [])[i]?.getD .nilFunc)
def qas (d:List (List Value)) (i:Nat) (v:Value):List (List Value):=match d with
 | []=>[]
 | row :: rest=>row.set i v :: rest
def qaM (d:List (List Value)) (k:Nat) (s:List (List Value)):List (List Value):=d.take k ++ s ++ d.drop (k + s.length)
def qbp (d:List (List Value)) (o n:Nat):List (List Value):=(((d.headD []).drop o).take n).map fun v=>[v]
def qax (d:List (List Value)) (o:Nat) (s:List (List Value)):List (List Value):=match d with
 | []=>[]
 | row :: rest=>qaq row o (s.map fun r=>r.headD .nilFunc) :: rest
def bytesOf (d:List (List Value)):List UInt8:=d.map fun r=>UInt8.ofNat (qag (r[0]?.getD .nilFunc)).toNat
def qaK:Value->List UInt8
 | .string s=>s.toList
 | _=>[]
def qbi (d:List (List Value)) (e:Int) (c:Nat) (vs:List Value):List (List Value) :=
 d.set e.toNat (qaq ((d[e.toNat]?).getD []) c vs)

inductive O0 where
 | lit (z:Int)
 | bl (b:Bool)
 | isnil (r:Nat)
 | vnilp
 | vnils
 | vnilf
 | vnilm
 | vstr (l:List UInt8)
 | dnil
 | rnil
 deriving Inhabited,DecidableEq
inductive O1 where
 | conv (k:IntKind)
 | dlen
 | not
 | vint (k:IntKind)
 | vbool
 | vptr (r p c:Nat)
 | vbytes
 | sval
 | slen
 | srows
 | isg (g:Nat)
 deriving Inhabited,DecidableEq
inductive O2 where
 | arith (op:BinOp) (k:IntKind)
 | plus
 | minus
 | tims
 | imin
 | imax
 | icell (c:Nat)
 | cmp (op:BinOp)
 | beq
 | and
 | or
 | bcell (c:Nat)
 | vcell (c:Nat)
 | dsnoc
 | rcons
 | drep
 | dapp
 | dtake
 | ddrop
 | xint (c:Nat)
 | xbool (c:Nat)
 | veq
 | slt
 | sapp
 | sat
 | req
 deriving Inhabited,DecidableEq
inductive O3 where
 | vslice (r p:Nat)
 | dput (c:Nat)
 | xput (c:Nat)
 | dsplice
 | ssub
 | xrows
 | xcopy
 deriving Inhabited,DecidableEq

inductive T where
 | var (n:Nat)
 | c0 (o:O0)
 | c1 (o:O1) (a:T)
 | c2 (o:O2) (a b:T)
 | c3 (o:O3) (a b c:T)
 | ife (a b x y:T)
 deriving Inhabited

abbrev T.lit (z:Int):T:=.c0 (.lit z)
abbrev T.bl (b:Bool):T:=.c0 (.bl b)
abbrev T.isnil (r:Nat):T:=.c0 (.isnil r)
abbrev T.vnilp:T:=.c0 .vnilp
abbrev T.vnils:T:=.c0 .vnils
abbrev T.vnilf:T:=.c0 .vnilf
abbrev T.vnilm:T:=.c0 .vnilm
abbrev T.vstr (l:List UInt8):T:=.c0 (.vstr l)
abbrev T.dnil:T:=.c0 .dnil
abbrev T.rnil:T:=.c0 .rnil
abbrev T.conv (k:IntKind) (a:T):T:=.c1 (.conv k) a
abbrev T.dlen (a:T):T:=.c1 .dlen a
abbrev T.not (a:T):T:=.c1 .not a
abbrev T.vint (k:IntKind) (a:T):T:=.c1 (.vint k) a
abbrev T.vbool (a:T):T:=.c1 .vbool a
abbrev T.vptr (r:Nat) (e:T) (p c:Nat):T:=.c1 (.vptr r p c) e
abbrev T.arith (op:BinOp) (k:IntKind) (a b:T):T:=.c2 (.arith op k) a b
abbrev T.plus (a b:T):T:=.c2 .plus a b
abbrev T.minus (a b:T):T:=.c2 .minus a b
abbrev T.tims (a b:T):T:=.c2 .tims a b
abbrev T.imin (a b:T):T:=.c2 .imin a b
abbrev T.imax (a b:T):T:=.c2 .imax a b
abbrev T.icell (d e:T) (c:Nat):T:=.c2 (.icell c) d e
abbrev T.cmp (op:BinOp) (a b:T):T:=.c2 (.cmp op) a b
abbrev T.beq (a b:T):T:=.c2 .beq a b
abbrev T.and (a b:T):T:=.c2 .and a b
abbrev T.or (a b:T):T:=.c2 .or a b
abbrev T.bcell (d e:T) (c:Nat):T:=.c2 (.bcell c) d e
abbrev T.vcell (d e:T) (c:Nat):T:=.c2 (.vcell c) d e
abbrev T.dsnoc (d r:T):T:=.c2 .dsnoc d r
abbrev T.rcons (v r:T):T:=.c2 .rcons v r
abbrev T.drep (n r:T):T:=.c2 .drep n r
abbrev T.dapp (a b:T):T:=.c2 .dapp a b
abbrev T.dtake (a b:T):T:=.c2 .dtake a b
abbrev T.ddrop (a b:T):T:=.c2 .ddrop a b
abbrev T.vslice (r:Nat) (off len cap:T) (p:Nat):T:=.c3 (.vslice r p) off len cap
abbrev T.dput (d e:T) (c:Nat) (r:T):T:=.c3 (.dput c) d e r

def T.same:T->T->Bool
 | .var a,.var b=>Nat.beq a b
 | .c0 a,.c0 b=>decide (a = b)
 | .c1 o a,.c1 o' a'=>decide (o = o') && a.same a'
 | .c2 o a b,.c2 o' a' b'=>decide (o = o') && a.same a' && b.same b'
 | .c3 o a b c,.c3 o' a' b' c'=>decide (o = o') && a.same a' && b.same b' && c.same c'
 | .ife a b x y,.ife a' b' x' y'=>a.same a' && b.same b' && x.same x' && y.same y'
 | _,_=>false

theorem T.same_eq:∀ {a b:T},a.same b = true->a = b
 | .var a,.var b,h=>by simp [T.same] at h; rw [h]
 | .c0 a,.c0 b,h=>by simp [T.same] at h; rw [h]
 | .c1 o a,.c1 o' a',h=>by simp [T.same] at h; rw [h.1,T.same_eq h.2]
 | .c2 o a b,.c2 o' a' b',h=>by simp [T.same] at h; rw [h.1.1,T.same_eq h.1.2,T.same_eq h.2]
 | .c3 o a b c,.c3 o' a' b' c',h=>by simp [T.same] at h; rw [h.1.1.1,T.same_eq h.1.1.2,T.same_eq h.1.2,T.same_eq h.2]
 | .ife a b x y,.ife a' b' x' y',h=>by simp [T.same] at h; rw [T.same_eq h.1.1.1,T.same_eq h.1.1.2,T.same_eq h.1.2,T.same_eq h.2]

def qe (op:BinOp) (k:IntKind) (x y:Int):Int :=
 match op with
 | .add=>k.wrap (x + y)
 | .sub=>k.wrap (x - y)
 | .mul=>k.wrap (x * y)
 | .quo=>k.wrap (x.tdiv y)
 | .rem=>x.tmod y
 | .and=>k.wrap (BitVec.ofInt k.bits x &&& BitVec.ofInt k.bits y).toNat
 | .or=>k.wrap (BitVec.ofInt k.bits x ||| BitVec.ofInt k.bits y).toNat
 | .xor=>k.wrap (BitVec.ofInt k.bits x ^^^ BitVec.ofInt k.bits y).toNat
 | .andNot=>k.wrap (BitVec.ofInt k.bits x &&& ~~~BitVec.ofInt k.bits y).toNat
 | .shl=>k.wrap (x * 2 ^ (min y.toNat k.bits))
 | .shr=>x.fdiv (2 ^ (min y.toNat k.bits))
 | _=>0
def qH (op:BinOp) (x y:Int):Bool :=
 match op with
 | .eql=>x == y
 | .neq=>x != y
 | .lss=>decide (x < y)
 | .leq=>decide (x <= y)
 | .gtr=>decide (x > y)
 | .geq=>decide (x ≥ y)
 | _=>false

def qm (r:Option Addr) (n:Nat):Option Addr:=r.map fun a=>match a with
 | ⟨b,o,none⟩=>⟨b,o + n,none⟩
 | ⟨b,o,some s⟩=>if n = 0 then ⟨b,o,some s⟩ else ⟨b,o + n,none⟩
theorem qjh (r:Option Addr):qm r 0 = r:=by
 cases r with
 | none=>rfl
 | some a=>obtain ⟨b,o,s⟩:=a; cases s <;> rfl
theorem qcZ {r:Option Addr} (h:r.isSome = true) (n:Nat):∃ a,qm r n = some a:=by
 cases r with
 | none=>simp at h
 | some a=>exact ⟨_,rfl⟩
theorem qeL {r:Option Addr} {n:Nat} {a:Addr} (m:Nat) (h:qm r n = some a):qm r (n + m) = some (a.add m):=by
 cases r with
 | none=>simp [qm] at h
 | some x =>
  obtain ⟨b,o,s⟩:=x
  cases s with
  | none =>
   simp only [qm,Option.map_some,Option.some.injEq] at h ⊢
   subst h
   unfold Addr.add; split <;> simp_all [Nat.add_assoc]
  | some s =>
   simp only [qm,Option.map_some,Option.some.injEq] at h ⊢
   unfold Addr.add
   by_cases hn:n = 0 <;> by_cases hm:m = 0 <;> simp_all [Nat.add_assoc] <;> subst h <;> simp [Nat.add_assoc]

def O0.den (ρ:Env):O0->U
 | .lit z=>{ i:=z }
 | .bl b=>{ b:=b }
 | .isnil r=>{ b:=(ρ r).r.isNone }
 | .vnilp=>{ v:=.pointer none }
 | .vnils=>{ v:=.slice none 0 0 }
 | .vnilf=>{ v:=.nilFunc }
 | .vnilm=>{ v:=.map none }
 | .vstr l=>{ v:=.string ⟨l.toArray⟩ }
 | .dnil=>{ d:=[] }
 | .rnil=>{ d:=[[]] }
def O1.den (ρ:Env) (a:U):O1->U
 | .conv k=>{ i:=k.wrap a.i }
 | .dlen=>{ i:=(a.d.length:Int) }
 | .not=>{ b:=!a.b }
 | .vint k=>{ v:=.int k a.i }
 | .vbool=>{ v:=.bool a.b }
 | .vptr r p c=>{ v:=.pointer (qm (ρ r).r (a.i.toNat * p + c)) }
 | .vbytes=>{ v:=.string ⟨(bytesOf a.d).toArray⟩ }
 | .sval=>{ v:=.string ⟨(qaK a.v).toArray⟩ }
 | .slen=>{ i:=((qaK a.v).length:Int) }
 | .isg g=>{ b:=decide (a.r = some ⟨g,0,none⟩) }
 | .srows=>{ d:=(qaK a.v).map fun b=>[.int .u8 b.toNat] }
def O2.den (a b:U):O2->U
 | .arith op k=>{ i:=qe op k a.i b.i }
 | .plus=>{ i:=a.i + b.i }
 | .minus=>{ i:=a.i - b.i }
 | .tims=>{ i:=a.i * b.i }
 | .imin=>{ i:=if b.i < a.i then b.i else a.i }
 | .imax=>{ i:=if b.i > a.i then b.i else a.i }
 | .icell c=>{ i:=qb a.d b.i c }
 | .cmp op=>{ b:=qH op a.i b.i }
 | .beq=>{ b:=a.b == b.b }
 | .and=>{ b:=a.b && b.b }
 | .or=>{ b:=a.b || b.b }
 | .bcell c=>{ b:=q76 a.d b.i c }
 | .vcell c=>{ v:=qF a.d b.i c }
 | .dsnoc=>{ d:=a.d ++ b.d }
 | .rcons=>{ d:=[a.v :: b.d.headD []] }
 | .drep=>{ d:=List.replicate a.i.toNat (b.d.headD []) }
 | .dapp=>{ d:=a.d ++ b.d }
 | .dtake=>{ d:=a.d.take b.i.toNat }
 | .ddrop=>{ d:=a.d.drop b.i.toNat }
 | .xint c=>{ i:=qa a.d (b.i.toNat + c) }
 | .xbool c=>{ b:=qap a.d (b.i.toNat + c) }
 | .veq=>{ b:=qaK a.v == qaK b.v }
 | .slt=>{ b:=Op.bytesLess (qaK a.v) (qaK b.v) }
 | .sapp=>{ v:=.string ⟨(qaK a.v ++ qaK b.v).toArray⟩ }
 | .req=>{ b:=(a.d.headD []).map qag == (b.d.headD []).map qag }
 | .sat=>{ i:=((((qaK a.v)[b.i.toNat]?).getD 0).toNat:Int) }
def O3.den (ρ:Env) (a b c:U):O3->U
 | .vslice r p=>{ v:=.slice (qm (ρ r).r (a.i.toNat * p)) b.i.toNat c.i.toNat }
 | .dput k=>{ d:=qbi a.d b.i k (c.d.headD []) }
 | .xput k=>{ d:=qas a.d (b.i.toNat + k) c.v }
 | .dsplice=>{ d:=qaM a.d b.i.toNat c.d }
 | .xrows=>{ d:=qbp a.d b.i.toNat c.i.toNat }
 | .xcopy=>{ d:=qax a.d b.i.toNat c.d }
 | .ssub=>{ v:=.string ⟨(((qaK a.v).drop b.i.toNat).take (c.i.toNat - b.i.toNat)).toArray⟩ }
def T.den (ρ:Env):T->U
 | .var n=>ρ n
 | .c0 o=>o.den ρ
 | .c1 o a=>o.den ρ (a.den ρ)
 | .c2 o a b=>o.den (a.den ρ) (b.den ρ)
 | .c3 o a b c=>o.den ρ (a.den ρ) (b.den ρ) (c.den ρ)
 | .ife a b x y=>{ i:=if (a.den ρ).i = (b.den ρ).i then (x.den ρ).i else (y.den ρ).i }

def T.row:List T->T
 | []=>.rnil
 | t :: ts=>.rcons t (T.row ts)

inductive SV where
 | one (t:T)
 | agg (ts:List T)
 | tup (vs:List (Bool × List T))
 | fn (f:Fn) (first caps:List T)
 deriving Inhabited

def qc (ρ:Env) (ts:List T):List Value:=ts.map fun t=>(t.den ρ).v

def qeQ (ρ:Env):Bool × List T->Value
 | (true,ts)=>.agg (qc ρ ts).toArray
 | (false,ts)=>(qc ρ ts).headD .nilFunc

def SV.den (ρ:Env):SV->Value
 | .one t=>(t.den ρ).v
 | .agg ts=>.agg (qc ρ ts).toArray
 | .tup vs=>.tuple (vs.map (qeQ ρ)).toArray
 | .fn f first caps=>.func f (qc ρ first).toArray (qc ρ caps).toArray

inductive CK where
 | int (k:IntKind)
 | bool
 | any
 deriving Inhabited,DecidableEq

def CK.fits:CK->Value->Bool
 | .int k,.int k' _=>k == k'
 | .bool,.bool _=>true
 | .any,v=>v.oneCell'
 | _,_=>false

def qu (pat:List CK) (row:List Value):Prop:=row.length = pat.length/\∀ (c:Nat) (k:CK) (v:Value),pat[c]? = some k->row[c]? = some v->CK.fits k v = true

inductive SH where
 | cells (r:Nat) (ty:TypeId) (cs:List T)
 | arr (r:Nat) (ty:TypeId) (pat:List CK) (d cap:T)
 | abs (n t:Nat)
 deriving Inhabited

def qU (c:Array Value) (o:Nat) (pat:List CK) (d:List (List Value)):Prop :=
 ∀ (i:Nat) (row:List Value),d[i]? = some row->qu pat row/\∀ (k:Nat) (v:Value),row[k]? = some v->c[o + i * pat.length + k]? = some v

def Rd (h:Hp) (pat:List CK) (v:Value) (d:List (List Value)):Prop :=
 (∃ a,v = .slice a 0 0/\d = []) ∨
 ∃ b o cap c ty fr,v = .slice (some ⟨b,o,none⟩) d.length cap/\d.length <= cap/\h b = some (.cells c ty fr)/\qU c o pat d

def Hp.free (h:Hp):Prop:=∀ (b:Nat) (o:Obj),h b = some o->∃ c ty,o = .cells c ty (0,0)

def SH.den (ρ:Env):SH->Hp->Prop
 | .cells r ty cs,h=>∃ b,(ρ r).r = some ⟨b,0,none⟩/\h b = some (.cells (qc ρ cs).toArray ty (0,0))
 | .arr r ty pat d cap,h =>
  ((ρ r).r = none/\(d.den ρ).d = []/\(cap.den ρ).i = 0) ∨
  ∃ b c,(ρ r).r = some ⟨b,0,none⟩/\h b = some (.cells c ty (0,0))/\c.size = (cap.den ρ).i.toNat * pat.length /\
   ((d.den ρ).d.length:Int) <= (cap.den ρ).i/\qU c 0 pat (d.den ρ).d
 | .abs n t,h=>Hp.le (ρ n).h h/\(Nat.blt t 1001 = true->(ρ n).h.free)

def SH.roden (ρ:Env):SH->Hp->Prop
 | .cells r _ cs,h=>∃ b o c ty fr,(ρ r).r = some ⟨b,o,none⟩/\h b = some (.cells c ty fr)/\∀ (k:Nat) (v:Value),(qc ρ cs)[k]? = some v->c[o + k]? = some v
 | .arr r _ pat d _,h =>
  (d.den ρ).d = [] ∨
  ∃ b o c ty fr,(ρ r).r = some ⟨b,o,none⟩/\h b = some (.cells c ty fr)/\qU c o pat (d.den ρ).d
 | .abs n _,h=>Hp.le (ρ n).h h


theorem qzD (bs:ByteArray):∀ (n i:Nat) (r:List UInt8),bs.size - i = n->ByteArray.toList.loop bs i r = r.reverse ++ bs.data.toList.drop i
 | 0,i,r,h=>by
  unfold ByteArray.toList.loop
  have hs:bs.size = bs.data.size:=rfl
  rw [if_neg (by omega),List.drop_eq_nil_of_le (by simp; omega),List.append_nil]
 | n + 1,i,r,h=>by
  unfold ByteArray.toList.loop
  have hs:bs.size = bs.data.size:=rfl
  have hi:i < bs.data.toList.length:=by simp; omega
  rw [if_pos (by omega),qzD bs n (i + 1) _ (by omega),List.drop_eq_getElem_cons hi,List.reverse_cons,List.append_assoc]
  congr 1
  simp only [List.singleton_append,List.cons.injEq,and_true]
  show bs.data[i]! = _
  have hi2:i < bs.data.size:=by simpa using hi
  rw [getElem!_pos bs.data i hi2]
  simp
theorem qf8 (s:ByteArray):s.toList = s.data.toList:=by
 unfold ByteArray.toList
 rw [qzD _ _ 0 [] rfl]
 simp
theorem qBa (l:List UInt8):ByteArray.toList ⟨l.toArray⟩ = l:=by rw [qf8]
theorem qvw (s:ByteArray):(⟨(qaK (.string s)).toArray⟩:ByteArray) = s:=by
 simp only [qaK,qf8]
theorem qjW (l:List UInt8):qaK (.string ⟨l.toArray⟩) = l:=qBa l


def Hp.disj (h1 h2:Hp):Prop:=∀ b,h1 b = none∨h2 b = none
def Hp.union (h1 h2:Hp):Hp:=fun b=>(h1 b).or (h2 b)
def Hp.sub (h:Hp) (w:World):Prop:=∀ b o,h b = some o->w.heap[b]? = some o
def Hp.one (b:Nat) (o:Obj):Hp:=fun b'=>if b' = b then some o else none
def Hp.upd (h:Hp) (b:Nat) (o:Obj):Hp:=fun b'=>if b' = b then some o else h b'
def Hp.emp:Hp:=fun _=>none
def Hp.del (h:Hp) (b:Nat):Hp:=fun b'=>if b' = b then none else h b'
def qA0 (h:Hp) (el:Nat) (pat:List CK) (v:Value) (d:List (List Value)) (h':Hp) (r:Option Addr) (cap:Int):Prop :=
 v = .slice (qm r 0) d.length cap.toNat/\((r = none/\d = []/\cap = 0/\h' = h) ∨
  ∃ b c,r = some ⟨b,0,none⟩/\h b = some (.cells c el (0,0))/\c.size = cap.toNat * pat.length/\(d.length:Int) <= cap/\qU c 0 pat d/\h' = h.del b)

def qW (ρ:Env):List SH->Hp->Prop
 | [],_=>True
 | x :: xs,h=>∃ h1 h2,Hp.disj h1 h2/\h = Hp.union h1 h2/\x.den ρ h1/\qW ρ xs h2

end Go.Eng

set_option linter.unusedSimpArgs false
set_option linter.unusedVariables false
namespace Go.Eng
open Go


def T.isLit:T->Option Int
 | .c0 (.lit z)=>some z
 | _=>none
def qan (a b:T):T :=
 match a.isLit,b.isLit with
 | some x,some y=>.lit (x + y)
 | some x,none=>if x = 0 then b else .plus a b
 | none,some y=>if y = 0 then a else .plus a b
 | none,none=>.plus a b
def qhK (a b:T):T :=
 match a.isLit,b.isLit with
 | some x,some y=>.lit (x - y)
 | none,some y=>if y = 0 then a else .minus a b
 | _,_=>if a.same b then .lit 0 else .minus a b
def qgx (op:BinOp) (k:IntKind) (a b:T):T :=
 match a.isLit,b.isLit with
 | some x,some y=>.lit (qe op k x y)
 | _,_=>.arith op k a b
def qwz (k:IntKind) (a:T):T :=
 match a.isLit with
 | some x=>.lit (k.wrap x)
 | none=>.conv k a
def qr (op:BinOp) (a b:T):T :=
 match a.isLit,b.isLit with
 | some x,some y=>.bl (qH op x y)
 | _,_=>if a.same b then .bl (qH op 0 0) else .cmp op a b
def qiJ:T->T
 | .c0 (.bl b)=>.bl (!b)
 | .c1 .not a=>a
 | a=>.not a
def qnA (a b:T):T :=
 match a,b with
 | .c0 (.bl x),.c0 (.bl y)=>.bl (x == y)
 | a,b=>if a.same b then .bl true else .beq a b
def que (a b:T):T :=
 match a,b with
 | .c0 (.bl true),b=>b
 | .c0 (.bl false),_=>.bl false
 | a,.c0 (.bl true)=>a
 | a,b=>.and a b
def q10 (a b:T):T :=
 match a.isLit,b.isLit with
 | some x,some y=>.lit (if y < x then y else x)
 | _,_=>.imin a b
def q1y (a b:T):T :=
 match a.isLit,b.isLit with
 | some x,some y=>.lit (if y > x then y else x)
 | _,_=>.imax a b
def qe7 (a b x y:T):T :=
 match a.isLit,b.isLit with
 | some u,some v=>if u = v then x else y
 | _,_=>if a.same b then x else .ife a b x y
def qdp (l:List T) (i:Nat) (vs:List T):List T:=l.take i ++ vs ++ l.drop (i + vs.length)

def slen:T->Option Nat
 | .c0 .dnil=>some 0
 | .c0 .rnil=>some 1
 | .c2 .rcons _ _=>some 1
 | .c2 .drep n _=>match n.isLit with
  | some z=>some z.toNat
  | none=>none
 | .c2 .dapp a b=>match slen a,slen b with
  | some n,some m=>some (n + m)
  | _,_=>none
 | .c3 (.dput _) d _ _=>slen d
 | .c3 (.xput _) d _ _=>slen d
 | .c3 .xcopy d _ _=>slen d
 | _=>none
def qaS:T->Option (List T)
 | .c0 .rnil=>some []
 | .c2 .rcons v r=>match qaS r with
  | some ts=>some (v :: ts)
  | none=>none
 | _=>none
def qM:T->Nat->Option (List T)
 | .c0 .rnil,0=>some []
 | .c2 .rcons v r,0=>qaS (.c2 .rcons v r)
 | .c2 .drep n r,i=>match n.isLit with
  | some z=>if Nat.blt i z.toNat then qaS r else none
  | none=>none
 | .c2 .dapp a b,i=>match slen a with
  | some n=>if Nat.blt i n then qM a i else qM b (i - n)
  | none=>none
 | .c3 (.dput c) d e r,i=>match e.isLit,qM d i,qaS r with
  | some z,some ts,some vs=>if Nat.beq z.toNat i then (if Nat.ble (c + vs.length) ts.length then some (qdp ts c vs) else none) else some ts
  | _,_,_=>none
 | _,_=>none
def qrv (d e:T):Option (List T) :=
 match e.isLit with
 | some z=>qM d z.toNat
 | none=>none

def qbq:T->T
 | .c0 .dnil=>.lit 0
 | .c2 .drep n r=>.dlen (.drep n r)
 | .c3 (.dput _) d _ _=>qbq d
 | .c3 (.xput _) d _ _=>qbq d
 | .c3 .xcopy d _ _=>qbq d
 | d=>.dlen d
def qR (d:T):T :=
 match slen d with
 | some n=>.lit (n:Int)
 | none=>qbq d

def qdD:T->Bool
 | .c0 (.lit z)=>decide (0 <= z)
 | .c1 .dlen _=>true
 | .c1 .slen _=>true
 | .c2 .plus a b=>qdD a && qdD b
 | .c2 .imin a b=>qdD a && qdD b
 | _=>false
def qZ (t:T):T:=if qdD t then .bl true else qr .leq (.lit 0) t


structure S where
 env:List (Nat × SV)
 heap:List SH
 ro:List SH
 pc:List (T × Bool)
 nx:Nat
 nt:Nat
 vw:List (List Nat × SH):=[]
 deriving Inhabited

def qaV (t:Nat):List (Nat × SV)->Option SV
 | []=>none
 | (k,v) :: r=>if Nat.beq t k then some v else qaV t r
def qhn (t:Nat) (v:SV):List (Nat × SV)->List (Nat × SV)
 | []=>[(t,v)]
 | (k,u) :: r=>if Nat.beq t k then (t,v) :: r else if Nat.blt t k then (t,v) :: (k,u) :: r else (k,u) :: qhn t v r
def qn9 (c:T):List (T × Bool)->Option Bool
 | []=>none
 | (k,b) :: r=>if c.same k then some b else qn9 c r
def qc5 (c:T) (pc:List (T × Bool)):Option Bool :=
 match c with
 | .c0 (.bl b)=>some b
 | .c1 .not a=>(qn9 a pc).map (!·)
 | c=>qn9 c pc

def qjG:Value->Option T
 | .int k n=>some (.vint k (.lit n))
 | .bool b=>some (.vbool (.bl b))
 | .pointer none=>some .vnilp
 | .slice none 0 0=>some .vnils
 | .nilFunc=>some .vnilf
 | .map none=>some .vnilm
 | .string s=>some (.vstr s.data.toList)
 | _=>none
def qe4:List Value->Option (List T)
 | []=>some []
 | v :: r=>match qjG v,qe4 r with
  | some t,some ts=>some (t :: ts)
  | _,_=>none
def ofValue:Value->Option SV
 | .agg cs=>(qe4 cs.toList).map .agg
 | v=>(qjG v).map .one

def opd (s:S):Operand->Option SV
 | .tmp t=>qaV t s.env
 | .const v=>ofValue v
 | .func f=>some (.fn (.func f) [] [])
 | .global _=>none
def opds (s:S):List Operand->Option (List SV)
 | []=>some []
 | x :: r=>match opd s x,opds s r with
  | some v,some vs=>some (v :: vs)
  | _,_=>none

def SV.cells:SV->Option (List T)
 | .one t=>some [t]
 | .agg ts=>some ts
 | _=>none
def qdr:List SV->Option (List T)
 | []=>some []
 | .one t :: r=>(qdr r).map (t :: ·)
 | _=>none


def qdm (P:Program) (t:TypeId):Option Bool :=
 match P.underlying t with
 | some (.struct _) | some (.array _ _)=>some true
 | some _=>some false
 | none=>none
def qN (P:Program) (t:TypeId):Option Nat:=(P.info? t).map (·.size)
def qbM (P:Program) (t:TypeId):Option (List T) :=
 match (P.info? t).bind (·.zero) with
 | some v=>qe4 v.cells.toList
 | none=>none
def qqS (P:Program) (t:TypeId) (f:Nat):Option (Nat × TypeId) :=
 match P.underlying t with
 | some (.struct fs) =>
  match fs[f]? with
  | some x =>
   match qN P x.type with
   | some (_ + 1)=>some (x.offset,x.type)
   | _=>none
  | none=>none
 | _=>none

def qaf (r:Nat):List SH->Option (Nat × SH)
 | []=>none
 | .cells r' ty cs :: l=>if Nat.beq r r' then some (0,.cells r' ty cs) else (qaf r l).map fun (k,x)=>(k + 1,x)
 | .arr r' ty pat d cap :: l=>if Nat.beq r r' then some (0,.arr r' ty pat d cap) else (qaf r l).map fun (k,x)=>(k + 1,x)
 | .abs _ _ :: l=>(qaf r l).map fun (k,x)=>(k + 1,x)

def qbm (d e:T):List CK->Nat->List T
 | [],_=>[]
 | .int k :: r,c=>.vint k (.icell d e c) :: qbm d e r (c + 1)
 | .bool :: r,c=>.vbool (.bcell d e c) :: qbm d e r (c + 1)
 | .any :: r,c=>.vcell d e c :: qbm d e r (c + 1)

def SH.reg:SH->Option Nat
 | .cells r ..=>some r
 | .arr r ..=>some r
 | .abs _ _=>none
def qcI (n:Nat):List SH->Bool
 | []=>false
 | .abs m _ :: l=>Nat.beq n m || qcI n l
 | _ :: l=>qcI n l
def S.piece (s:S) (n:Nat):Bool:=qcI n s.heap || qcI n s.ro
def q7M (r:Nat) (x:SH):Bool :=
 match x.reg with
 | some q=>Nat.beq r q
 | none=>false
def qrd (s:S) (r:Nat):List (List Nat × SH)->Option (Nat × SH)
 | []=>none
 | (ms,x) :: l=>if q7M r x && ms.all s.piece then some (0,x) else qrd s r l
def S.look (s:S) (r:Nat):Option (Nat × SH):=((qaf r s.heap).orElse (fun _=>qaf r s.ro)).orElse (fun _=>qrd s r s.vw)

def qbS (k:CK):List CK->Nat
 | []=>0
 | x :: l=>if x = k then qbS k l + 1 else 0
def qpU (x:SH) (e:T) (p c n:Nat):Option (List T × List T) :=
 match x with
 | .cells _ _ cs =>
  match e.isLit with
  | some z=>if 0 <= z/\z.toNat * p + c + n <= cs.length then some ((cs.drop (z.toNat * p + c)).take n,[]) else none
  | none=>none
 | .arr _ _ pat d _ =>
  if Nat.beq p pat.length && Nat.ble (c + n) p then
   match qrv d e with
   | some ts=>some ((ts.drop c).take n,[])
   | none=>some (qbm d e ((pat.drop c).take n) c,[qZ e,qr .lss e (qR d)])
  else if Nat.beq p 1 && Nat.beq n 1 then
   match pat[c]? with
   | some (.int k)=>some ([.vint k (.c2 (.xint c) d e)],[qZ e,qr .lss e (.lit (qbS (.int k) (pat.drop c):Nat)),qr .lss (.lit 0) (qR d)])
   | some .bool=>some ([.vbool (.c2 (.xbool c) d e)],[qZ e,qr .lss e (.lit (qbS .bool (pat.drop c):Nat)),qr .lss (.lit 0) (qR d)])
   | _=>none
  else none
 | .abs _ _=>none

def qvO (x:SH) (e:T) (p:Nat):Nat :=
 match x,e.isLit,p with
 | .arr _ _ pat _ _,some 0,0=>pat.length
 | _,_,p=>p
def quc (x:SH) (e:T) (p c n:Nat):Option (List T × List T):=qpU x e (qvO x e p) c n

def qqj:CK->T->Bool
 | .int k,.c1 (.vint k') _=>decide (k = k')
 | .bool,.c1 .vbool _=>true
 | .any,.c1 (.vptr _ _ _) _=>true
 | .any,.c0 .vnilp=>true
 | .any,.c0 .vnils=>true
 | .any,.c0 .vnilm=>true
 | .any,.c3 (.vslice _ _) _ _ _=>true
 | .any,.var _=>true
 | .any,.c2 (.vcell _) (.var _) _=>true
 | _,_=>false
def qfb:List CK->List T->Bool
 | _,[]=>true
 | k :: ks,t :: ts=>qqj k t && qfb ks ts
 | [],_ :: _=>false

def qjZ (x:SH) (e:T) (p c:Nat) (vs:List T):Option (SH × List T) :=
 match x with
 | .cells r ty cs =>
  match e.isLit with
  | some z=>if 0 <= z/\z.toNat * p + c + vs.length <= cs.length then some (.cells r ty (qdp cs (z.toNat * p + c) vs),[]) else none
  | none=>none
 | .arr r ty pat d cap =>
  if Nat.beq p pat.length && Nat.ble (c + vs.length) p && qfb (pat.drop c) vs then
   some (.arr r ty pat (.dput d e c (T.row vs)) cap,[qZ e,qr .lss e (qR d)])
  else if Nat.beq p 1 then
   match pat[c]?,vs with
   | some (.int k),[v]=>if qqj (.int k) v then some (.arr r ty pat (.c3 (.xput c) d e v) cap,[qZ e,qr .lss e (.lit (qbS (.int k) (pat.drop c):Nat)),qr .lss (.lit 0) (qR d)]) else none
   | some .bool,[v]=>if qqj .bool v then some (.arr r ty pat (.c3 (.xput c) d e v) cap,[qZ e,qr .lss e (.lit (qbS .bool (pat.drop c):Nat)),qr .lss (.lit 0) (qR d)]) else none
   | _,_=>none
  else none
 | .abs _ _=>none


structure R1 where
 needs:List T
 fresh:Nat
 heap:List SH
 val:Option SV
 deriving Inhabited

def quiet (s:S) (v:SV):R1:={ needs:=[],fresh:=0,heap:=s.heap,val:=some v }

def qhE (s:S) (r:Nat) (e:T):List T :=
 match s.look r with
 | some (_,.cells ..)=>[]
 | some (_,.arr _ _ _ d _)=>[qZ e,qr .lss e (qR d)]
 | _=>[.not (.isnil r)]

def qhD (place:Nat->Option (Nat × Nat)) (cells:List T):List (Nat × List T)->Option (List T)
 | []=>some cells
 | (i,vs) :: rest =>
  match place i with
  | none=>none
  | some (off,size)=>if Nat.beq vs.length size && Nat.ble (off + vs.length) cells.length then qhD place (qdp cells off vs) rest else none

def qfP (s:S):List (Nat × Operand)->Option (List (Nat × List T))
 | []=>some []
 | (i,x) :: r=>match (opd s x).bind SV.cells,qfP s r with
  | some cs,some l=>some ((i,cs) :: l)
  | _,_=>none

def qiv (P:Program):List Field->Option (List (Nat × Nat))
 | []=>some []
 | f :: fs=>match P.info? f.type,qiv P fs with
  | some i,some l=>some ((f.offset,i.size) :: l)
  | _,_=>none
def q4E (P:Program) (t:TypeId):Option (Nat->Option (Nat × Nat)) :=
 match P.underlying t with
 | some (.struct fs)=>(qiv P fs.toList).map fun l=>fun i=>l[i]?
 | some (.array _ e)=>(qN P e).map fun n=>fun i=>some (i * n,n)
 | _=>none

def qbE (zero:List T):Nat->List T
 | 0=>[]
 | n + 1=>zero ++ qbE zero n

def qaw:T->CK
 | .c1 (.vint k) _=>.int k
 | .c1 .vbool _=>.bool
 | _=>.any

def qrj (s:S) (r:Nat):T :=
 match s.look r with
 | some (_,.cells ..)=>.bl false
 | some (_,.arr _ _ _ d _)=>que (qr .eql (qR d) (.lit 0)) (.isnil r)
 | _=>.isnil r

def qrL (P:Program) (f:TypeId->List T->List T->Option T) (cs ds:List T):List Field->Option T
 | []=>some (.bl true)
 | x :: fs =>
  if x.name ≠ "_" then
   match qdm P x.type,qN P x.type,qrL P f cs ds fs with
   | some ag,some n,some r =>
    if (ag || Nat.beq n 1) && Nat.ble (x.offset + n) cs.length && Nat.ble (x.offset + n) ds.length then
     (f x.type ((cs.drop x.offset).take n) ((ds.drop x.offset).take n)).map fun a=>que a r
    else none
   | _,_,_=>none
  else qrL P f cs ds fs
def eqT (P:Program):Nat->TypeId->List T->List T->Option T
 | 0,_,_,_=>none
 | n + 1,t,cs,ds =>
  match P.underlying t with
  | some (.int _)=>match cs,ds with
   | [.c1 (.vint k) a],[.c1 (.vint k') b]=>if k = k' then some (qr .eql a b) else none
   | _,_=>none
  | some .bool=>match cs,ds with
   | [.c1 .vbool a],[.c1 .vbool b]=>some (qnA a b)
   | _,_=>none
  | some (.struct fs)=>if P.stoodInHeld t then none else qrL P (eqT P n) cs ds fs.toList
  | _=>none
def q2j (P:Program) (t:TypeId) (cs ds:List T):Option T :=
 if P.eqGuardType P.depth t then none else
 match P.underlying t with
 | some (.struct _)=>eqT P 8 t cs ds
 | _=>none

def qa6 (k:IntKind):List T->Bool
 | []=>true
 | .c1 (.vint k') _ :: l=>decide (k = k') && qa6 k l
 | _ :: _=>false
def q2c (P:Program) (t:TypeId) (cs ds:List T):Option T :=
 if P.eqGuardType P.depth t then none else
 match P.underlying t with
 | some (.array n el) =>
  match P.underlying el,qN P el,qdm P el with
  | some (.int k),some 1,some false=>if Nat.beq cs.length n && Nat.beq ds.length n && qa6 k cs && qa6 k ds then some (.c2 .req (T.row cs) (T.row ds)) else none
  | _,_,_=>none
 | _=>none
def q1G (P:Program) (t:TypeId) (cs ds:List T):Option T :=
 match q2j P t cs ds with
 | some c=>some c
 | none=>q2c P t cs ds
def q50:List T->Option IntKind
 | .c1 (.vint k) _ :: _=>some k
 | _=>none
def qlm:List T->Bool
 | []=>true
 | .c1 .vbool _ :: l=>qlm l
 | _ :: _=>false
def qu0 (P:Program) (s:S) (n:Nat) (el:TypeId) (ts:List T) (j:T):Option R1 :=
 match qN P el,qdm P el with
 | some 1,some false =>
  if Nat.beq ts.length n then
   match j.isLit with
   | some z=>if 0 <= z/\z < n then (ts[z.toNat]?).map fun t=>quiet s (.one t) else none
   | none =>
    match q50 ts with
    | some k=>if qa6 k ts then some { quiet s (.one (.vint k (.c2 (.xint 0) (T.row ts) j))) with needs:=[qZ j,qr .lss j (.lit (n:Int))] } else none
    | none=>if qlm ts then some { quiet s (.one (.vbool (.c2 (.xbool 0) (T.row ts) j))) with needs:=[qZ j,qr .lss j (.lit (n:Int))] } else none
  else none
 | _,_=>none

def qfg:T->Bool
 | .c0 (.vstr _)=>true
 | .c1 .vbytes _=>true
 | .c1 .sval _=>true
 | .c2 .sapp _ _=>true
 | .c3 .ssub _ _ _=>true
 | _=>false
def qbR:T->T
 | .c0 (.vstr l)=>.lit (l.length:Int)
 | .c1 .vbytes d=>qR d
 | .c2 .sapp a b=>qan (qbR a) (qbR b)
 | t=>.c1 .slen t
def quC (a b:T):T :=
 match a,b with
 | .c0 (.vstr []),b=>b
 | a,.c0 (.vstr [])=>a
 | a,b=>.c2 .sapp a b
def qyY (op:BinOp) (P:Program) (ty:TypeId) (s:S) (x y:SV):Option R1 :=
 match x,y with
 | .one (.c1 (.vint k) a),.one (.c1 (.vint k') b) =>
  match op with
  | .shl | .shr=>some { quiet s (.one (.vint k (qgx op k a b))) with needs:=[qr .geq b (.lit 0)] }
  | .quo | .rem=>if k = k' then some { quiet s (.one (.vint k (qgx op k a b))) with needs:=[qr .neq b (.lit 0)] } else none
  | .add | .sub | .mul | .and | .or | .xor | .andNot=>if k = k' then some (quiet s (.one (.vint k (qgx op k a b)))) else none
  | .eql | .neq | .lss | .leq | .gtr | .geq=>if k = k' then some (quiet s (.one (.vbool (qr op a b)))) else none
 | .one (.c1 .vbool a),.one (.c1 .vbool b) =>
  match op,P.underlying ty with
  | .eql,some .bool=>some (quiet s (.one (.vbool (qnA a b))))
  | .neq,some .bool=>some (quiet s (.one (.vbool (qiJ (qnA a b)))))
  | _,_=>none
 | .one (.c1 (.vptr r _ _) _),.one (.c0 .vnilp) =>
  match op,P.underlying ty with
  | .eql,some (.pointer _)=>some (quiet s (.one (.vbool (qrj s r))))
  | .neq,some (.pointer _)=>some (quiet s (.one (.vbool (qiJ (qrj s r)))))
  | _,_=>none
 | .one (.c0 .vnilp),.one (.c0 .vnilp) =>
  match op,P.underlying ty with
  | .eql,some (.pointer _)=>some (quiet s (.one (.vbool (.bl true))))
  | .neq,some (.pointer _)=>some (quiet s (.one (.vbool (.bl false))))
  | _,_=>none
 | .one (.c3 (.vslice r _) _ _ _),.one (.c0 .vnils) =>
  match op,P.underlying ty with
  | .eql,some (.slice _)=>some (quiet s (.one (.vbool (qrj s r))))
  | .neq,some (.slice _)=>some (quiet s (.one (.vbool (qiJ (qrj s r)))))
  | _,_=>none
 | .one (.c0 .vnils),.one (.c0 .vnils) =>
  match op,P.underlying ty with
  | .eql,some (.slice _)=>some (quiet s (.one (.vbool (.bl true))))
  | .neq,some (.slice _)=>some (quiet s (.one (.vbool (.bl false))))
  | _,_=>none
 | .agg cs,.agg ds =>
  match op,q1G P ty cs ds with
  | .eql,some c=>some (quiet s (.one (.vbool c)))
  | .neq,some c=>some (quiet s (.one (.vbool (qiJ c))))
  | _,_=>none
 | .one a,.one b =>
  if qfg a && qfg b then
   match op with
   | .eql=>some (quiet s (.one (.vbool (.c2 .veq a b))))
   | .neq=>some (quiet s (.one (.vbool (qiJ (.c2 .veq a b)))))
   | .lss=>some (quiet s (.one (.vbool (.c2 .slt a b))))
   | .add=>some { quiet s (.one (quC a b)) with needs:=[qr .leq (qan (qbR a) (qbR b)) (.lit 9223372036854775807)] }
   | _=>none
  else none
 | _,_=>none

def qes (P:Program) (t:TypeId):Option Nat:=(P.info? t).map (·.bytes)

def qf5 (pat:List CK) (p:Nat):Nat->List T->Option T
 | 0,[]=>some .dnil
 | 0,_ :: _=>none
 | n + 1,cs =>
  if Nat.ble p cs.length && qfb pat (cs.take p) then
   match qf5 pat p n (cs.drop p) with
   | some r=>some (match n with | 0=>T.row (cs.take p) | _=>.dapp (T.row (cs.take p)) r)
   | none=>none
  else none

def qjV (off:T):Option (Nat × T × List T) :=
 match off with
 | .c0 (.lit z)=>if 0 <= z then some (z.toNat,.lit 0,[]) else none
 | .c2 .plus (.c0 (.lit z)) l=>if 0 <= z then some (z.toNat,l,[]) else none
 | .ife a b _ (.c2 .plus (.c0 (.lit z)) l)=>if 0 <= z then some (z.toNat,l,[qr .neq a b]) else none
 | .var n=>some (0,.var n,[])
 | _=>none
def qg8:SH->Option (List CK × T)
 | .cells _ _ cs=>some (cs.map qaw,T.row cs)
 | .arr _ _ pat d _=>some (pat,d)
 | .abs _ _=>none
def qgv (k:CK) (pat:List CK) (z:Nat) (l len d:T) (ns:List T):List T:=ns ++ [qZ l,qZ len,qr .leq (qan l len) (.lit (qbS k (pat.drop z):Nat)),qr .lss (.lit 0) (qR d)]
structure Src where
 d:T
 len:T
 needs:List T
 deriving Inhabited

def qpF (pat:List CK) (y:SH) (off len:T):Option Src :=
 match qg8 y,qjV off,pat with
 | some (pat',d),some (z,l,ns),[.int k]=>if Nat.ble z pat'.length then some ⟨.c3 .xrows d off len,len,qgv (.int k) pat' z l len d ns⟩ else none
 | _,_,_=>none
def qg9 (s:S) (pat:List CK) (x:SV):Option Src :=
 match x with
 | .one (.c0 .vnils)=>some ⟨.dnil,.lit 0,[]⟩
 | .one (.c3 (.vslice r p) off len _) =>
  if !(Nat.beq p pat.length) then none else
  match s.look r with
  | some (_,.cells rr ty cs) =>
   match off.isLit,len.isLit with
   | some 0,some n =>
    if 0 <= n/\n.toNat * p <= cs.length then (qf5 pat p n.toNat (cs.take (n.toNat * p))).map fun d=>⟨d,len,[]⟩ else none
   | _,_=>qpF pat (.cells rr ty cs) off len
  | some (_,.arr rr ty pat' d cap) =>
   if !(decide (pat' = pat)) then qpF pat (.arr rr ty pat' d cap) off len else
   match off.isLit with
   | some 0=>if len.same (qR d) then some ⟨d,len,[]⟩ else some ⟨.dtake d len,len,[qZ len,qr .leq len (qR d)]⟩
   | _=>some ⟨.dtake (.ddrop d off) len,len,[qZ off,qZ len,qr .leq (qan off len) (qR d)]⟩
  | _=>none
 | _=>none

def qzX (s:S) (ty:TypeId) (pat:List CK) (x:SV):Option (T × T × Option Nat × List T) :=
 match x with
 | .one (.c0 .vnils)=>some (.dnil,.lit 0,none,[])
 | .one (.c3 (.vslice r p) off len cap) =>
  if !(Nat.beq p pat.length) then none else
  match off.isLit,qaf r s.heap with
  | some 0,some (k,.arr _ ty' pat' d cap') =>
   if Nat.beq ty ty' && decide (pat' = pat) then some (d,len,some k,[qr .eql len (qR d),qr .eql cap cap']) else none
  | some 0,some (k,.cells _ ty' []) =>
   if Nat.beq ty ty' then some (.dnil,.lit 0,some k,[qr .eql len (.lit 0),qr .eql cap (.lit 0)]) else none
  | some 0,some (k,.cells _ ty' (c :: cs)) =>
   match len.isLit with
   | some n =>
    match qf5 pat p n.toNat (c :: cs) with
    | some d=>if Nat.beq ty ty' && decide (0 <= n) && Nat.beq (c :: cs).length (n.toNat * p) then some (d,len,some k,[qr .eql cap len]) else none
    | none=>none
   | none=>none
  | _,_=>none
 | _=>none

def T.inB (n:Nat):T->Bool
 | .var m=>Nat.blt m n
 | .c0 (.isnil r)=>Nat.blt r n
 | .c0 _=>true
 | .c1 (.vptr r _ _) a=>Nat.blt r n && a.inB n
 | .c1 _ a=>a.inB n
 | .c2 _ a b=>a.inB n && b.inB n
 | .c3 (.vslice r _) a b c=>Nat.blt r n && a.inB n && b.inB n && c.inB n
 | .c3 _ a b c=>a.inB n && b.inB n && c.inB n
 | .ife a b x y=>a.inB n && b.inB n && x.inB n && y.inB n

def SH.inNx0 (n:Nat):SH->Bool
 | .cells r _ cs=>Nat.blt r n && cs.all (T.inB n)
 | .arr r _ _ d cap=>Nat.blt r n && d.inB n && cap.inB n
 | .abs m _=>Nat.blt m n

def qiC (a b:T):T :=
 match a with
 | .c0 .dnil=>b
 | a=>.dapp a b

def qwY (l:List SH):Option Nat->List SH
 | none=>l
 | some k=>l.eraseIdx k

def qkK (P:Program) (s:S) (t:TypeId) (x y:SV):Option R1 :=
 match P.underlying t with
 | some (.slice el) =>
  match qbM P el,qN P el,qes P el with
  | some z,some n,some bz =>
   if Nat.beq z.length n && Nat.blt 0 n && Nat.blt 0 bz then
    match qzX s el (z.map qaw) x,qg9 s (z.map qaw) y with
    | some (d,len,k,n1),some src=>if !((qiC d src.d).inB s.nx && (qan len src.len).inB s.nx) then none else some { needs:=n1 ++ src.needs ++ [qr .leq (.tims (.lit bz) (qan len src.len)) (.lit 140737488355328)],fresh:=2,heap:=.arr s.nx el (z.map qaw) (qiC d src.d) (.var (s.nx + 1)) :: qwY s.heap k,val:=some (.one (.vslice s.nx (.lit 0) (qan len src.len) (.var (s.nx + 1)) n)) }
    | _,_=>none
   else none
  | _,_,_=>none
 | _=>none

def qoo (P:Program) (s:S) (t:TypeId) (l c:SV):Option R1 :=
 match P.underlying t,l,c with
 | some (.slice el),.one (.c1 (.vint _) l),.one (.c1 (.vint _) c) =>
  match qbM P el,qN P el,qes P el with
  | some z,some n,some bz =>
   if Nat.beq z.length n && Nat.blt 0 n && Nat.blt 0 bz then
    some { needs:=[qZ l,qr .leq l c,qr .leq (.tims (.lit bz) c) (.lit 281474976710656)],fresh:=1,heap:=.arr s.nx el (z.map qaw) (.drep l (T.row z)) c :: s.heap,val:=some (.one (.vslice s.nx (.lit 0) l c n)) }
   else none
  | _,_,_=>none
 | _,_,_=>none

def qiB (P:Program) (s:S) (t:TypeId) (l:T):Option R1 :=
 match P.underlying t with
 | some (.slice el) =>
  match qbM P el,qN P el,qes P el with
  | some z,some n,some bz =>
   if Nat.beq z.length n && Nat.blt 0 n && Nat.blt 0 bz && l.inB s.nx then
    some { needs:=[qZ l,qr .leq (.tims (.lit bz) l) (.lit 140737488355328)],fresh:=2,heap:=.arr s.nx el (z.map qaw) (.drep l (T.row z)) (.var (s.nx + 1)) :: s.heap,val:=some (.one (.vslice s.nx (.lit 0) l (.var (s.nx + 1)) n)) }
   else none
  | _,_,_=>none
 | _=>none

def qbW (s:S) (dflt:T):Option Operand->Option T
 | none=>some dflt
 | some x=>match opd s x with
  | some (.one (.c1 (.vint _) t))=>some t
  | _=>none

def quB (l m off:T):T :=
 match l.isLit with
 | some 0=>off
 | _=>qe7 m l off (qan off l)

def qrx (l m:T) (c:Nat):T :=
 match l.isLit with
 | some 0=>.lit (c:Int)
 | _=>qe7 m l (.lit (c:Int)) (.plus (.lit (c:Int)) l)

def qtb (P:Program) (s:S) (t:TypeId) (x:SV) (lo hi mx:Option Operand):Option R1 :=
 match P.underlying t,x with
 | some (.slice el),.one (.c0 .vnils) =>
  match qN P el,qbW s (.lit 0) lo,qbW s (.lit 0) hi,qbW s (.lit 0) mx with
  | some _,some (.c0 (.lit 0)),some (.c0 (.lit 0)),some (.c0 (.lit 0))=>if mx.isNone || hi.isSome then some (quiet s (.one .vnils)) else none
  | _,_,_,_=>none
 | some (.slice el),.one (.c3 (.vslice r p) off len cap) =>
  match qN P el,qbW s (.lit 0) lo,qbW s len hi,qbW s cap mx with
  | some n,some l,some h,some m =>
   if Nat.beq n p && (mx.isNone || hi.isSome) then
    some { quiet s (.one (.vslice r (quB l m off) (qhK h l) (qhK m l) p)) with
     needs:=[qZ off,qZ len,qZ cap,qZ l,qr .leq l h,qr .leq h m,qr .leq m cap] }
   else none
  | _,_,_,_=>none
 | some (.array n el),.one (.c1 (.vptr r _ c) e) =>
  match qN P el,e.isLit,qbW s (.lit 0) lo,qbW s (.lit (n:Int)) hi,qbW s (.lit (n:Int)) mx with
  | some 1,some 0,some l,some h,some m =>
   if mx.isNone || hi.isSome then
    some { quiet s (.one (.vslice r (qrx l m c) (qhK h l) (qhK m l) 1)) with
     needs:=[qZ l,qr .leq l h,qr .leq h m,qr .leq m (.lit (n:Int))] ++ qhE s r e }
   else none
  | _,_,_,_,_=>none
 | some .string,.one a =>
  if qfg a && mx.isNone then
   match qbW s (.lit 0) lo,qbW s (qbR a) hi with
   | some l,some h=>some { quiet s (.one (.c3 .ssub a l h)) with needs:=[qZ l,qr .leq l h,qr .leq h (qbR a)] }
   | _,_=>none
  else none
 | _,_=>none

def qp (P:Program) (s:S) (o:Oper):Option R1 :=
 match o.op with
 | .call { callee:=.builtin .append,args,argTypes } =>
  match args.toList,argTypes.toList with
  | [x,y],[t,t2] =>
   if Nat.beq t t2 then
    match opd s x,opd s y with
    | some a,some b=>qkK P s t a b
    | _,_=>none
   else
    match P.underlying t2,opd s x,opd s y with
    | some (.int _),some (.one (.c0 .vnils)),some (.one (.c1 (.vint _) l))=>qiB P s t l
    | _,_,_=>none
  | _,_=>none
 | .makeSlice t l c =>
  match opd s l,opd s c with
  | some a,some b=>qoo P s t a b
  | _,_=>none
 | .slice t x lo hi mx =>
  match opd s x with
  | some a=>qtb P s t a lo hi mx
  | none=>none
 | .move x | .assign x=>(opd s x).map (quiet s)
 | .pick c a b =>
  match opd s c with
  | some (.one (.c1 .vbool t)) =>
   match qc5 t s.pc with
   | some true=>(opd s a).map (quiet s)
   | some false=>(opd s b).map (quiet s)
   | none=>none
  | _=>none
 | .box ty x =>
  match (opd s x).bind SV.cells with
  | some cs=>some { needs:=[],fresh:=1,heap:=.cells s.nx ty cs :: s.heap,val:=some (.one (.vptr s.nx (.lit 0) 0 0)) }
  | none=>none
 | .alloc ty =>
  match qbM P ty with
  | some cs=>some { needs:=[],fresh:=1,heap:=.cells s.nx ty cs :: s.heap,val:=some (.one (.vptr s.nx (.lit 0) 0 0)) }
  | none=>none
 | .build t parts =>
  match qbM P t,q4E P t,qfP s parts.toList with
  | some z,some pl,some ps=>(qhD pl z ps).map fun cs=>quiet s (.agg cs)
  | _,_,_=>none
 | .buildSlice t len parts =>
  match P.underlying t with
  | some (.slice el) =>
   match qbM P el,qN P el,qfP s parts.toList with
   | some z,some n,some ps =>
    if Nat.beq z.length n && Nat.blt 0 n && Nat.ble (len * n) 16777216 then
     match qhD (fun i=>some (i * n,n)) (qbE z len) ps with
     | some cs=>some { needs:=[],fresh:=1,heap:=.cells s.nx el cs :: s.heap,val:=some (.one (.vslice s.nx (.lit 0) (.lit len) (.lit len) n)) }
     | none=>none
    else none
   | _,_,_=>none
  | _=>none
 | .load t a =>
  match opd s a,qdm P t,qN P t with
  | some (.one (.c1 (.vptr r p c) e)),some ag,some n =>
   match s.look r with
   | some (_,x) =>
    match quc x e p c n with
    | some (cs,needs)=>if ag then some { quiet s (.agg cs) with needs } else
     match cs with
     | [t]=>some { quiet s (.one t) with needs }
     | _=>none
    | none=>none
   | none=>none
  | _,_,_=>none
 | .store t a v =>
  match opd s a,(opd s v).bind SV.cells,qN P t with
  | some (.one (.c1 (.vptr r p c) e)),some vs,some n =>
   if Nat.beq vs.length n then
    match qaf r s.heap with
    | some (k,x)=>(qjZ x e p c vs).map fun (x',needs)=>{ needs,fresh:=0,heap:=s.heap.set k x',val:=none }
    | none=>none
   else none
  | _,_,_=>none
 | .nilCheck x =>
  match opd s x with
  | some (.one (.c1 (.vptr r p c) e))=>some { quiet s (.one (.vptr r e p c)) with needs:=qhE s r e }
  | _=>none
 | .binOp op ty x y _ =>
  match opd s x,opd s y with
  | some a,some b=>qyY op P ty s a b
  | _,_=>none
 | .unOp op _ x =>
  match op,opd s x with
  | .not,some (.one (.c1 .vbool t))=>some (quiet s (.one (.vbool (qiJ t))))
  | .neg,some (.one (.c1 (.vint k) t))=>some (quiet s (.one (.vint k (qgx .sub k (.lit 0) t))))
  | .xor,some (.one (.c1 (.vint k) t))=>some (quiet s (.one (.vint k (qgx .xor k (.lit (if k.signed then -1 else k.max)) t))))
  | _,_=>none
 | .convert src dst x =>
  match P.underlying src,P.underlying dst,opd s x with
  | some _,some (.int k),some (.one (.c1 (.vint _) t))=>some (quiet s (.one (.vint k (qwz k t))))
  | some (.slice e),some .string,some v =>
   match P.underlying e,qg9 s [.int .u8] v with
   | some (.int .u8),some src=>some { quiet s (.one (.c1 .vbytes src.d)) with needs:=src.needs }
   | _,_=>none
  | _,_,_=>none
 | .fieldAddr t x f =>
  match opd s x,qqS P t f with
  | some (.one (.c1 (.vptr r p c) e)),some (off,_)=>some { quiet s (.one (.vptr r e p (c + off))) with needs:=qhE s r e }
  | _,_=>none
 | .field t x f =>
  match opd s x,qqS P t f with
  | some (.agg cs),some (off,u) =>
   match qdm P u,qN P u with
   | some true,some n=>if Nat.ble (off + n) cs.length then some (quiet s (.agg ((cs.drop off).take n))) else none
   | some false,_=>(cs[off]?).map fun t=>quiet s (.one t)
   | _,_=>none
  | _,_=>none
 | .indexAddr t x i =>
  match P.underlying t,opd s x,opd s i with
  | some (.slice el),some (.one (.c3 (.vslice r p) off len _)),some (.one (.c1 (.vint _) j)) =>
   match qN P el with
   | some n=>if Nat.beq n p then some { quiet s (.one (.vptr r (qan off j) p 0)) with
     needs:=[qZ j,qr .lss j len,qZ off] ++ qhE s r (qan off j) } else none
   | none=>none
  | some (.array m el),some (.one (.c1 (.vptr r p c) e)),some (.one (.c1 (.vint _) j)) =>
   match qN P el,j.isLit with
   | some n,some z=>if 0 <= z/\z < m then some { quiet s (.one (.vptr r e p (c + z.toNat * n))) with needs:=qhE s r e } else none
   | some n,none=>if e.isLit = some 0 then some { quiet s (.one (.vptr r j n c)) with needs:=qZ j :: qr .lss j (.lit (m:Int)) :: qhE s r e } else none
   | _,_=>none
  | _,_,_=>none
 | .extract x i =>
  match opd s x with
  | some (.tup vs) =>
   match vs[i]? with
   | some (true,ts)=>some (quiet s (.agg ts))
   | some (false,[t])=>some (quiet s (.one t))
   | _=>none
  | _=>none
 | .makeFunc fn first captured =>
  match (opds s first.toList).bind qdr,(opds s captured.toList).bind qdr with
  | some a,some b=>some (quiet s (.fn fn a b))
  | _,_=>none
 | .call { callee:=.builtin .len,args,argTypes } =>
  match (argTypes[0]?).bind P.underlying,args.toList with
  | some (.slice _),[x] =>
   match opd s x with
   | some (.one (.c3 (.vslice _ _) _ len _))=>some { quiet s (.one (.vint .i64 len)) with needs:=[qZ len] }
   | some (.one (.c0 .vnils))=>some (quiet s (.one (.vint .i64 (.lit 0))))
   | _=>none
  | some .string,[x] =>
   match opd s x with
   | some (.one t)=>if qfg t then some (quiet s (.one (.vint .i64 (qbR t)))) else none
   | _=>none
  | _,_=>none
 | .call { callee:=.builtin .cap,args,argTypes } =>
  match (argTypes[0]?).bind P.underlying,args.toList with
  | some (.slice _),[x] =>
   match opd s x with
   | some (.one (.c3 (.vslice _ _) _ _ cap))=>some { quiet s (.one (.vint .i64 cap)) with needs:=[qZ cap] }
   | some (.one (.c0 .vnils))=>some (quiet s (.one (.vint .i64 (.lit 0))))
   | _=>none
  | _,_=>none
 | .index t x i =>
  match P.underlying t,opd s x,opd s i with
  | some .string,some (.one a),some (.one (.c1 (.vint _) j)) =>
   if qfg a then some { quiet s (.one (.vint .u8 (.c2 .sat a j))) with needs:=[qZ j,qr .lss j (qbR a)] } else none
  | some (.array n el),some (.agg ts),some (.one (.c1 (.vint _) j))=>qu0 P s n el ts j
  | _,_,_=>none
 | .call { callee:=.builtin .min,args,.. } =>
  match opds s args.toList with
  | some [.one (.c1 (.vint k) a),.one (.c1 (.vint _) b)]=>some (quiet s (.one (.vint k (q10 a b))))
  | _=>none
 | .call { callee:=.builtin .max,args,.. } =>
  match opds s args.toList with
  | some [.one (.c1 (.vint k) a),.one (.c1 (.vint _) b)]=>some (quiet s (.one (.vint k (q1y a b))))
  | _=>none
 | _=>none


def qoT (P:Program) (s:S) (t:TypeId) (x y:SV):Option R1 :=
 match P.underlying t,x with
 | some (.slice el),.one (.c3 (.vslice r p) off len cap) =>
  match qbM P el,qN P el,qes P el with
  | some z,some n,some _ =>
   if Nat.beq z.length n && Nat.blt 0 n && Nat.beq n p then
    match off.isLit,qaf r s.heap,qg9 s (z.map qaw) y with
    | some 0,some (k,.arr rr ty pat d capA),some src =>
     match slen src.d,qM src.d 0 with
     | some 1,some ts =>
      if Nat.beq ts.length n && decide (pat = z.map qaw) then
       match qjZ (.arr rr ty pat d capA) len n 0 ts with
       | some (x',ns) =>
        if (s.heap.set k x').all (SH.inNx0 s.nx) && (qan len (.lit 1)).inB s.nx && cap.inB s.nx && Nat.blt r s.nx then
         some { needs:=qr .leq (qan len (.lit 1)) cap :: qr .eql src.len (.lit 1) :: ns ++ src.needs,fresh:=1,heap:=s.heap.set k x',val:=some (.one (.vslice r (.lit 0) (qan len (.lit 1)) cap p)) }
        else none
       | none=>none
      else none
     | _,_=>none
    | _,_,_=>none
   else none
  | _,_,_=>none
 | _,_=>none

def qkr (P:Program) (s:S) (t:TypeId) (x y:SV):Option R1 :=
 match P.underlying t,x with
 | some (.slice el),.one (.c3 (.vslice r p) off len cap) =>
  match qbM P el,qN P el,qes P el with
  | some z,some n,some bz =>
   if Nat.beq z.length n && Nat.blt 0 n && Nat.blt 0 bz then
    match qg9 s (z.map qaw) (.one (.c3 (.vslice r p) off len cap)),qg9 s (z.map qaw) y with
    | some sx,some sy =>
     if !((qiC sx.d sy.d).inB s.nx && (qan len sy.len).inB s.nx) then none else
      some { needs:=sx.needs ++ sy.needs ++ [qr .eql len sx.len,qr .eql cap len,qr .leq (.lit 1) sy.len,qr .leq (.tims (.lit bz) (qan len sy.len)) (.lit 140737488355328)],fresh:=2,heap:=.arr s.nx el (z.map qaw) (qiC sx.d sy.d) (.var (s.nx + 1)) :: s.heap,val:=some (.one (.vslice s.nx (.lit 0) (qan len sy.len) (.var (s.nx + 1)) n)) }
    | _,_=>none
   else none
  | _,_,_=>none
 | _,_=>none

def qlE (P:Program) (s:S) (t:TypeId) (x:SV):Option R1 :=
 match P.underlying t,x with
 | some (.slice el),.one (.c3 (.vslice r p) off len _) =>
  match qbM P el,qN P el with
  | some z,some n =>
   if Nat.beq z.length n && Nat.blt 0 n && Nat.beq n p then
    match qaf r s.heap with
    | some (k,.arr rr ty pat d capA) =>
     if Nat.beq pat.length p && (s.heap.set k (.arr rr ty pat (.dtake d (qe7 len (.lit 0) (qR d) off)) capA)).all (SH.inNx0 s.nx) then
      some { needs:=[qZ off,qZ len,qr .leq (qan off len) (qR d)],fresh:=1,heap:=s.heap.set k (.arr rr ty pat (.dtake d (qe7 len (.lit 0) (qR d) off)) capA),val:=some (.tup []) }
     else none
    | _=>none
   else none
  | _,_=>none
 | _,_=>none

def qeJ (t:Nat):List (Nat × Nat)->Option Nat
 | []=>none
 | (k,v) :: r=>if Nat.beq t k then some v else qeJ t r
def quh (o:Oper) (ip:List (Nat × Nat)) (m:Nat):Bool :=
 match o.dst with
 | some t=>match qeJ t ip with
  | some k=>Nat.beq k m
  | none=>false
 | none=>false
def qg4 (ip:List (Nat × Nat)) (s:S) (o:Oper):S :=
 match o.op with
 | .call { callee:=.builtin .append,args,.. } =>
  if quh o ip 1 then
   match args.toList with
   | x :: _ =>
    match opd s x with
    | some (.one (.c3 (.vslice r _) _ len _)) =>
     match qaf r s.heap with
     | some (k,.arr rr ty pat d cap)=>{ s with heap:=s.heap.set k (.arr rr ty pat (.dtake d len) cap) }
     | _=>s
    | _=>s
   | []=>s
  else s
 | _=>s

def qdh (len:T) (src:Src):T:=if len.same src.len then len else .imin len src.len
def qb7 (len:T) (src:Src):T:=if len.same src.len then src.d else .dtake src.d (.imin len src.len)
def qpc (P:Program) (s:S) (t:TypeId) (x y:SV):Option R1 :=
 match P.underlying t,x with
 | some (.slice el),.one (.c3 (.vslice r p) off len _) =>
  match qbM P el,qN P el with
  | some z,some n =>
   if Nat.beq z.length 1 && Nat.beq n 1 && Nat.beq p 1 then
    match qaf r s.heap,qg9 s (z.map qaw) y with
    | some (k,.arr rr ty pat d capA),some src =>
     if decide (pat = z.map qaw) && (s.heap.set k (.arr rr ty pat (.c3 .dsplice d off (qb7 len src)) capA)).all (SH.inNx0 s.nx) && (qdh len src).inB s.nx then
      some { needs:=[qZ off,qZ len,qr .leq (qan off len) (qR d)] ++ src.needs,fresh:=1,heap:=s.heap.set k (.arr rr ty pat (.c3 .dsplice d off (qb7 len src)) capA),val:=some (.one (.vint .i64 (qdh len src))) }
     else none
    | _,_=>none
   else none
  | _,_=>none
 | _,_=>none

def qmO (P:Program) (s:S) (t:TypeId) (x y:SV):Option R1 :=
 match P.underlying t,x with
 | some (.slice el),.one (.c3 (.vslice r p) off len _) =>
  match qbM P el,qN P el with
  | some [z],some 1 =>
   match qaw z,qaf r s.heap,qg9 s [qaw z] y,qjV off with
   | .int kk,some (k,x),some src,some (zz,l,ns) =>
    match qg8 x,x with
    | some (pat,d),.cells rr ty _ =>
     if Nat.beq p 1 && Nat.ble zz pat.length && !(decide (pat = [.int kk])) && (s.heap.set k (.arr rr ty pat (.c3 .xcopy d off (qb7 len src)) (.lit 1))).all (SH.inNx0 s.nx) && (qdh len src).inB s.nx then
      some { needs:=qgv (.int kk) pat zz l len d ns ++ src.needs,fresh:=1,heap:=s.heap.set k (.arr rr ty pat (.c3 .xcopy d off (qb7 len src)) (.lit 1)),val:=some (.one (.vint .i64 (qdh len src))) }
     else none
    | some (pat,d),.arr rr ty _ _ cap =>
     if Nat.beq p 1 && Nat.ble zz pat.length && !(decide (pat = [.int kk])) && (s.heap.set k (.arr rr ty pat (.c3 .xcopy d off (qb7 len src)) cap)).all (SH.inNx0 s.nx) && (qdh len src).inB s.nx then
      some { needs:=qgv (.int kk) pat zz l len d ns ++ src.needs,fresh:=1,heap:=s.heap.set k (.arr rr ty pat (.c3 .xcopy d off (qb7 len src)) cap),val:=some (.one (.vint .i64 (qdh len src))) }
     else none
    | _,_=>none
   | _,_,_,_=>none
  | _,_=>none
 | _,_=>none

def qqO (P:Program) (ip:List (Nat × Nat)) (s:S) (o:Oper):Option R1 :=
 match o.op with
 | .load t (.global g) =>
  match qeJ (2000 + g) ip,qdm P t,qN P t with
  | some R,some ag,some n =>
   match s.look R with
   | some (_,x) =>
    match quc x (.lit 0) n 0 n with
    | some (cs,needs)=>if ag then some { quiet s (.agg cs) with needs:=.c1 (.isg g) (.var R) :: needs } else
     match cs with
     | [t]=>some { quiet s (.one t) with needs:=.c1 (.isg g) (.var R) :: needs }
     | _=>none
    | none=>none
   | none=>none
  | _,_,_=>none
 | .indexAddr t (.global g) i =>
  match qeJ (2000 + g) ip,P.underlying t,opd s i with
  | some R,some (.array m el),some (.one (.c1 (.vint _) j)) =>
   match qN P el with
   | some n=>some { quiet s (.one (.vptr R j n 0)) with needs:=[.c1 (.isg g) (.var R),qZ j,qr .lss j (.lit (m:Int))] }
   | none=>none
  | _,_,_=>none
 | _=>qp P s o

def q0W (P:Program) (ip:List (Nat × Nat)) (s:S) (o:Oper):Option R1 :=
 match o.op with
 | .call { callee:=.builtin .append,args,argTypes } =>
  if quh o ip 0 then
   match args.toList,argTypes.toList with
   | [x,y],[t,t2] =>
    if Nat.beq t t2 then
     match opd s x,opd s y with
     | some a,some b=>qoT P s t a b
     | _,_=>none
    else none
   | _,_=>none
  else
   match qqO P ip s o with
   | some r=>some r
   | none =>
    match args.toList,argTypes.toList with
    | [x,y],[t,t2] =>
     if Nat.beq t t2 then
      match opd s x,opd s y with
      | some a,some b=>qkr P s t a b
      | _,_=>none
     else none
    | _,_=>none
 | .call { callee:=.builtin .clear,args,argTypes } =>
  match args.toList,argTypes.toList with
  | [x],[t] =>
   match opd s x with
   | some a=>qlE P s t a
   | none=>none
  | _,_=>none
 | .call { callee:=.builtin .copy,args,argTypes } =>
  match args.toList,argTypes.toList with
  | [x,y],[t,t2] =>
   match opd s x,opd s y with
   | some a,some b =>
    match qpc P s t a b with
    | some r=>some r
    | none=>qmO P s t a b
   | _,_=>none
  | _,_=>none
 | _=>qqO P ip s o

end Go.Eng

set_option linter.unusedSimpArgs false
set_option linter.unusedVariables false
namespace Go.Eng
open Go

structure MT where
 kagg:Bool
 kks:List IntKind
 vagg:Bool
 vpat:List CK
 zero:List T
 deriving Inhabited
structure ME where
 k:List Int
 v:List Value
 born:Nat
def mkV:Bool->List Value->Value
 | true,l=>.agg l.toArray
 | false,l=>l.headD .nilFunc
def qV (ks:List IntKind) (l:List Int):List Value:=List.zipWith Value.int ks l
def MT.ent (mt:MT) (x:ME):MapEntry:={ key:=mkV mt.kagg (qV mt.kks x.k),val:=mkV mt.vagg x.v,born:=x.born }
def MWf (mt:MT) (l:List ME) (clock:Nat):Prop :=
 (∀ x ∈ l,x.k.length = mt.kks.length/\qu mt.vpat x.v/\x.born < clock)/\l.Pairwise fun x y=>x.born < y.born/\x.k ≠ y.k
def MT.obj (mt:MT) (x:List ME × Nat):Obj:=.map (x.1.map mt.ent).toArray x.2
def qaU (h:Hp) (b:Nat) (mt:MT) (l:List ME) (clock:Nat):Prop:=h b = some (mt.obj (l,clock))/\MWf mt l clock
def qcU (l:List ME) (k:List Int) (z:List Value):List Value :=
 match l.find? (fun x=>x.k == k) with
 | some x=>x.v
 | none=>z
def qaE (l:List ME) (k:List Int):Bool:=l.any fun x=>x.k == k
def qaY (l:List ME) (k:List Int) (v:List Value) (clock:Nat):List ME × Nat :=
 if qaE l k then (l.map fun x=>if x.k = k then { x with v:=v } else x,clock) else (l ++ [⟨k,v,clock⟩],clock + 1)
def qmv (l:List ME) (k:List Int):List ME:=l.filter fun x=>decide (x.k ≠ k)

inductive MK where
 | new
 | get (x:T) (ks:List T) (mt:MT) (ms:List Nat)
 | put (m:Nat) (x:T) (ks vs:List T) (mt:MT)
 | del (m:Nat) (x:T) (ks:List T) (mt:MT)
 | len (x:T) (mt:MT) (ms:List Nat)
 | isnil (x:T)
 | range (x:T) (mt:MT) (ms:List Nat)
 | next (m:Nat) (x:T) (mt:MT) (ms:List Nat)
 | entry (m:Nat) (x:T) (mt:MT) (ms:List Nat)
 deriving Inhabited

def qbU (ρ:Env) (ks:List T):List Int:=ks.map fun t=>(t.den ρ).i
def MK.sem (ρ:Env) (Y1 Y2:List U->Prop):MK->Prop
 | .new=>∀ u:U,u.good->∀ v:U,v.good->(∃ b,v.v = .map (some b)/\u.h = Hp.one b (.map #[] 0))->Y1 [u,v]
 | .get x ks mt ms=>∃ l:List ME,(((x.den ρ).v = .map none/\l = [])∨∃ m ∈ ms,∃ b clock,(x.den ρ).v = .map (some b)/\qaU (ρ m).h b mt l clock) /\
   Y1 [{ d:=[qcU l (qbU ρ ks) (qc ρ mt.zero)],b:=qaE l (qbU ρ ks) }]
 | .put m x ks vs mt=>∃ b l clock,(x.den ρ).v = .map (some b)/\qaU (ρ m).h b mt l clock /\
   ∀ u:U,u.good->u.h = Hp.upd (ρ m).h b (mt.obj (qaY l (qbU ρ ks) (qc ρ vs) clock))->Y1 [u]
 | .del m x ks mt=>∃ b l clock,(x.den ρ).v = .map (some b)/\qaU (ρ m).h b mt l clock /\
   ∀ u:U,u.good->u.h = Hp.upd (ρ m).h b (mt.obj (qmv l (qbU ρ ks),clock))->Y1 [u]
 | .len x mt ms=>∃ l:List ME,(((x.den ρ).v = .map none/\l = [])∨∃ m ∈ ms,∃ b clock,(x.den ρ).v = .map (some b)/\qaU (ρ m).h b mt l clock)/\Y1 [{ i:=(l.length:Int) }]
 | .isnil x=>((x.den ρ).v = .map none/\Y1 [{ b:=true }])∨((∃ r,(x.den ρ).v = .map (some r))/\Y1 [{ b:=false }])
 | .range x mt ms=>∃ (mo:Option Nat) (clock:Nat),(((x.den ρ).v = .map none/\mo = none/\clock = 0)∨∃ m ∈ ms,∃ b l,(x.den ρ).v = .map (some b)/\mo = some b/\qaU (ρ m).h b mt l clock) /\
   ∀ u:U,u.good->∀ v:U,v.good->(∃ b',v.v = .pointer (some ⟨b',0,none⟩)/\u.h = Hp.one b' (.mapIter mo clock #[] clock))->Y1 [u,v]
 | .next m x mt ms=>∃ (b' since:Nat) (seen:List Nat) (stepped:Nat) (mo:Option Nat),(x.den ρ).v = .pointer (some ⟨b',0,none⟩)/\(ρ m).h b' = some (.mapIter mo since seen.toArray stepped) /\
   match mo with
   | none=>Y2 []
   | some b=>∃ l clock,(∃ n ∈ ms,qaU (ρ n).h b mt l clock)/\(seen = []∨l = []∨∃ e ∈ l,e.born < stepped) /\
     ((∀ e ∈ l,e.born < since->e.born ∈ seen)->Y2 []) /\
     ∀ e ∈ l,e.born ∉ seen->∀ u:U,u.good->u.h = Hp.upd (ρ m).h b' (.mapIter (some b) since (seen ++ [e.born]).toArray clock)->Y1 [u,{ d:=[qV mt.kks e.k] },{ d:=[e.v] }]
 | .entry m x mt ms=>∃ (b' since:Nat) (seen:List Nat) (clock b:Nat) (l:List ME) (e:ME),(x.den ρ).v = .pointer (some ⟨b',0,none⟩)/\(ρ m).h b' = some (.mapIter (some b) since (seen ++ [e.born]).toArray clock) /\
   (∃ n ∈ ms,qaU (ρ n).h b mt l clock)/\e ∈ l/\Y1 [{ d:=[qV mt.kks e.k] },{ d:=[e.v] }]


def qd9:List SH->Option (Nat × Nat)
 | []=>none
 | .abs m t :: l=>if Nat.beq t 1003 then some (0,m) else (qd9 l).map fun (k,x)=>(k + 1,x)
 | _ :: l=>(qd9 l).map fun (k,x)=>(k + 1,x)
def qal:List SH->List Nat
 | []=>[]
 | .abs m t :: l=>if Nat.beq t 1003 then m :: qal l else qal l
 | _ :: l=>qal l
def qgU:List IntKind->List T->Option (List T)
 | [],[]=>some []
 | k :: ks,.c1 (.vint k') t :: ts=>if k = k' then (qgU ks ts).map (t :: ·) else none
 | _,_=>none
def qbv (n:Nat):List CK->Nat->List T
 | [],_=>[]
 | .int k :: r,c=>.vint k (.c2 (.xint c) (.var n) (.lit 0)) :: qbv n r (c + 1)
 | .bool :: r,c=>.vbool (.c2 (.xbool c) (.var n) (.lit 0)) :: qbv n r (c + 1)
 | .any :: r,c=>.vcell (.var n) (.lit 0) c :: qbv n r (c + 1)
def q67:Bool->List T->Option SV
 | true,ts=>some (.agg ts)
 | false,[t]=>some (.one t)
 | _,_=>none
def qf2 (s:S) (b:Bool) (x:Operand):Option (List T) :=
 match b,opd s x with
 | true,some (.agg ts)=>some ts
 | false,some (.one t)=>some [t]
 | _,_=>none
def q66 (P:Program) (t:TypeId):Option (Bool × List IntKind) :=
 match P.underlying t with
 | some (.int k)=>some (false,[k])
 | some (.array n el) =>
  match P.underlying el,qN P el,qdm P el with
  | some (.int k),some 1,some false=>some (true,List.replicate n k)
  | _,_,_=>none
 | _=>none
def q9N (P:Program) (t:TypeId):Option Bool :=
 match (P.info? t).bind (·.zero) with
 | some (.agg _)=>some true
 | some _=>some false
 | none=>none
def mtP (P:Program) (t:TypeId):Option MT :=
 match P.underlying t with
 | some (.map k e) =>
  match q66 P k,q9N P e,qbM P e with
  | some (ka,ks),some va,some z=>if va || Nat.beq z.length 1 then some ⟨ka,ks,va,z.map qaw,z⟩ else none
  | _,_,_=>none
 | _=>none
def qAf (P:Program) (ip:List (Nat × Nat)) (x:Operand):Option MT :=
 match x with
 | .tmp t=>match ip.find? (fun e=>Nat.beq e.1 (5000 + t)) with
  | some (_,ty)=>mtP P ty
  | none=>none
 | _=>none

structure MB where
 fresh:Nat
 heap:List SH
 val:Option SV
 deriving Inhabited
structure MR where
 k:MK
 a:MB
 b:Option MB
 deriving Inhabited

def qnw (s:S):MR:=⟨.new,⟨2,.abs s.nx 1003 :: s.heap,some (.one (.var (s.nx + 1)))⟩,none⟩
def qmX (P:Program) (s:S) (t:TypeId) (x i:Operand) (ck:Bool):Option MR :=
 match mtP P t,opd s x with
 | some mt,some (.one xt) =>
  match (qf2 s mt.kagg i).bind (qgU mt.kks),q67 mt.vagg (qbv s.nx mt.vpat 0) with
  | some ks,some v=>some ⟨.get xt ks mt (qal s.heap ++ qal s.ro),⟨1,s.heap,some (if ck then .tup [(mt.vagg,qbv s.nx mt.vpat 0),(false,[.vbool (.var s.nx)])] else v)⟩,none⟩
  | _,_=>none
 | _,_=>none
def qkm (P:Program) (s:S) (t:TypeId) (x k v:Operand):Option MR :=
 match mtP P t,opd s x,qd9 s.heap with
 | some mt,some (.one xt),some (pos,m) =>
  match (qf2 s mt.kagg k).bind (qgU mt.kks),qf2 s mt.vagg v with
  | some ks,some vs=>if qfb mt.vpat vs && Nat.beq vs.length mt.vpat.length then some ⟨.put m xt ks vs mt,⟨1,s.heap.set pos (.abs s.nx 1003),none⟩,none⟩ else none
  | _,_=>none
 | _,_,_=>none
def qmB (P:Program) (s:S) (t:TypeId) (x k:Operand):Option MR :=
 match mtP P t,opd s x,qd9 s.heap with
 | some mt,some (.one xt),some (pos,m) =>
  match (qf2 s mt.kagg k).bind (qgU mt.kks) with
  | some ks=>some ⟨.del m xt ks mt,⟨1,s.heap.set pos (.abs s.nx 1003),some (.tup [])⟩,none⟩
  | none=>none
 | _,_,_=>none
def qwK (P:Program) (s:S) (t:TypeId) (x:Operand):Option MR :=
 match mtP P t,opd s x with
 | some mt,some (.one xt)=>some ⟨.len xt mt (qal s.heap ++ qal s.ro),⟨1,s.heap,some (.one (.vint .i64 (.var s.nx)))⟩,none⟩
 | _,_=>none
def qwJ (P:Program) (s:S) (op:BinOp) (t:TypeId) (x y:Operand):Option MR :=
 match P.underlying t,opd s x,opd s y with
 | some (.map _ _),some (.one xt),some (.one (.c0 .vnilm)) =>
  match op with
  | .eql=>some ⟨.isnil xt,⟨1,s.heap,some (.one (.vbool (.var s.nx)))⟩,none⟩
  | .neq=>some ⟨.isnil xt,⟨1,s.heap,some (.one (.vbool (.not (.var s.nx))))⟩,none⟩
  | _=>none
 | _,_,_=>none
def qpj (P:Program) (s:S) (t:TypeId) (x:Operand):Option MR :=
 match mtP P t,opd s x with
 | some mt,some (.one xt)=>some ⟨.range xt mt (qal s.heap ++ qal s.ro),⟨2,.abs s.nx 1003 :: s.heap,some (.one (.var (s.nx + 1)))⟩,none⟩
 | _,_=>none
def mapNext (P:Program) (ip:List (Nat × Nat)) (s:S) (x:Operand):Option MR :=
 match qAf P ip x,opd s x,qd9 s.heap with
 | some mt,some (.one xt),some (pos,m) =>
  some ⟨.next m xt mt (qal s.heap ++ qal s.ro),⟨3,s.heap.set pos (.abs s.nx 1003),some (.tup [(false,[.vbool (.bl true)]),(mt.kagg,qbv (s.nx + 1) (mt.kks.map .int) 0),(mt.vagg,qbv (s.nx + 2) mt.vpat 0)])⟩,
   some ⟨0,s.heap,some (.tup [(false,[.vbool (.bl false)])])⟩⟩
 | _,_,_=>none
def qmD (P:Program) (ip:List (Nat × Nat)) (s:S) (x:Operand):Option MR :=
 match qAf P ip x,opd s x,qd9 s.heap with
 | some mt,some (.one xt),some (_,m) =>
  some ⟨.entry m xt mt (qal s.heap ++ qal s.ro),⟨2,s.heap,some (.tup [(mt.kagg,qbv s.nx (mt.kks.map .int) 0),(mt.vagg,qbv (s.nx + 1) mt.vpat 0)])⟩,none⟩
 | _,_,_=>none

def q1R (P:Program) (ip:List (Nat × Nat)) (s:S) (o:Oper):Option MR :=
 match o.op with
 | .makeMap _ none=>some (qnw s)
 | .lookup t x i ck=>qmX P s t x i ck
 | .mapUpdate t x k v=>qkm P s t x k v
 | .call { callee:=.builtin .delete,args,argTypes } =>
  match args.toList,argTypes.toList with
  | [x,k],[t,_]=>qmB P s t x k
  | _,_=>none
 | .call { callee:=.builtin .len,args,argTypes } =>
  match args.toList,argTypes.toList with
  | [x],[t]=>qwK P s t x
  | _,_=>none
 | .binOp op t x y _=>qwJ P s op t x y
 | .range t x=>qpj P s t x
 | .next x false=>mapNext P ip s x
 | .entry x=>qmD P ip s x
 | _=>none
def q8e (P:Program) (o:Oper):Bool :=
 match o.op with
 | .lookup ..=>true
 | .mapUpdate ..=>true
 | .call { callee:=.builtin .delete,.. }=>true
 | .range ..=>true
 | .next _ false=>true
 | .entry _=>true
 | .call { callee:=.builtin .len,argTypes,.. }=>match (argTypes[0]?).bind P.underlying with
  | some (.map _ _)=>true
  | _=>false
 | _=>false
end Go.Eng

set_option linter.unusedSimpArgs false
set_option linter.unusedVariables false
namespace Go.Eng
open Go


inductive Bd where
 | t (t:T)
 | r (r:Nat)
 | nil
 deriving Inhabited

structure Sg where
 th:Nat
 bd:List (Nat × Bd)
 eqI:List (T × T)     -- to be equal, as numbers, when all is bound
 eqB:List (T × T)
 eqD:List (T × T)
 deriving Inhabited

abbrev bv (n m:Nat):Nat × Bd:=(n,.t (.var m))
abbrev bt (n:Nat) (t:T):Nat × Bd:=(n,.t t)
abbrev bg (n m:Nat):Nat × Bd:=(n,.r m)
abbrev sg (n:Nat) (l:List (Nat × Bd)):Sg:=⟨n,l,[],[],[]⟩
def Sg.clean (Z:Sg):Sg:=⟨Z.th,Z.bd,[],[],[]⟩
def look (n:Nat):List (Nat × Bd)->Option Bd
 | []=>none
 | (k,b) :: r=>if Nat.beq n k then some b else look n r

def Sg.reg (Z:Sg) (r:Nat):Option Nat :=
 if Nat.blt r Z.th then some r else
 match look r Z.bd with
 | some (.r r')=>some r'
 | _=>none

def Sg.sub (Z:Sg):T->Option T
 | .var n=>if Nat.blt n Z.th then some (.var n) else
  match look n Z.bd with
  | some (.t t)=>some t
  | some (.r m)=>some (.var m)
  | _=>none
 | .c0 (.isnil r) =>
  if Nat.blt r Z.th then some (.isnil r) else
  match look r Z.bd with
  | some (.r r')=>some (.isnil r')
  | some .nil=>some (.bl true)
  | _=>none
 | .c0 o=>some (.c0 o)
 | .c1 (.vptr r p c) a =>
  match Z.reg r,Z.sub a with
  | some r',some a'=>some (.vptr r' a' p c)
  | _,_=>none
 | .c1 o a=>(Z.sub a).map (.c1 o)
 | .c2 o a b =>
  match Z.sub a,Z.sub b with
  | some a',some b'=>some (.c2 o a' b')
  | _,_=>none
 | .c3 (.vslice r p) a b c =>
  match Z.reg r,Z.sub a,Z.sub b,Z.sub c with
  | some r',some a',some b',some c'=>some (.vslice r' a' b' c' p)
  | _,_,_,_=>none
 | .c3 o a b c =>
  match Z.sub a,Z.sub b,Z.sub c with
  | some a',some b',some c'=>some (.c3 o a' b' c')
  | _,_,_=>none
 | .ife a b x y =>
  match Z.sub a,Z.sub b,Z.sub x,Z.sub y with
  | some a',some b',some x',some y'=>some (.ife a' b' x' y')
  | _,_,_,_=>none

def Sg.bind (Z:Sg) (n:Nat) (b:Bd):Sg:={ Z with bd:=(n,b) :: Z.bd }

def mI (p a:T) (Z:Sg):Sg :=
 match p with
 | .var n=>if !(Nat.blt n Z.th) && (look n Z.bd).isNone then Z.bind n (.t a) else { Z with eqI:=(p,a) :: Z.eqI }
 | p=>{ Z with eqI:=(p,a) :: Z.eqI }
def mB (p a:T) (Z:Sg):Sg :=
 match p with
 | .var n=>if !(Nat.blt n Z.th) && (look n Z.bd).isNone then Z.bind n (.t a) else { Z with eqB:=(p,a) :: Z.eqB }
 | p=>{ Z with eqB:=(p,a) :: Z.eqB }
def mR (p a:Nat) (Z:Sg):Option Sg :=
 if Nat.blt p Z.th then (if Nat.beq p a then some Z else none) else
 match look p Z.bd with
 | none=>some (Z.bind p (.r a))
 | some (.r a')=>if Nat.beq a a' then some Z else none
 | _=>none
def q1X (p:Nat) (Z:Sg):Option Sg :=
 if Nat.blt p Z.th then none else
 match look p Z.bd with
 | none=>some (Z.bind p .nil)
 | some .nil=>some Z
 | _=>none

def qwb (x y:T) (Z:Sg):Bool :=
 match x with
 | .c2 (.xint c) (.var n) (.c0 (.lit 0)) =>
  if Nat.blt n Z.th then false else
  match look n Z.bd with
  | some (.t d) =>
   match qaS d with
   | some ts =>
    match ts[c]? with
    | some (.c1 (.vint _) y')=>y'.same y
    | _=>false
   | none=>false
  | _=>false
 | _=>false
def mV (p a:T) (Z:Sg):Option Sg :=
 match p,a with
 | .c1 (.vint k) x,.c1 (.vint k') y=>if k = k' then (if qwb x y Z then some Z else some (mI x y Z)) else none
 | .c1 .vbool x,.c1 .vbool y=>some (mB x y Z)
 | .c1 (.vptr r p c) e,.c1 (.vptr r' p' c') e'=>if p = p'/\c = c' then (mR r r' Z).map (mI e e') else if c = c'/\e.isLit = some 0/\e'.isLit = some 0 then mR r r' Z else none
 | .c3 (.vslice r p) o l c,.c3 (.vslice r' p') o' l' c'=>if p = p' then (mR r r' Z).map fun Z=>mI c c' (mI l l' (mI o o' Z)) else none
 | .c3 (.vslice r _) o l c,.c0 .vnils=>(q1X r Z).map fun Z=>mI c (.lit 0) (mI l (.lit 0) (mI o (.lit 0) Z))
 | .c1 (.vptr r _ _) e,.c0 .vnilp=>(q1X r Z).map fun Z=>mI e (.lit 0) Z
 | .c0 .vnilp,.c0 .vnilp=>some Z
 | .c0 .vnils,.c0 .vnils=>some Z
 | .c0 .vnilm,.c0 .vnilm=>some Z
 | .c1 .sval (.var n),a =>
  if qfg a then
   if !(Nat.blt n Z.th) && (look n Z.bd).isNone then some (Z.bind n (.t a))
   else if Nat.blt n Z.th && (T.c1 .sval (.var n)).same a then some Z else none
  else none
 | .var n,a=>if !(Nat.blt n Z.th) && (look n Z.bd).isNone then some (Z.bind n (.t a)) else if Nat.blt n Z.th && (T.var n).same a then some Z else none
 | _,_=>none
def qoH:List T->List T->Sg->Option Sg
 | [],[],Z=>some Z
 | p :: ps,a :: as,Z=>(mV p a Z).bind (qoH ps as)
 | _,_,_=>none
def quD (n:Nat):Nat->List T->Nat
 | j,.c1 (.vint _) (.c2 (.xint c) (.var m) (.c0 (.lit 0))) :: ps=>if Nat.beq c j && Nat.beq m n then quD n (j + 1) ps else j
 | j,_=>j
def qg5:List T->List T->Sg->Sg
 | .c1 (.vint k) (.c2 (.xint c) (.var n) (.c0 (.lit 0))) :: ps,a :: as,Z =>
  if Nat.beq c 0 && !(Nat.blt n Z.th) && (look n Z.bd).isNone then qg5 ps as (Z.bind n (.t (T.row ((a :: as).take (quD n 0 (.c1 (.vint k) (.c2 (.xint c) (.var n) (.c0 (.lit 0))) :: ps))))))
  else qg5 ps as Z
 | _ :: ps,_ :: as,Z=>qg5 ps as Z
 | _,_,Z=>Z
def mVs (ps as:List T) (Z:Sg):Option Sg:=qoH ps as (qg5 ps as Z)
def mRw:T->T->Sg->Option Sg
 | .c2 .rcons v r,.c2 .rcons v' r',Z=>(mV v v' Z).bind (mRw r r')
 | .c0 .rnil,.c0 .rnil,Z=>some Z
 | _,_,_=>none
def mD:T->T->Sg->Sg
 | .var n,a,Z=>if !(Nat.blt n Z.th) && (look n Z.bd).isNone then Z.bind n (.t a) else { Z with eqD:=(.var n,a) :: Z.eqD }
 | .c3 (.dput c) d e r,.c3 (.dput c') d' e' r',Z =>
  if c = c' then
   match mRw r r' Z with
   | some Z1=>mI e e' (mD d d' Z1)
   | none=>{ Z with eqD:=(.c3 (.dput c) d e r,.c3 (.dput c') d' e' r') :: Z.eqD }
  else { Z with eqD:=(.c3 (.dput c) d e r,.c3 (.dput c') d' e' r') :: Z.eqD }
 | .c2 .dapp x y,.c2 .dapp x' y',Z=>mD y y' (mD x x' Z)
 | .c2 .rcons v r,a,Z =>
  match mRw (.c2 .rcons v r) a Z with
  | some Z1=>Z1
  | none=>{ Z with eqD:=(.c2 .rcons v r,a) :: Z.eqD }
 | p,a,Z=>{ Z with eqD:=(p,a) :: Z.eqD }
def mSV (p a:SV) (Z:Sg):Option Sg :=
 match p,a with
 | .one p,.one a=>mV p a Z
 | .agg ps,.agg as=>mVs ps as Z
 | .fn f a b,.fn f' a' b'=>if f = f' then (mVs a a' Z).bind (mVs b b') else none
 | .tup ps,.tup as=>mTup ps as Z
 | _,_=>none
where
 mTup:List (Bool × List T)->List (Bool × List T)->Sg->Option Sg
  | [],[],Z=>some Z
  | (g,p) :: ps,(g',a) :: as,Z=>if g = g' then (mVs p a Z).bind (mTup ps as) else none
  | _,_,_=>none
def qju:List SV->List SV->Sg->Option Sg
 | [],[],Z=>some Z
 | p :: ps,a :: as,Z=>(mSV p a Z).bind (qju ps as)
 | _,_,_=>none

def mH1 (p a:SH) (Z:Sg):Option Sg :=
 match p,a with
 | .cells _ ty ps,.cells _ ty' as=>if Nat.beq ty ty' then mVs ps as Z else none
 | .arr _ ty pat d cap,.arr _ ty' pat' d' cap'=>if Nat.beq ty ty' && decide (pat = pat') then some (mI cap cap' (mD d d' Z)) else none
 | .arr _ ty pat d cap,.cells _ ty' as =>
  if Nat.beq ty ty' && Nat.blt 0 pat.length && Nat.beq (as.length % pat.length) 0 then
   match qf5 pat pat.length (as.length / pat.length) as with
   | some D=>some (mI cap (.lit ((as.length / pat.length:Nat):Int)) (mD d D Z))
   | none=>none
  else none
 | _,_=>none
def qjL:Option Bd->Bool
 | some .nil=>true
 | _=>false
def SH.isAbs:SH->Option (Nat × Nat)
 | .abs n t=>some (n,t)
 | _=>none
def qgO (t:Nat):List SH->Option (Nat × Nat)
 | []=>none
 | .abs m t' :: l=>if Nat.beq t t' then some (0,m) else (qgO t l).map fun (k,x)=>(k + 1,x)
 | _ :: l=>(qgO t l).map fun (k,x)=>(k + 1,x)
def mHs (own:Bool):List SH->List SH->List SH->Sg->Option (List SH × Sg)
 | [],h,_,Z=>some (h,Z)
 | p :: ps,h,ro,Z =>
  match p.isAbs with
  | some (n,t) =>
   match qgO t h with
   | some (k,m)=>(mR n m Z).bind (mHs own ps (if own then h.eraseIdx k else h) ro)
   | none=>if own then none else
    match qgO t ro with
    | some (_,m)=>(mR n m Z).bind (mHs own ps h ro)
    | none=>none
  | none =>
  match p.reg with
  | none=>none
  | some r =>
   if !(Nat.blt r Z.th) && qjL (look r Z.bd) then
    match p with
    | .arr _ _ _ d cap=>mHs own ps h ro (mI cap (.lit 0) (mD d .dnil Z))
    | _=>none
   else
   match Z.reg r with
   | none=>none
   | some r' =>
    match qaf r' h with
    | some (k,a)=>(mH1 p a Z).bind (mHs own ps (if own then h.eraseIdx k else h) ro)
    | none=>if own then none else
     match qaf r' ro with
     | some (_,a)=>(mH1 p a Z).bind (mHs own ps h ro)
     | none=>none

def Sg.eqs (Z:Sg) (f:T->T->Option T):List (T × T)->Option (List T)
 | []=>some []
 | (p,a) :: r =>
  match Z.sub p,Z.eqs f r with
  | some p',some cs=>if p'.same a then some cs else
   match f p' a with
   | some c=>some (c :: cs)
   | none=>none
  | _,_=>none
def Sg.left (Z:Sg):Option (List T) :=
 match Z.eqs (fun p a=>some (qr .eql p a)) Z.eqI,Z.eqs (fun p a=>some (qnA p a)) Z.eqB,Z.eqs (fun _ _=>none) Z.eqD with
 | some a,some b,some c=>some (a ++ b ++ c)
 | _,_,_=>none

def Sg.subs (Z:Sg):List T->Option (List T)
 | []=>some []
 | t :: ts=>match Z.sub t,Z.subs ts with
  | some a,some b=>some (a :: b)
  | _,_=>none
def Sg.subSV (Z:Sg):SV->Option SV
 | .one t=>(Z.sub t).map .one
 | .agg ts=>(Z.subs ts).map .agg
 | .tup vs=>(tup vs).map .tup
 | .fn f a b=>match Z.subs a,Z.subs b with
  | some x,some y=>some (.fn f x y)
  | _,_=>none
where
 tup:List (Bool × List T)->Option (List (Bool × List T))
  | []=>some []
  | (g,ts) :: r=>match Z.subs ts,tup r with
   | some a,some b=>some ((g,a) :: b)
   | _,_=>none
def Sg.subH (Z:Sg):SH->Option SH
 | .cells r ty cs=>match Z.reg r,Z.subs cs with
  | some r',some cs'=>some (.cells r' ty cs')
  | _,_=>none
 | .arr r ty pat d cap=>match Z.reg r,Z.sub d,Z.sub cap with
  | some r',some d',some cap'=>some (.arr r' ty pat d' cap')
  | _,_,_=>none
 | .abs n t=>(Z.reg n).map fun m=>.abs m t
def Sg.subHs (Z:Sg):List SH->Option (List SH)
 | []=>some []
 | x :: r=>match Z.subH x,Z.subHs r with
  | some a,some b=>some (a :: b)
  | _,_=>none


structure Alt where
 k:Nat                 -- how many new variables
 ret:SV
 heap:List SH
 post:Env->Prop

structure Ctr where
 fn:FuncId
 nv:Nat
 args:List SV
 heap:List SH
 ro:List SH
 pre:Env->Prop
 alts:List Alt
 ip:List (Nat × Nat):=[]   -- appends: 0 in place, 1 to what is in the slice alone
 ow:List Nat:=[]           -- temporaries whose slices lie in what is owned

structure Inv where
 key:Nat
 nv:Nat
 env:List (Nat × SV)
 heap:List SH
 inv:Env->Prop
 mu:Env->Nat

def qhp:List (Nat × SV)->List (Nat × SV)->Sg->Option Sg
 | [],_,Z=>some Z
 | (t,p) :: ps,env,Z =>
  match qaV t env with
  | some a=>(mSV p a Z).bind (qhp ps env)
  | none=>none

def qd3 (from_ base:Nat):Nat->List (Nat × Bd)
 | 0=>[]
 | k + 1=>(from_ + k,.r (base + k)) :: qd3 from_ base k
def Sg.subEnv (Z:Sg):List (Nat × SV)->Option (List (Nat × SV))
 | []=>some []
 | (t,v) :: r=>match Z.subSV v,Z.subEnv r with
  | some a,some b=>some ((t,a) :: b)
  | _,_=>none

def qjI:List T->List T->Bool
 | [],[]=>true
 | a :: l,b :: m=>a.same b && qjI l m
 | _,_=>false
def SH.same:SH->SH->Bool
 | .cells r ty cs,.cells r' ty' cs'=>Nat.beq r r' && Nat.beq ty ty' && qjI cs cs'
 | .arr r ty pat d cap,.arr r' ty' pat' d' cap'=>Nat.beq r r' && Nat.beq ty ty' && decide (pat = pat') && d.same d' && cap.same cap'
 | .abs n t,.abs n' t'=>Nat.beq n n' && Nat.beq t t'
 | _,_=>false


inductive Out where
 | stuck (why:Nat) (a b:Nat)
 | need (c:T) (o:Out)
 | br (c:T) (x y:Out)
 | fresh (n:Nat) (o:Out)
 | both (x y:Out)
 | top
 | pre (ci:Nat) (Z:Sg) (o:Out)
 | post (ci ai:Nat) (Z:Sg) (base:Nat) (o:Out)
 | inv (li:Nat) (base:Nat) (Z:Sg) (o:Out)
 | hyp (li:Nat) (base:Nat) (o:Out)
 | back (li:Nat) (base:Nat) (Z:Sg)
 | cut (li:Nat) (base:Nat) (Z:Sg)
 | ret (ai:Nat) (Z:Sg)
 | pack (l:List SH) (n:Nat) (o:Out)
 | view (x:T) (pat:List CK) (ms:List Nat) (base:Nat) (o:Out)
 | viewL (x:T) (pat:List CK) (ms:List Nat) (base:Nat) (o:Out)
 | know (c:T) (o:Out)
 | take (x:T) (el:Nat) (pat:List CK) (m base:Nat) (o:Out)
 | put (m rg:Nat) (pat:List CK) (d e:T) (c:Nat) (vs:List T) (base:Nat) (o:Out)
 | mop (k:MK) (base:Nat) (o1 o2:Out)
 deriving Inhabited

structure Ctx where
 P:Program
 me:Ctr
 ctrs:List Ctr
 invs:List Inv

inductive KI where
 | code (c:Code)
 | blk (id:Nat)
 | ops (ops:Array Oper) (l:List Nat)
 | lend (li:Nat) (base:Nat)
 | cutE (li:Nat) (base:Nat)
 | any (ops:Array Oper) (listed:Array Bool) (left:Nat) (st:List SH)
 | again (c:Code)
 deriving Inhabited

def qfu (id:Nat):List KI->Option (List KI)
 | []=>none
 | .blk j :: K=>if Nat.beq id j then some K else qfu id K
 | _ :: K=>qfu id K

def qlv (s:S) (c:T):T :=
 match c with
 | .c1 .not (.c0 (.isnil r)) =>
  match s.look r with
  | some (_,.cells ..)=>.bl true
  | some (_,.arr _ _ _ d _)=>qr .lss (.lit 0) (qR d)
  | _=>c
 | c=>c

def needs (s:S):List T->(S->Out)->Out
 | [],k=>k s
 | c :: cs,k =>
  match qc5 (qlv s c) s.pc with
  | some true=>needs s cs k
  | some false=>.stuck 7 0 0
  | none=>.need (qlv s c) (needs { s with pc:=(qlv s c,true) :: s.pc } cs k)

def SV.inB (n:Nat):SV->Bool
 | .one t=>t.inB n
 | .agg ts=>ts.all (T.inB n)
 | .tup vs=>vs.all fun x=>x.2.all (T.inB n)
 | .fn _ a b=>a.all (T.inB n) && b.all (T.inB n)
def SH.inB (n:Nat):SH->Bool
 | .cells r _ cs=>Nat.blt r n && cs.all (T.inB n)
 | .arr r _ _ d cap=>Nat.blt r n && d.inB n && cap.inB n
 | .abs m _=>Nat.blt m n
def T.inS (p:Nat->Bool):T->Bool
 | .var m=>p m
 | .c0 (.isnil r)=>p r
 | .c0 _=>true
 | .c1 (.vptr r _ _) a=>p r && a.inS p
 | .c1 _ a=>a.inS p
 | .c2 _ a b=>a.inS p && b.inS p
 | .c3 (.vslice r _) a b c=>p r && a.inS p && b.inS p && c.inS p
 | .c3 _ a b c=>a.inS p && b.inS p && c.inS p
 | .ife a b x y=>a.inS p && b.inS p && x.inS p && y.inS p
def SV.inS (p:Nat->Bool):SV->Bool
 | .one t=>t.inS p
 | .agg ts=>ts.all (T.inS p)
 | .tup vs=>vs.all fun x=>x.2.all (T.inS p)
 | .fn _ a b=>a.all (T.inS p) && b.all (T.inS p)
def SH.inS (p:Nat->Bool):SH->Bool
 | .cells r _ cs=>p r && cs.all (T.inS p)
 | .arr r _ _ d cap=>p r && d.inS p && cap.inS p
 | .abs m _=>p m
def qzL (base nv n:Nat):Bool:=(Nat.blt n base && Nat.blt n 1000) || (Nat.ble 1000 n && Nat.blt n (1000 + nv))
def Inv.fits (I:Inv) (base:Nat):Bool:=I.env.all (fun x=>x.2.inS (qzL base I.nv)) && I.heap.all (SH.inS (qzL base I.nv))

def S.inNx (s:S):Bool:=s.env.all (fun x=>x.2.inB s.nx) && s.heap.all (SH.inB s.nx) && s.ro.all (SH.inB s.nx) && s.pc.all (fun x=>x.1.inB s.nx) && s.vw.all (fun x=>x.1.all (fun m=>Nat.blt m s.nx) && x.2.inB s.nx)

def S.scopedEH (s:S):Bool:=s.env.all (fun x=>x.2.inB s.nx) && s.heap.all (SH.inB s.nx)
def Bd.inB (n:Nat):Bd->Bool
 | .t x=>x.inB n
 | .r m=>Nat.blt m n
 | .nil=>true
def q4a (Z:Sg) (c:Ctr) (a:Alt) (nx:Nat):Bool :=
 Z.bd.all (fun x=>Nat.blt x.1 c.nv && x.2.inB nx) && a.ret.inS (fun n=>Nat.blt n (c.nv + a.k)) && a.heap.all (SH.inS fun n=>Nat.blt n (c.nv + a.k))

def qfA (s:S):Nat->(S->Out)->Out
 | 0,k=>k s
 | n + 1,k=>if s.inNx then .fresh s.nx (qfA { s with nx:=s.nx + 1 } n k) else .stuck 30 0 0


def qgs:List SH->List Nat
 | []=>[]
 | .abs _ t :: l=>t :: qgs l
 | _ :: l=>qgs l
def qjO (l:List SH):List SH:=l.filter fun x=>x.isAbs.isNone
def qiM (t:Nat) (x:SH):Bool :=
 match x with
 | .abs _ t'=>Nat.beq t t'
 | _=>false
def qnv (x:SH):Bool :=
 match x with
 | .abs _ t=>Nat.ble 1001 t
 | _=>false
def qqC (s:S) (sel:SH->Bool) (t:Nat) (k:S->Out):Out :=
 if s.inNx && (Nat.beq t 1003 || ((s.heap.filter sel).all (fun x=>!(qnv x)) && Nat.blt t 1001)) then .pack (s.heap.filter sel) s.nx (k { s with heap:=.abs s.nx t :: s.heap.filter (fun x=>!sel x),nx:=s.nx + 1 }) else .stuck 60 t 0
def qnt (s:S) (sel:SH->Bool) (t:Nat) (k:S->Out):Out :=
 match s.heap.filter sel with
 | [.abs _ t']=>if Nat.beq t t' then k s else qqC s sel t k
 | _=>qqC s sel t k
def qAq (s:S) (t:Nat) (x:SH):Bool:=Nat.blt 500 t && Nat.blt t 1001 && !(s.heap.any (qiM t)) && qiM ((t - 501) % 100) x
def qfG (s:S) (left:List SH):List Nat->(S->Out)->Out
 | [],k=>k s
 | t :: ts,k=>qnt s (fun x=>(qiM t x || (Nat.beq (t % 2) 0 && x.isAbs.isNone) || qAq s t x) && left.any (SH.same x)) t fun s=>qfG s left ts k
def qg3 (s:S):List Nat->(S->Out)->Out
 | [],k=>k s
 | t :: ts,k =>
  match s.heap.filter (qiM t) with
  | _ :: _ :: _=>qnt s (qiM t) t fun s=>qg3 s ts k
  | _=>qg3 s ts k

def qrD:T->Bool
 | .var _=>true
 | .c2 (.vcell _) _ _=>true
 | _=>false
def qai:List SH->List Nat
 | []=>[]
 | .abs n t :: l=>if Nat.beq t 1003 then qai l else n :: qai l
 | _ :: l=>qai l
def q7U (ow:List Nat) (t:Nat):Option Nat:=ow.findSome? fun x=>if Nat.ble 100000 x && Nat.beq (x % 10000) t then some (x / 10000 - 10) else none
def qff (ow:List Nat) (s:S) (t:Nat):List Nat :=
 match q7U ow t with
 | some g=>qai (s.heap.filter (qiM g))
 | none=>if ow.any (Nat.beq t) then qai s.heap else if ow.any (Nat.beq (t + 3000)) then qai s.ro else qai s.heap ++ qai s.ro
def qqJ (ow:List Nat) (x:T) (pat:List CK) (ms:List Nat) (base:Nat) (o:Out):Out:=if ow.any (Nat.beq 1003) then .viewL x pat ms base o else .view x pat ms base o
def q1K (ow:List Nat) (s:S) (t el:Nat) (pat:List CK) (k:S->Out):Out :=
 match qaV t s.env with
 | some (.one x) =>
  if qrD x && !((qff ow s t).isEmpty) then
   if s.inNx && Nat.blt t s.nt then
    qqJ ow x pat (qff ow s t) s.nx (k { s with
     env:=qhn t (.one (.vslice s.nx (.lit 0) (.dlen (.var (s.nx + 2))) (.var (s.nx + 1)) pat.length)) s.env
     vw:=(qff ow s t,.arr s.nx el pat (.var (s.nx + 2)) (.var (s.nx + 1))) :: s.vw
     nx:=s.nx + 3 })
   else .stuck 61 t 0
  else k s
 | _=>k s
def qp4 (ow:List Nat) (s:S):List (Nat × Nat × List CK)->(S->Out)->Out
 | [],k=>k s
 | (t,el,pat) :: l,k=>q1K ow s t el pat fun s=>qp4 ow s l k
def q2w (ow:List Nat) (s:S) (t j el:Nat) (pat:List CK) (k:S->Out):Out :=
 match qaV t s.env with
 | some (.agg cs) =>
  match cs[j]? with
  | some x =>
   if qrD x && !((qff ow s t).isEmpty) then
    if s.inNx && Nat.blt t s.nt then
     qqJ ow x pat (qff ow s t) s.nx (k { s with
      env:=qhn t (.agg (cs.set j (.vslice s.nx (.lit 0) (.dlen (.var (s.nx + 2))) (.var (s.nx + 1)) pat.length))) s.env
      vw:=(qff ow s t,.arr s.nx el pat (.var (s.nx + 2)) (.var (s.nx + 1))) :: s.vw
      nx:=s.nx + 3 })
    else .stuck 62 t j
   else k s
  | none=>k s
 | _=>k s
def qqB (ow:List Nat) (s:S):List (Nat × Nat × Nat × List CK)->(S->Out)->Out
 | [],k=>k s
 | (t,j,el,pat) :: l,k=>q2w ow s t j el pat fun s=>qqB ow s l k
def q8M (P:Program) (t:TypeId):Option (Nat × List CK) :=
 match P.underlying t with
 | some (.slice el)=>match qbM P el with
  | some z=>some (el,z.map qaw)
  | none=>none
 | _=>none
def qcB (P:Program) (t:TypeId) (x:Operand):List (Nat × Nat × List CK) :=
 match x,q8M P t with
 | .tmp k,some (el,pat)=>[(k,el,pat)]
 | _,_=>[]
def qk4 (hs:List SH):List SV->List Operand->List (Nat × Nat × List CK)
 | .one (.c3 (.vslice r _) _ _ _) :: ps,x :: xs =>
  match qaf r hs,x with
  | some (_,.arr _ ty pat _ _),.tmp k=>(k,ty,pat) :: qk4 hs ps xs
  | _,_=>qk4 hs ps xs
 | _ :: ps,_ :: xs=>qk4 hs ps xs
 | _,_=>[]
def qkT (f:FuncId):List Ctr->Option Ctr
 | []=>none
 | c :: l=>if Nat.beq c.fn f then some c else qkT f l
def q8d (P:Program) (ctrs:List Ctr) (s:S) (o:Oper):List (Nat × Nat × List CK) :=
 match o.op with
 | .call { callee:=.builtin .len,args,argTypes } =>
  match args.toList,argTypes.toList with
  | [x],[t]=>qcB P t x
  | _,_=>[]
 | .call { callee:=.builtin .append,args,argTypes } =>
  match args.toList,argTypes.toList with
  | [x,y],[t,t2]=>qcB P t x ++ qcB P t2 y
  | _,_=>[]
 | .call { callee:=.builtin .copy,args,argTypes } =>
  match args.toList,argTypes.toList with
  | [_,y],[_,t2]=>qcB P t2 y
  | _,_=>[]
 | .convert t _ x=>qcB P t x
 | .slice t x _ _ _=>qcB P t x
 | .indexAddr t x _=>qcB P t x
 | .binOp op t x y _ =>
  match op with
  | .eql=>qcB P t x ++ qcB P t y
  | .neq=>qcB P t x ++ qcB P t y
  | _=>[]
 | .call { callee:=.value f,args,.. } =>
  match opd s f with
  | some (.fn (.func fid) [] _)=>match qkT fid ctrs with
   | some c=>qk4 (c.heap ++ c.ro) c.args args.toList
   | none=>[]
  | _=>[]
 | _=>[]
def qiQ (hs:List SH) (t:Nat):Nat->List T->List (Nat × Nat × Nat × List CK)
 | j,.c3 (.vslice r _) _ _ _ :: ps =>
  match qaf r hs with
  | some (_,.arr _ ty pat _ _)=>(t,j,ty,pat) :: qiQ hs t (j + 1) ps
  | _=>qiQ hs t (j + 1) ps
 | j,_ :: ps=>qiQ hs t (j + 1) ps
 | _,[]=>[]
def qoO (hs:List SH):List SV->List Operand->List (Nat × Nat × Nat × List CK)
 | .agg ps :: l,.tmp k :: xs=>qiQ hs k 0 ps ++ qoO hs l xs
 | _ :: l,_ :: xs=>qoO hs l xs
 | _,_=>[]
def q4V (ctrs:List Ctr) (s:S) (o:Oper):List (Nat × Nat × Nat × List CK) :=
 match o.op with
 | .call { callee:=.value f,args,.. } =>
  match opd s f with
  | some (.fn (.func fid) [] _)=>match qkT fid ctrs with
   | some c=>qoO (c.heap ++ c.ro) c.args args.toList
   | none=>[]
  | _=>[]
 | _=>[]
def qxa (ctrs:List Ctr) (s:S) (o:Oper):List Nat :=
 match o.op with
 | .call { callee:=.value f,.. } =>
  match opd s f with
  | some (.fn (.func fid) _ _)=>match qkT fid ctrs with
   | some c=>qgs c.heap
   | none=>[]
  | _=>[]
 | _=>[]

def qs9 (c:T) (b:Bool):T × Bool :=
 match c with
 | .c1 .not a=>(a,!b)
 | c=>(c,b)
def qlM (s:S) (c:T) (k:Bool->S->Out):Out :=
 match qc5 c s.pc with
 | some b=>k b s
 | none=>.br c (k true { s with pc:=qs9 c true :: s.pc }) (k false { s with pc:=qs9 c false :: s.pc })

def qmS (ops:Array Oper) (s:S) (o:Oper):Option (Option (T × Bool)) :=
 match o.guard with
 | none=>some none
 | some (j,want) =>
  match (ops[j]?).bind (·.dst) with
  | some t =>
   match qaV t s.env with
   | some (.one (.c1 .vbool c))=>some (some (c,want))
   | some (.tup [])=>some (some (.bl (!want),want))
   | _=>none
  | none=>none

def qcD (dst:Option Nat) (v:Option SV) (s:S):Option S :=
 match dst,v with
 | none,_=>some s
 | some d,some v=>if Nat.blt d s.nt then some { s with env:=qhn d v s.env } else none
 | some _,none=>none


def qzp (s:S) (cs:List T):Bool:=cs.all fun c=>match qc5 (qlv s c) s.pc with
 | some true=>true
 | _=>false
def qm3 (P:Program) (s:S):ResultVar->Option SV
 | .tmp t=>qaV t s.env
 | .cell a t =>
  match qaV a s.env,qdm P t,qN P t with
  | some (.one (.c1 (.vptr r p c) e)),some ag,some n =>
   match qaf r s.heap with
   | some (_,x) =>
    match quc x e p c n with
    | some (cs,nd)=>if qzp s nd then (if ag then some (.agg cs) else match cs with | [t]=>some (.one t) | _=>none) else none
    | none=>none
   | none=>none
  | _,_,_=>none
def quT:SV->Option (Bool × List T)
 | .one t=>some (false,[t])
 | .agg ts=>some (true,ts)
 | _=>none
def qmJ (P:Program) (s:S):List ResultVar->Option (List (Bool × List T))
 | []=>some []
 | r :: rs=>match (qm3 P s r).bind quT,qmJ P s rs with
  | some x,some l=>some (x :: l)
  | _,_=>none
def qls (fn:Func) (s:S) (P:Program):Option SV :=
 match fn.results.toList with
 | [r]=>qm3 P s r
 | rs=>(qmJ P s rs).map .tup

def qzu (me:Ctr) (s:S) (v:SV) (a:Alt):Option (List SH × Bool) :=
 match (mSV a.ret v { th:=me.nv,bd:=[],eqI:=[],eqB:=[],eqD:=[] }).bind (mHs true (qjO a.heap) s.heap []) with
 | some (rest,Z) =>
  match Z.left with
  | some cs=>some (rest,cs.isEmpty)
  | none=>none
 | none=>none
def qjU (me:Ctr) (s:S) (v:SV) (strict:Bool):Nat->List Alt->Out
 | _,[]=>.stuck 9 0 0
 | ai,a :: r =>
  match qzu me s v a with
  | none=>qjU me s v strict (ai + 1) r
  | some (rest,exact) =>
   if strict && !exact then qjU me s v strict (ai + 1) r else
   if !(v.inB s.nx) then .stuck 62 ai 0 else
   qfG s rest (qgs a.heap) fun s =>
    match (mSV a.ret v { th:=me.nv,bd:=[],eqI:=[],eqB:=[],eqD:=[] }).bind (mHs true a.heap s.heap []) with
    | some (_,Z) =>
     match Z.left with
     | some cs=>needs s cs fun _=>.ret ai Z.clean
     | none=>.stuck 63 ai 0
    | none=>.stuck 64 ai 0
def q6U (me:Ctr) (s:S) (v:SV) (l:List Alt):Bool:=l.any fun a=>match qzu me s v a with
 | some (_,b)=>b
 | none=>false

def qcL:Code->Option Nat
 | .region id _ _=>some id
 | .seq a b=>(qcL a).orElse fun _=>qcL b
 | .cond _ a b=>(qcL a).orElse fun _=>qcL b
 | .block _ b=>qcL b
 | .loop b=>qcL b
 | .scope b=>qcL b
 | _=>none

def qg7 (key:Nat):List Inv->Nat->Option (Nat × Inv)
 | [],_=>none
 | x :: r,n=>if Nat.beq x.key key then some (n,x) else qg7 key r (n + 1)
def q8L (s:S) (I:Inv):Bool:=((qhp I.env s.env { th:=1000,bd:=[],eqI:=[],eqB:=[],eqD:=[] }).bind (mHs true (qjO I.heap) s.heap [])).isSome
def qib (key:Nat) (s:S):List Inv->Nat->Option (Nat × Inv)
 | [],_=>none
 | x :: r,n=>if Nat.beq x.key key && q8L s x then some (n,x) else qib key s r (n + 1)
def qrk (key:Nat) (s:S) (l:List Inv):Option (Nat × Inv) :=
 match qib key s l 0 with
 | some x=>some x
 | none=>qg7 key l 0

def q2N (x:T × T):Bool :=
 match x.1.isLit,x.2.isLit with
 | some a,some b=>decide (a = b)
 | _,_=>true

def q96:T->Option Bool
 | .c0 (.bl b)=>some b
 | _=>none
def q0F (x:T × T):Bool :=
 match q96 x.1,q96 x.2 with
 | some a,some b=>a == b
 | _,_=>true

def qhI (s:S):List SH:=(s.vw.filter fun x=>x.1.all s.piece).map (·.2)

def qqD (mip:List (Nat × Nat)):List (Nat × Nat)->List (Nat × Bd)
 | []=>[]
 | (k,r) :: l=>if Nat.ble 2000 k then match qeJ k mip with
  | some R=>(r,.r R) :: qqD mip l
  | none=>qqD mip l
  else qqD mip l
def qgK (mip:List (Nat × Nat)) (s:S) (f:FuncId) (args:List SV):Nat->List Ctr->Option (Nat × Ctr × List SH × Sg)
 | _,[]=>none
 | n,c :: r =>
  if Nat.beq c.fn f then
   match ((qju c.args args { th:=0,bd:=qqD mip c.ip,eqI:=[],eqB:=[],eqD:=[] }).bind (mHs true c.heap s.heap [])) with
   | some (h,Z) =>
    match mHs false c.ro h (s.ro ++ qhI { s with heap:=h }) Z with
    | some (_,Z)=>if Z.eqI.all q2N && Z.eqB.all q0F then some (n,c,h,Z) else qgK mip s f args (n + 1) r
    | none=>qgK mip s f args (n + 1) r
   | none=>qgK mip s f args (n + 1) r
  else qgK mip s f args (n + 1) r

def qhP (s:S) (c:Call):Option (FuncId × List SV) :=
 match c.callee with
 | .value f =>
  match opd s f,opds s c.args.toList with
  | some (.fn (.func fid) first caps),some as=>some (fid,(first.map .one) ++ as ++ (caps.map .one))
  | _,_=>none
 | _=>none

def quE (q:Nat):List (Nat × Bd)->Bool
 | []=>false
 | (_,.r m) :: l=>Nat.beq q m || quE q l
 | _ :: l=>quE q l
def qyZ (f:FuncId):List Ctr->Option Ctr
 | []=>none
 | c :: l=>if Nat.beq c.fn f && (match qeJ 1004 c.ip with | some k=>Nat.beq k 9 | none=>false) then some c else qyZ f l
def q98 (ctrs:List Ctr) (s:S) (o:Oper):Option (List SH) :=
 match o.op with
 | .call c =>
  match qhP s c with
  | some (fid,as) =>
   match qyZ fid ctrs with
   | some c =>
    match ((qju c.args as { th:=0,bd:=[],eqI:=[],eqB:=[],eqD:=[] }).bind (mHs false (qjO (c.heap ++ c.ro)) s.heap s.ro)) with
    | some (_,Z)=>some (s.heap.filter fun x=>match x.reg with
     | some q=>!(quE q Z.bd)
     | none=>true)
    | none=>none
   | none=>none
  | none=>none
 | _=>none
def qrO (ctrs:List Ctr) (s:S) (o:Oper) (k:S->Out):Out :=
 match q98 ctrs s o with
 | some rest=>qfG s rest (qxa ctrs s o) k
 | none=>qg3 s (qxa ctrs s o) k

def qru (k:Nat->Alt->Out):Nat->List Alt->Out
 | _,[]=>.top
 | n,a :: r=>.both (k n a) (qru k (n + 1) r)

def qnh (r:Nat):List (List Nat × SH)->Option (List Nat × SH)
 | []=>none
 | x :: l=>match x.2.reg with
  | some q=>if Nat.beq q r then some x else qnh r l
  | none=>qnh r l
def qha (m:Nat):List SH->Nat->Option (Nat × Nat)
 | [],_=>none
 | .abs n t :: l,k=>if Nat.beq n m then some (k,t) else qha m l (k + 1)
 | _ :: l,k=>qha m l (k + 1)
structure PutR where
 m:Nat
 rg:Nat
 k:Nat
 tag:Nat
 pat:List CK
 d:T
 e:T
 c:Nat
 vs:List T
def qum (P:Program) (s:S) (o:Oper):Option PutR :=
 match o.op,o.dst with
 | .store t a v,none =>
  match opd s a,(opd s v).bind SV.cells,qN P t with
  | some (.one (.c1 (.vptr r p c) e)),some vs,some n =>
   match qaf r s.heap,qnh r s.vw with
   | none,some ([m],.arr r' _ pat d _) =>
    match qha m s.heap 0 with
    | some (k,tag)=>if Nat.blt tag 1001 && Nat.beq r' r && Nat.beq vs.length n && Nat.beq p pat.length && Nat.ble (c + n) p && Nat.ble 1 p then some ⟨m,r,k,tag,pat,d,e,c,vs⟩ else none
    | none=>none
   | _,_=>none
  | _,_,_=>none
 | _,_=>none

def q0P (P:Program) (s:S) (o:Oper):Option (Nat × SH × SV) :=
 match o.op with
 | .convert src dst x =>
  if Nat.beq src dst then
   match P.underlying src with
   | some (.slice e) =>
    match P.underlying e,opd s x with
    | some (.int .u8),some (.one (.c3 (.vslice r p) off len cap)) =>
     match qaf r s.heap with
     | some (k,.cells r' ty cs)=>if Nat.beq r r' then some (k,.cells r' ty cs,.one (.c3 (.vslice r p) off len cap)) else none
     | _=>none
    | _,_=>none
   | _=>none
  else none
 | _=>none
def qn1 (s:S) (i:Nat) (o:Oper) (k:S->Out) (b:MB):Out :=
 match qcD o.dst b.val { s with heap:=b.heap,nx:=s.nx + b.fresh } with
 | some s=>k s
 | none=>.stuck 69 i 0
def quj (E:Ctx) (s:S) (i:Nat) (o:Oper) (k:S->Out):Out :=
 match o.op with
 | .call { callee:=.value f,args,argTypes } =>
  match qhP s { callee:=.value f,args,argTypes } with
  | none=>.stuck 10 i 0
  | some (fid,as) =>
   match qgK E.me.ip s fid as 0 E.ctrs with
   | none=>.stuck 11 fid i
   | some (ci,c,h,Z) =>
    match Z.left with
    | none=>.stuck 12 fid i
    | some cs=>needs s cs fun s=>.pre ci Z.clean <|
     qru (fun ai a=>if !(q4a Z c a s.nx) then .stuck 19 fid i else qfA { s with heap:=h } a.k fun s' =>
      match Sg.subSV { Z with bd:=qd3 c.nv s.nx a.k ++ Z.bd } a.ret,Sg.subHs { Z with bd:=qd3 c.nv s.nx a.k ++ Z.bd } a.heap with
      | some v,some hs =>
       match qcD o.dst (some v) { s' with heap:=hs ++ s'.heap } with
       | some s''=>.post ci ai Z.clean s.nx (k s'')
       | none=>.stuck 13 fid i
      | _,_=>.stuck 14 fid i) 0 c.alts
 | _ =>
  match q1R E.P E.me.ip s o with
  | some r=>if s.inNx then .mop r.k s.nx (qn1 s i o k r.a) (match r.b with | some b=>qn1 s i o k b | none=>.top) else .stuck 70 i 0
  | none =>
  match qum E.P s o with
  | some r=>needs s [qZ r.e,qr .lss r.e (qR r.d)] fun s =>
   if s.inNx then .put r.m r.rg r.pat r.d r.e r.c r.vs s.nx (k { s with heap:=s.heap.set r.k (.abs s.nx r.tag),nx:=s.nx + 1 }) else .stuck 66 i 0
  | none =>
  match q0P E.P s o with
  | some (fk,y,v) =>
   if s.inNx then .fresh s.nx <|
    match qcD o.dst (some v) { s with heap:=.abs s.nx 1001 :: s.heap.eraseIdx fk,vw:=([s.nx],y) :: s.vw,nx:=s.nx + 1 } with
    | some s'=>k s'
    | none=>.stuck 67 i 0
   else .stuck 68 i 0
  | none =>
  match q0W E.P E.me.ip s o with
  | none=>.stuck 15 i 0
  | some r=>needs s r.needs fun s=>qfA s r.fresh fun s =>
   match qcD o.dst r.val { s with heap:=r.heap } with
   | some s=>k s
   | none=>.stuck 16 i 0
def qe2 (s:S) (t:T):Option T :=
 match t with
 | .c3 (.vslice r _) _ _ _ =>
  match qaf r s.heap with
  | some (_,.arr _ _ _ d cap)=>some (qr .leq (qR d) cap)
  | _=>none
 | _=>none
def qsw (s:S) (x:Operand):Option T :=
 match opd s x with
 | some (.agg ts)=>ts.findSome? (qe2 s)
 | some (.one (.c1 (.vptr r _ _) _)) =>
  match qaf r s.heap with
  | some (_,.cells _ _ ts)=>ts.findSome? (qe2 s)
  | _=>none
 | _=>none
def qvR (ip:List (Nat × Nat)) (s:S) (o:Oper):Option T :=
 let at_ (x:Operand):Option T :=
  match opd s x with
  | some (.one (.c3 (.vslice r _) _ _ _)) =>
   match qaf r s.heap with
   | some (_,.arr _ _ _ d cap)=>some (qr .leq (qR d) cap)
   | _=>none
  | _=>none
 match o.op with
 | .slice _ x _ _ _=>at_ x
 | .call { callee:=.builtin .append,args,.. } =>
  if quh o ip 0 then
   match args.toList with
   | x :: _=>at_ x
   | []=>none
  else none
 | .call { callee:=.builtin _,.. }=>none
 | .call { args,.. } =>
  match qeJ 1005 ip with
  | some k=>if Nat.beq k 9 then args.toList.findSome? at_ else if Nat.beq k 8 then args.toList.findSome? (qsw s) else none
  | none=>none
 | _=>none
def qpW (ip:List (Nat × Nat)) (s:S) (o:Oper) (k:S->Out):Out :=
 match qvR ip s o with
 | some c=>match qc5 c s.pc with
  | some _=>k s
  | none=>.know c (k { s with pc:=(c,true) :: s.pc })
 | none=>k s
def q0v (ip:List (Nat × Nat)) (s:S) (o:Oper) (k:S->Out):Out:=if quh o ip 2 then qpW ip s o k else k s
def qoW (s:S) (x:Operand):List T :=
 match opd s x with
 | some (.one (.c1 (.vptr r _ _) _)) =>
  match qaf r s.heap with
  | some (_,.cells _ _ ts)=>ts.filterMap (qe2 s)
  | _=>[]
 | some (.one t)=>[t].filterMap (qe2 s)
 | some (.agg ts)=>ts.filterMap (qe2 s)
 | _=>[]
def qr7 (ip:List (Nat × Nat)) (s:S) (o:Oper):List T :=
 match o.op with
 | .call { args,.. } =>
  match qeJ 1005 ip with
  | some k=>if Nat.beq k 7 then args.toList.flatMap (qoW s) else []
  | none=>[]
 | _=>[]
def qlR (s:S):List T->(S->Out)->Out
 | [],k=>k s
 | c :: cs,k =>
  match qc5 c s.pc with
  | some _=>qlR s cs k
  | none=>.know c (qlR { s with pc:=(c,true) :: s.pc } cs k)
def q5b (P:Program) (s:S) (o:Oper) (k:S->Out):Out:=if q8e P o then qg3 s [1003] k else k s
def qzE (ow:List Nat) (t:Nat):Option Nat:=ow.findSome? fun x=>if Nat.ble 50000000 x && Nat.beq (x % 10000) t then some (x / 10000 - 5000) else none
def q0j (ow:List Nat) (s:S) (t el:Nat) (pat:List CK) (k:S->Out):Out :=
 match qzE ow t with
 | none=>k s
 | some g =>
  match qaV t s.env with
  | some (.one x) =>
   if qrD x then
    match qgO g s.heap with
    | some (j,m) =>
     if s.inNx && Nat.blt t s.nt then
      .take x el pat m s.nx (k { s with
       env:=qhn t (.one (.vslice (s.nx + 1) (.lit 0) (.dlen (.var (s.nx + 3))) (.var (s.nx + 2)) pat.length)) s.env
       heap:=.arr (s.nx + 1) el pat (.var (s.nx + 3)) (.var (s.nx + 2)) :: .abs s.nx g :: s.heap.eraseIdx j
       nx:=s.nx + 4 })
     else .stuck 68 t 0
    | none=>k s
   else k s
  | _=>k s
def q1Z (P:Program) (ow:List Nat) (s:S) (o:Oper) (k:S->Out):Out :=
 match o.op with
 | .call { callee:=.builtin .append,args,argTypes } =>
  match args.toList,argTypes.toList with
  | [x,_],[t,_]=>match qcB P t x with
   | [(t,el,pat)]=>q0j ow s t el pat k
   | _=>k s
  | _,_=>k s
 | _=>k s
def qsu (E:Ctx) (s:S) (i:Nat) (o:Oper) (k:S->Out):Out :=
 qrO E.ctrs s o fun s=>q5b E.P s o fun s=>q1Z E.P E.me.ow s o fun s=>qp4 E.me.ow s (q8d E.P E.ctrs s o) fun s=>qqB E.me.ow s (q4V E.ctrs s o) fun s=>qpW E.me.ip s o fun s=>qlR s (qr7 E.me.ip s o) fun s=>quj E (qg4 E.me.ip s o) i o k


def qdJ:List SH->List SH->Bool
 | [],_=>true
 | _ :: _,[]=>false
 | x :: xs,y :: ys=>if x.same y then qdJ xs ys else qdJ (x :: xs) ys

def q8E (md:Region.Mode) (acc:Array Nat) (l:List Edge):Nat:=l.foldl (fun m e=>if Region.binds md e then m ||| 2 ^ e.on ||| acc.getD e.on 0 else m) 0
def qps (md:Region.Mode):List Oper->Array Nat->Array Nat
 | [],acc=>acc
 | o :: r,acc=>qps md r (acc.push (q8E md acc o.after.toList))
def qfR (md:Region.Mode) (ops:Array Oper) (A:List Nat) (j:Nat):Bool :=
 match (qps md ops.toList #[])[j]? with
 | some m=>A.all fun i=>m.testBit i
 | none=>false
def qt7:Op->Bool
 | .store ..=>false
 | .alloc ..=>false
 | .box ..=>false
 | .makeSlice ..=>false
 | .buildSlice ..=>false
 | .call { callee:=.builtin .len,.. }=>true
 | .call { callee:=.builtin .min,.. }=>true
 | .call { callee:=.builtin .max,.. }=>true
 | .call _=>false
 | _=>true
def qpR (ops:Array Oper):List Nat:=go ops.toList 0
where
 go:List Oper->Nat->List Nat
  | [],_=>[]
  | o :: r,i=>if qt7 o.op then i :: go r (i + 1) else go r (i + 1)
def q4S (ops:Array Oper):List Nat:=go ops.toList 0 []
where
 go:List Oper->Nat->List Nat->List Nat
  | [],_,acc=>acc.reverse
  | o :: r,i,acc=>if qt7 o.op && o.after.toList.all (fun e=>!(Region.binds .any e) || acc.contains e.on) then go r (i + 1) (i :: acc) else go r (i + 1) acc
def q9E:Op->Bool
 | .store ..=>true
 | .call { callee:=.builtin .append,.. }=>true
 | _=>false
def q9w (ops:Array Oper) (A:List Nat):Bool:=go ops.toList 0
where
 go:List Oper->Nat->Bool
  | [],_=>true
  | o :: r,i=>(!q9E o.op || qfR .any ops A i) && go r (i + 1)
def qz1 (ops:Array Oper):List Nat:=if q9w ops (qpR ops) then qpR ops else q4S ops
def q9L (ops:Array Oper) (x:Nat):List Nat:=(qpR ops).filter fun i=>match (qps .any ops.toList #[])[i]? with
 | some m=>!(m.testBit x)
 | none=>false
def qhg (ip:List (Nat × Nat)) (ops:Array Oper):List Nat :=
 match qeJ (1100 + ops.size) ip,qeJ (1200 + ops.size) ip with
 | some _,_=>q4S ops
 | none,some x=>q9L ops x
 | none,none =>
  match qeJ 1001 ip with
  | some k=>if Nat.beq k 9 then qpR ops else qz1 ops
  | none=>qz1 ops
def qA2 (ip:List (Nat × Nat)) (ops:Array Oper):List Oper:=go ops.toList 0
where
 go:List Oper->Nat->List Oper
  | [],_=>[]
  | o :: r,i=>if qfR .any ops (qhg ip ops) i then go r (i + 1) else o :: go r (i + 1)

def qAC (ip:List (Nat × Nat)):Bool :=
 match qeJ 1000 ip with
 | some k=>Nat.beq k 9
 | none=>false
inductive Pick where
 | br (c:T)
 | take (i:Nat)
 | all
 deriving Inhabited

def qlY (ops:Array Oper) (s:S) (o:Oper):Option (Option Bool) :=
 match qmS ops s o with
 | none=>none
 | some none=>some (some true)
 | some (some (c,want))=>match qc5 c s.pc with
  | some b=>some (some (b == want))
  | none=>some none

def qwC (E:Ctx) (s:S) (st:List SH) (o:Oper):Option R1 :=
 match qqO E.P E.me.ip { s with heap:=st } o with
 | some r=>if Nat.beq r.fresh 0 && r.val.isSome then some r else none
 | none=>none

def qpO (ops:Array Oper) (s:S):List Nat->Option T
 | []=>none
 | i :: l=>match ops[i]? with
  | none=>qpO ops s l
  | some o=>match qmS ops s o with
   | some (some (c,_))=>match qc5 c s.pc with
    | none=>some c
    | some _=>qpO ops s l
   | _=>qpO ops s l
def qkA (E:Ctx) (ops:Array Oper) (listed:Array Bool) (s:S) (st:List SH):List Nat->Option Nat
 | []=>none
 | i :: l=>match ops[i]? with
  | none=>qkA E ops listed s st l
  | some o =>
   match qlY ops s o with
   | some (some g)=>if (!g || (qwC E s st o).isSome) && (qhg E.me.ip ops).contains i && Region.free .any ops listed i then some i else qkA E ops listed s st l
   | _=>qkA E ops listed s st l
def q7k (E:Ctx) (ops:Array Oper) (listed:Array Bool) (s:S) (st:List SH) (R:List Nat):Pick :=
 match qpO ops s R with
 | some c=>.br c
 | none =>
  if qdJ st s.heap then
   match qkA E ops listed s st R with
   | some i=>.take i
   | none=>.all
  else .all

def qs8 (k:Nat->Out):List Nat->Out
 | []=>.top
 | i :: l=>.both (k i) (qs8 k l)

def SH.isCells:SH->Bool
 | .cells ..=>true
 | _=>false
def q6e (E:Ctx) (s:S) (f:Operand):Bool :=
 match qeJ 1002 E.me.ip,opd s f with
 | some k,some (.fn (.func fid) _ _)=>Nat.beq k 9 && E.ctrs.all fun c=>!(Nat.beq c.fn fid) || c.heap.isEmpty
 | _,_=>false
def qxu (E:Ctx) (s:S) (ops:List Oper):List SH:=go ops s s.heap
where
 go:List Oper->S->List SH->List SH
  | [],_,st=>st
  | o :: r,s,st =>
   match o.op with
   | .call { callee:=.value f,args,argTypes } =>
    match qhP s { callee:=.value f,args,argTypes } with
    | some (fid,as) =>
     match qgK E.me.ip s fid as 0 E.ctrs with
     | some (_,_,h,_)=>go r s (st.filter fun x=>h.any fun y=>x.same y)
     | none=>go r s (st.filter SH.isCells)
    | none=>if q6e E s f then go r s st else go r s (st.filter SH.isCells)
   | _ =>
    match qp E.P s o with
    | some r1=>go r { s with env:=(match r1.val,o.dst with | some v,some d=>qhn d v s.env | _,_=>s.env),heap:=r1.heap,nx:=s.nx + r1.fresh } (st.filter fun x=>r1.heap.any fun y=>x.same y)
    | none =>
     match o.op with
     | .store _ a _=>match opd s a with
      | some (.one (.c1 (.vptr rg _ _) _))=>go r s (st.filter fun x=>!(match x.reg with | some q=>Nat.beq q rg | none=>false))
      | _=>[]
     | .call { callee:=.builtin .append,args,.. }=>match args[0]?.bind (opd s) with
      | some (.one (.c3 (.vslice rg _) _ _ _))=>go r s (st.filter fun x=>!(match x.reg with | some q=>Nat.beq q rg | none=>false))
      | _=>match (args[0]?:Option Operand) with
       | some (.tmp t)=>if (qzE E.me.ow t).isSome then go r s (st.filter fun x=>x.isAbs.isNone) else go r s st
       | _=>go r s st
     | _=>go r s st

def qjF (E:Ctx) (s:S) (ops:Array Oper):List SH:=(if qAC E.me.ip then qxu E s ops.toList else qxu E s (qA2 E.me.ip ops)).filter fun x=>!(qiM 1003 x)

def q7K (I:Inv) (li base:Nat) (s:S):Out :=
 match (qhp I.env s.env { th:=1000,bd:=[],eqI:=[],eqB:=[],eqD:=[] }).bind (mHs true I.heap s.heap []) with
 | some (_,Z) =>
  match Z.left with
  | some cs=>needs s cs fun _=>.back li base Z.clean
  | none=>.stuck 2 li 0
 | none=>.stuck 3 li 1
def q79 (I:Inv) (li:Nat) (s:S) (k:S->Out):Out :=
 match (qhp I.env s.env { th:=1000,bd:=[],eqI:=[],eqB:=[],eqD:=[] }).bind (mHs true I.heap s.heap []) with
 | none=>.stuck 23 li 1
 | some (_,Z) =>
  match Z.left with
  | none=>.stuck 24 li 0
  | some cs=>needs s cs fun s=>if !(s.inNx && I.fits s.nx) then .stuck 28 li 0 else .inv li s.nx Z.clean <|
   let Z1:Sg:={ th:=1000,bd:=qd3 1000 s.nx I.nv,eqI:=[],eqB:=[],eqD:=[] }
   match Z1.subEnv I.env,Z1.subHs I.heap with
   | some env,some hs=>qfA s I.nv fun s'=>if !({ s' with env:=env,heap:=hs,vw:=[] }:S).inNx then .stuck 29 li 0 else
     .hyp li s.nx (k { s' with env:=env,heap:=hs,vw:=[] })
   | _,_=>.stuck 25 li 0

def qBz (E:Ctx) (b:Code):Option (Nat × Inv):=(qcL b).bind fun key=>qg7 (key + 1000000) E.invs 0
def qAk (I:Inv) (li base:Nat) (s:S):Out :=
 match (qhp I.env s.env { th:=1000,bd:=[],eqI:=[],eqB:=[],eqD:=[] }).bind (mHs true I.heap s.heap []) with
 | some (_,Z) =>
  match Z.left with
  | some cs=>needs s cs fun _=>.cut li base Z.clean
  | none=>.stuck 62 li 0
 | none=>.stuck 63 li 1
def q7A (I:Inv) (li:Nat) (s:S) (k:S->Out):Out :=
 if !(s.inNx && I.fits s.nx) then .stuck 64 li 0 else
 let Z1:Sg:={ th:=1000,bd:=qd3 1000 s.nx I.nv,eqI:=[],eqB:=[],eqD:=[] }
 match Z1.subEnv I.env,Z1.subHs I.heap with
 | some env,some hs=>qfA s I.nv fun s'=>if !({ s' with env:=env,heap:=hs,vw:=[] }:S).inNx then .stuck 65 li 0 else
   .hyp li s.nx (k { s' with env:=env,heap:=hs,vw:=[] })
 | _,_=>.stuck 66 li 0

def qab (E:Ctx) (fn:Func):Nat->List KI->S->Out
 | 0,_,_=>.stuck 0 0 0
 | n + 1,[],s =>
  match qls fn s E.P with
  | some v=>qjU E.me s v (q6U E.me s v E.me.alts) 0 E.me.alts
  | none=>.stuck 1 0 0
 | n + 1,.blk _ :: K,s=>qab E fn n K s
 | n + 1,.again c :: K,s=>qab E fn n (.code c :: .again c :: K) s
 | n + 1,.lend li base :: _,s =>
  match E.invs[li]? with
  | some I =>
   match (qhp I.env s.env { th:=1000,bd:=[],eqI:=[],eqB:=[],eqD:=[] }).bind (mHs true (qjO I.heap) s.heap []) with
   | some (rest,_)=>qfG s rest (qgs I.heap) fun s=>q7K I li base s
   | none=>.stuck 3 li 0
  | none=>.stuck 4 li 0
 | n + 1,.cutE li base :: _,s =>
  match E.invs[li]? with
  | some I =>
   match (qhp I.env s.env { th:=1000,bd:=[],eqI:=[],eqB:=[],eqD:=[] }).bind (mHs true (qjO I.heap) s.heap []) with
   | some (rest,_)=>qfG s rest (qgs I.heap) fun s=>qAk I li base s
   | none=>.stuck 63 li 0
  | none=>.stuck 61 li 0
 | n + 1,.ops _ [] :: K,s=>qab E fn n K s
 | n + 1,.ops ops (i :: l) :: K,s =>
  match ops[i]? with
  | none=>qab E fn n (.ops ops l :: K) s
  | some o =>
   match qmS ops s o with
   | none=>.stuck 17 i 0
   | some none=>qsu E s i o (fun s=>qab E fn n (.ops ops l :: K) s)
   | some (some (c,want))=>qlM s c fun b s=>if b = want then qsu E s i o (fun s=>qab E fn n (.ops ops l :: K) s) else
    match qcD o.dst (some (.tup [])) s with
    | some s=>qab E fn n (.ops ops l :: K) s
    | none=>.stuck 18 i 0
 | n + 1,.any ops listed left st :: K,s =>
  match Region.ready .any ops listed with
  | []=>qab E fn n K s
  | j :: R =>
   match left with
   | 0=>.stuck 41 0 0
   | left + 1 =>
    match q7k E ops listed s st (j :: R) with
    | .br c=>qlM s c fun _ s=>qab E fn n (.any ops listed (left + 1) st :: K) s
    | .take i =>
     if !(qdJ st s.heap && Region.noSelect ops && (qhg E.me.ip ops).contains i && Region.free .any ops listed i && (j :: R).contains i) then .stuck 42 i 0 else
     match ops[i]? with
     | none=>.stuck 43 i 0
     | some o =>
      match qlY ops s o with
      | some (some false) =>
       match qcD o.dst (some (.tup [])) s with
       | some s=>qab E fn n (.any ops (listed.setIfInBounds i true) left st :: K) s
       | none=>.stuck 44 i 0
      | some (some true)=>q0v E.me.ip s o fun s =>
       match qwC E s st o with
       | some r=>needs s r.needs fun s =>
        match qcD o.dst r.val s with
        | some s=>qab E fn n (.any ops (listed.setIfInBounds i true) left st :: K) s
        | none=>.stuck 45 i 0
       | none=>.stuck 46 i 0
      | _=>.stuck 47 i 0
    | .all=>qs8 (fun i =>
      match ops[i]? with
      | none=>.stuck 43 i 0
      | some o =>
       match qlY ops s o with
       | some (some true)=>qsu E s i o fun s=>if !(qfR .any ops (qhg E.me.ip ops) i || qdJ st s.heap) then .stuck 50 i 0 else qab E fn n (.any ops (listed.setIfInBounds i true) left st :: K) s
       | some (some false) =>
        if !(qfR .any ops (qhg E.me.ip ops) i || qdJ st s.heap) then .stuck 51 i 0 else
        match qcD o.dst (some (.tup [])) s with
        | some s=>qab E fn n (.any ops (listed.setIfInBounds i true) left st :: K) s
        | none=>.stuck 48 i 0
       | _=>.stuck 49 i 0) (j :: R)
 | n + 1,.code c :: K,s =>
  match c with
  | .skip=>qab E fn n K s
  | .label _=>qab E fn n K s
  | .seq a b =>
   match qBz E b with
   | some (li,I)=>.both (qab E fn n (.code a :: .cutE li s.nx :: .code b :: K) s) (q7A I li s fun s'=>qab E fn n (.code b :: K) s')
   | none=>qab E fn n (.code a :: .code b :: K) s
  | .block id b=>qab E fn n (.code b :: .blk id :: K) s
  | .exit id =>
   match qfu id K with
   | some K'=>qab E fn n K' s
   | none=>.stuck 20 id 0
  | .ret=>qab E fn n [] s
  | .cond c a b =>
   match opd s c with
   | some (.one (.c1 .vbool t))=>qlM s t fun x s=>qab E fn n (.code (if x then a else b) :: K) s
   | _=>.stuck 21 0 0
  | .region _ ops false=>qab E fn n (.ops ops (List.range ops.size) :: K) s
  | .region _ ops true =>
   if E.P.follows .mixedOrders && Region.noSelect ops && s.inNx then
    if (qjF E s ops).all (SH.inB s.nx) then qab E fn n (.any ops (Array.replicate ops.size false) ops.size (qjF E s ops) :: K) s else .stuck 32 0 0
   else .stuck 31 0 0
  | .loop b =>
   match (qcL b).bind fun key=>qrk key s E.invs with
   | none=>qab E fn n (.code b :: .again b :: K) s
   | some (li,I) =>
    match (qhp I.env s.env { th:=1000,bd:=[],eqI:=[],eqB:=[],eqD:=[] }).bind (mHs true (qjO I.heap) s.heap []) with
    | none=>.stuck 23 li 0
    | some (rest,_)=>qfG s rest (qgs I.heap) fun s=>q79 I li s fun s'=>qab E fn n (.code b :: .lend li (s'.nx - I.nv) :: K) s'
  | _=>.stuck 26 0 0

end Go.Eng

set_option linter.unusedSimpArgs false
set_option linter.unusedVariables false
namespace Go.Eng
open Go

theorem qbl {a b:Nat} (h:a < b):Nat.blt a b = true:=by simpa using h
theorem qeu {a b:Nat} (h:¬ a < b):Nat.blt a b = false:=by
 cases h':Nat.blt a b
 ·rfl
 ·exact absurd (by simpa using h') h


theorem T.den_congr {n:Nat} {ρ ρ':Env} (h:∀ m,m < n->ρ m = ρ' m):∀ (t:T),t.inB n = true->t.den ρ = t.den ρ'
 | .var m,hb=>by simp [T.inB] at hb; simpa [T.den] using h m hb
 | .c0 o,hb=>by
  cases o <;> simp_all [T.inB,T.den,O0.den]
 | .c1 o a,hb=>by
  cases o <;> (simp only [T.inB,Bool.and_eq_true,Nat.blt_eq] at hb) <;>
   first
    | (simp only [T.den]; rw [T.den_congr h a hb]; rfl)
    | (simp only [T.den]; rw [T.den_congr h a hb.2]; simp [O1.den,h _ hb.1])
 | .c2 o a b,hb=>by
  simp only [T.inB,Bool.and_eq_true] at hb
  simp only [T.den]; rw [T.den_congr h a hb.1,T.den_congr h b hb.2]
 | .c3 o a b c,hb=>by
  cases o <;> (simp only [T.inB,Bool.and_eq_true,Nat.blt_eq] at hb)
  ·simp only [T.den]; rw [T.den_congr h a hb.1.1.2,T.den_congr h b hb.1.2,T.den_congr h c hb.2]; simp [O3.den,h _ hb.1.1.1]
  all_goals (simp only [T.den]; rw [T.den_congr h a hb.1.1,T.den_congr h b hb.1.2,T.den_congr h c hb.2]; rfl)
 | .ife a b x y,hb=>by
  simp only [T.inB,Bool.and_eq_true] at hb
  simp only [T.den]; rw [T.den_congr h a hb.1.1.1,T.den_congr h b hb.1.1.2,T.den_congr h x hb.1.2,T.den_congr h y hb.2]

theorem qbh {n:Nat} {ρ ρ':Env} (h:∀ m,m < n->ρ m = ρ' m) (ts:List T) (hb:ts.all (T.inB n) = true):qc ρ ts = qc ρ' ts:=by
 unfold qc
 refine List.map_congr_left fun t ht=>?_
 rw [T.den_congr h t (List.all_eq_true.1 hb t ht)]

theorem SV.den_congr {n:Nat} {ρ ρ':Env} (h:∀ m,m < n->ρ m = ρ' m) (v:SV) (hb:v.inB n = true):v.den ρ = v.den ρ':=by
 cases v with
 | one t=>simp only [SV.inB] at hb; simp only [SV.den]; rw [T.den_congr h t hb]
 | agg ts=>simp only [SV.inB] at hb; simp only [SV.den]; rw [qbh h ts hb]
 | tup vs =>
  simp only [SV.inB] at hb; simp only [SV.den]
  congr 2
  refine List.map_congr_left fun x hx=>?_
  have:=List.all_eq_true.1 hb x hx
  obtain ⟨g,ts⟩:=x
  cases g <;> simp only [qeQ] <;> rw [qbh h ts this]
 | fn f a b =>
  simp only [SV.inB,Bool.and_eq_true] at hb; simp only [SV.den]
  rw [qbh h a hb.1,qbh h b hb.2]

theorem SH.den_congr {n:Nat} {ρ ρ':Env} (h:∀ m,m < n->ρ m = ρ' m) (x:SH) (hb:x.inB n = true) (hp:Hp):x.den ρ hp↔x.den ρ' hp:=by
 cases x with
 | cells r ty cs=>simp only [SH.inB,Bool.and_eq_true,Nat.blt_eq] at hb; simp only [SH.den]; rw [qbh h cs hb.2,h r hb.1]
 | arr r ty pat d cap =>
  simp only [SH.inB,Bool.and_eq_true,Nat.blt_eq] at hb; simp only [SH.den]
  rw [T.den_congr h d hb.1.2,T.den_congr h cap hb.2,h r hb.1.1]
 | abs m t=>simp only [SH.inB,Nat.blt_eq] at hb; simp only [SH.den]; rw [h m hb]

theorem SH.roden_congr {n:Nat} {ρ ρ':Env} (h:∀ m,m < n->ρ m = ρ' m) (x:SH) (hb:x.inB n = true) (hp:Hp):x.roden ρ hp↔x.roden ρ' hp:=by
 cases x with
 | cells r ty cs=>simp only [SH.inB,Bool.and_eq_true,Nat.blt_eq] at hb; simp only [SH.roden]; rw [qbh h cs hb.2,h r hb.1]
 | arr r ty pat d cap =>
  simp only [SH.inB,Bool.and_eq_true,Nat.blt_eq] at hb; simp only [SH.roden]
  rw [T.den_congr h d hb.1.2,h r hb.1.1]
 | abs m t=>simp only [SH.inB,Nat.blt_eq] at hb; simp only [SH.roden]; rw [h m hb]

theorem qa1 {n:Nat} {ρ ρ':Env} (h:∀ m,m < n->ρ m = ρ' m):∀ (l:List SH),l.all (SH.inB n) = true->∀ hp,qW ρ l hp->qW ρ' l hp
 | [],_,_,_=>trivial
 | x :: xs,hb,hp,⟨h1,h2,hd,hu,hx,hs⟩=>by
  simp only [List.all_cons,Bool.and_eq_true] at hb
  exact ⟨h1,h2,hd,hu,(SH.den_congr h x hb.1 h1).1 hx,qa1 h xs hb.2 h2 hs⟩


def Bd.den (ρ:Env):Bd->U
 | .t x=>x.den ρ
 | .r m=>ρ m
 | .nil=>{}

def Sg.env (Z:Sg) (ρ:Env):Env:=fun n =>
 if n < Z.th then ρ n else
 match look n Z.bd with
 | some b=>b.den ρ
 | none=>{}

theorem Sg.env_lt {Z:Sg} {ρ:Env} {n:Nat} (h:n < Z.th):Z.env ρ n = ρ n:=by simp [Sg.env,h]
theorem Sg.env_look {Z:Sg} {ρ:Env} {n:Nat} {b:Bd} (h:¬ n < Z.th) (hl:look n Z.bd = some b):Z.env ρ n = b.den ρ:=by simp [Sg.env,h,hl]

theorem Sg.reg_env {Z:Sg} {ρ:Env} {r r':Nat} (h:Z.reg r = some r'):Z.env ρ r = ρ r':=by
 unfold Sg.reg at h
 by_cases hr:r < Z.th
 ·have:=qbl hr
  simp only [this,if_true,Option.some.injEq] at h
  rw [Sg.env_lt hr,h]
 ·have:=qeu hr
  simp only [this,Bool.false_eq_true,if_false] at h
  split at h
  ·rename_i m hl
   simp only [Option.some.injEq] at h
   rw [Sg.env_look hr hl,<- h]; rfl
  ·simp at h

theorem Sg.sub_den {Z:Sg} {ρ:Env}:∀ {t t':T},Z.sub t = some t'->t'.den ρ = t.den (Z.env ρ)
 | .var n,t',h=>by
  simp only [Sg.sub] at h
  by_cases hr:n < Z.th
  ·have:=qbl hr
   simp only [this,if_true,Option.some.injEq] at h
   rw [<- h]; simp [T.den,Sg.env_lt hr]
  ·have:=qeu hr
   simp only [this,Bool.false_eq_true,if_false] at h
   split at h
   ·rename_i t hl; simp only [Option.some.injEq] at h; rw [<- h]; simp [T.den,Sg.env_look hr hl,Bd.den]
   ·rename_i t hl; simp only [Option.some.injEq] at h; rw [<- h]; simp [T.den,Sg.env_look hr hl,Bd.den]
   ·simp at h
 | .c0 o,t',h=>by
  cases o
  case isnil r =>
   simp only [Sg.sub] at h
   by_cases hr:r < Z.th
   ·have:=qbl hr
    simp only [this,if_true,Option.some.injEq] at h
    rw [<- h]; simp [T.den,O0.den,Sg.env_lt hr]
   ·have:=qeu hr
    simp only [this,Bool.false_eq_true,if_false] at h
    split at h
    ·rename_i t hl; simp only [Option.some.injEq] at h; rw [<- h]; simp [T.den,O0.den,Sg.env_look hr hl,Bd.den]
    ·rename_i hl; simp only [Option.some.injEq] at h; rw [<- h]; simp [T.den,O0.den,Sg.env_look hr hl,Bd.den]
    ·simp at h
  all_goals (simp only [Sg.sub,Option.some.injEq] at h; rw [<- h]; rfl)
 | .c1 o a,t',h=>by
  cases o
  case vptr r p c =>
   simp only [Sg.sub] at h
   split at h
   ·rename_i r' a' hr ha
    simp only [Option.some.injEq] at h
    rw [<- h]; simp only [T.den,O1.den]; rw [Sg.sub_den ha,Sg.reg_env hr]
   ·simp at h
  all_goals
   simp only [Sg.sub,Option.map_eq_some_iff] at h
   obtain ⟨a',ha,rfl⟩:=h
   simp only [T.den]; rw [Sg.sub_den ha]; rfl
 | .c2 o a b,t',h=>by
  simp only [Sg.sub] at h
  split at h
  ·rename_i a' b' ha hb
   simp only [Option.some.injEq] at h
   rw [<- h]; simp only [T.den]; rw [Sg.sub_den ha,Sg.sub_den hb]
  ·simp at h
 | .c3 o a b c,t',h=>by
  cases o
  case vslice r p =>
   simp only [Sg.sub] at h
   split at h
   ·rename_i r' a' b' c' hr ha hb hc
    simp only [Option.some.injEq] at h
    rw [<- h]; simp only [T.den,O3.den]; rw [Sg.sub_den ha,Sg.sub_den hb,Sg.sub_den hc,Sg.reg_env hr]
   ·simp at h
  all_goals
   simp only [Sg.sub] at h
   split at h
   ·rename_i a' b' c' ha hb hc
    simp only [Option.some.injEq] at h
    rw [<- h]; simp only [T.den,O3.den]; rw [Sg.sub_den ha,Sg.sub_den hb,Sg.sub_den hc]
   ·simp at h
 | .ife a b x y,t',h=>by
  simp only [Sg.sub] at h
  split at h
  ·rename_i a' b' x' y' ha hb hx hy
   simp only [Option.some.injEq] at h
   rw [<- h]; simp only [T.den]; rw [Sg.sub_den ha,Sg.sub_den hb,Sg.sub_den hx,Sg.sub_den hy]
  ·simp at h

theorem Sg.subs_den {Z:Sg} {ρ:Env}:∀ {ts ts':List T},Z.subs ts = some ts'->qc ρ ts' = qc (Z.env ρ) ts
 | [],ts',h=>by simp only [Sg.subs,Option.some.injEq] at h; rw [<- h]; rfl
 | t :: ts,ts',h=>by
  simp only [Sg.subs] at h
  split at h
  ·rename_i a b ha hb
   simp only [Option.some.injEq] at h
   rw [<- h]
   have:=Sg.subs_den (ρ:=ρ) hb
   simp only [qc,List.map_cons] at this ⊢
   rw [Sg.sub_den ha,this]
  ·simp at h

theorem Sg.tup_den {Z:Sg} {ρ:Env}:∀ {vs vs':List (Bool × List T)},Sg.subSV.tup Z vs = some vs'->vs'.map (qeQ ρ) = vs.map (qeQ (Z.env ρ))
 | [],vs',h=>by simp only [Sg.subSV.tup,Option.some.injEq] at h; rw [<- h]; rfl
 | (g,ts) :: r,vs',h=>by
  simp only [Sg.subSV.tup] at h
  split at h
  ·rename_i a b ha hb
   simp only [Option.some.injEq] at h
   rw [<- h]
   simp only [List.map_cons]
   rw [Sg.tup_den hb]
   congr 1
   cases g <;> simp only [qeQ] <;> rw [Sg.subs_den ha]
  ·simp at h

theorem Sg.subSV_den {Z:Sg} {ρ:Env} {v v':SV} (h:Z.subSV v = some v'):v'.den ρ = v.den (Z.env ρ):=by
 cases v with
 | one t =>
  simp only [Sg.subSV,Option.map_eq_some_iff] at h
  obtain ⟨a,ha,rfl⟩:=h
  simp only [SV.den]; rw [Sg.sub_den ha]
 | agg ts =>
  simp only [Sg.subSV,Option.map_eq_some_iff] at h
  obtain ⟨a,ha,rfl⟩:=h
  simp only [SV.den]; rw [Sg.subs_den ha]
 | tup vs =>
  simp only [Sg.subSV,Option.map_eq_some_iff] at h
  obtain ⟨a,ha,rfl⟩:=h
  simp only [SV.den]; rw [Sg.tup_den ha]
 | fn f a b =>
  simp only [Sg.subSV] at h
  split at h
  ·rename_i x y hx hy
   simp only [Option.some.injEq] at h
   rw [<- h]; simp only [SV.den]; rw [Sg.subs_den hx,Sg.subs_den hy]
  ·simp at h

theorem Sg.subH_den {Z:Sg} {ρ:Env} {x x':SH} (h:Z.subH x = some x') (hp:Hp):x'.den ρ hp↔x.den (Z.env ρ) hp:=by
 cases x with
 | cells r ty cs =>
  simp only [Sg.subH] at h
  split at h
  ·rename_i r' cs' hr hc
   simp only [Option.some.injEq] at h
   rw [<- h]; simp only [SH.den]; rw [Sg.subs_den hc,Sg.reg_env hr]
  ·simp at h
 | arr r ty pat d cap =>
  simp only [Sg.subH] at h
  split at h
  ·rename_i r' d' cap' hr hd hc
   simp only [Option.some.injEq] at h
   rw [<- h]; simp only [SH.den]; rw [Sg.sub_den hd,Sg.sub_den hc,Sg.reg_env hr]
  ·simp at h
 | abs n t =>
  simp only [Sg.subH,Option.map_eq_some_iff] at h
  obtain ⟨m,hm,rfl⟩:=h
  simp only [SH.den]; rw [Sg.reg_env hm]

theorem Sg.subHs_den {Z:Sg} {ρ:Env}:∀ {l l':List SH},Z.subHs l = some l'->∀ hp,qW ρ l' hp↔qW (Z.env ρ) l hp
 | [],l',h,hp=>by simp only [Sg.subHs,Option.some.injEq] at h; rw [<- h]; rfl
 | x :: r,l',h,hp=>by
  simp only [Sg.subHs] at h
  split at h
  ·rename_i a b ha hb
   simp only [Option.some.injEq] at h
   rw [<- h]
   simp only [qW]
   constructor
   ·rintro ⟨h1,h2,hd,hu,hx,hs⟩; exact ⟨h1,h2,hd,hu,(Sg.subH_den ha h1).1 hx,(Sg.subHs_den hb h2).1 hs⟩
   ·rintro ⟨h1,h2,hd,hu,hx,hs⟩; exact ⟨h1,h2,hd,hu,(Sg.subH_den ha h1).2 hx,(Sg.subHs_den hb h2).2 hs⟩
  ·simp at h

end Go.Eng

set_option linter.unusedSimpArgs false
set_option linter.unusedVariables false
namespace Go.Eng
open Go
variable {ρ:Env}

theorem qqI {d:List (List Value)} (h:∀ row ∈ d,∀ v ∈ row,v.oneCell' = true) (e:Int) (c:Nat):(qF d e c).oneCell' = true:=by
 unfold qF
 cases h1:d[e.toNat]? with
 | none=>simp [Value.oneCell']
 | some row =>
  simp only [Option.getD_some]
  cases h2:row[c]? with
  | none=>simp [Value.oneCell']
  | some v=>exact h row (List.mem_of_getElem? h1) v (List.mem_of_getElem? h2)

theorem q3H (hg:ρ.good) {k:CK} {t:T} (h:qqj k t = true):CK.fits k (t.den ρ).v = true:=by
 unfold qqj at h
 split at h <;> first
  | (simp only [decide_eq_true_eq] at h; subst h; simp [T.den,O1.den,CK.fits]; done)
  | (simp [T.den,O0.den,O1.den,O3.den,CK.fits,Value.oneCell']; done)
  | (rename_i n; exact (hg n).1)
  | (rename_i c n e; exact qqI (hg n).2 _ _)
  | (simp at h; done)


theorem qgj (hg:ρ.good):∀ {ks:List CK} {ts:List T},qfb ks ts = true->∀ (j:Nat) (k:CK) (v:Value),ks[j]? = some k->(qc ρ ts)[j]? = some v->CK.fits k v = true
 | ks,[],_,j,k,v,_,hv=>by simp [qc] at hv
 | [],t :: ts,h,_,_,_,_,_=>by simp [qfb] at h
 | k :: ks,t :: ts,h,0,k',v,hk,hv=>by
  simp only [qfb,Bool.and_eq_true] at h
  simp only [List.getElem?_cons_zero,Option.some.injEq] at hk
  simp only [qc,List.map_cons,List.getElem?_cons_zero,Option.some.injEq] at hv
  subst hk; subst hv
  exact q3H hg h.1
 | k :: ks,t :: ts,h,j + 1,k',v,hk,hv=>by
  simp only [qfb,Bool.and_eq_true] at h
  simp only [List.getElem?_cons_succ] at hk
  simp only [qc,List.map_cons,List.getElem?_cons_succ] at hv
  exact qgj hg h.2 j k' v hk hv


theorem qhL:∀ (ts:List T),((T.row ts).den ρ).d.headD [] = qc ρ ts
 | []=>by simp [T.row,T.den,O0.den,qc]
 | t :: ts=>by
  have:=qhL ts
  simp only [T.row,T.den,O2.den,List.headD_cons,qc,List.map_cons] at this ⊢
  rw [this]


def qo (d:List (List Value)):List Value:=d.flatten


theorem qo5 {p:Nat}:∀ {d:List (List Value)},(∀ row ∈ d,row.length = p)->∀ (i k:Nat) (row:List Value),d[i]? = some row->k < p->(qo d)[i * p + k]? = row[k]?
 | [],_,i,k,row,h,_=>by simp at h
 | r0 :: d,hp,0,k,row,h,hk=>by
  simp only [List.getElem?_cons_zero,Option.some.injEq] at h; subst h
  have:=hp r0 (List.mem_cons_self ..)
  simp only [qo,List.flatten_cons,Nat.zero_mul,Nat.zero_add]
  rw [List.getElem?_append_left (by omega)]
 | r0 :: d,hp,i + 1,k,row,h,hk=>by
  simp only [List.getElem?_cons_succ] at h
  have h0:=hp r0 (List.mem_cons_self ..)
  have ih:=qo5 (fun row hr=>hp row (List.mem_cons_of_mem _ hr)) i k row h hk
  simp only [qo,List.flatten_cons] at ih ⊢
  rw [List.getElem?_append_right (by rw [h0,Nat.add_mul]; omega),h0,show (i + 1) * p + k - p = i * p + k from by rw [Nat.add_mul]; omega]
  exact ih


theorem qcV {p:Nat}:∀ {d:List (List Value)},(∀ row ∈ d,row.length = p)->(qo d).length = d.length * p
 | [],_=>by simp [qo]
 | r0 :: d,hp=>by
  have h0:=hp r0 (List.mem_cons_self ..)
  have ih:=qcV (fun row hr=>hp row (List.mem_cons_of_mem _ hr))
  simp only [qo,List.flatten_cons,List.length_append,List.length_cons] at ih ⊢
  rw [ih,h0,Nat.add_mul]; omega


theorem qyO {p:Nat} (hp0:0 < p) {d:List (List Value)} (hp:∀ row ∈ d,row.length = p) {j:Nat} {v:Value} (h:(qo d)[j]? = some v):∃ row,d[j / p]? = some row/\row[j % p]? = some v:=by
 have hj:j < (qo d).length:=by
  rcases Nat.lt_or_ge j (qo d).length with h' | h'
  ·exact h'
  ·rw [List.getElem?_eq_none h'] at h; cases h
 rw [qcV hp] at hj
 have hi:j / p < d.length:=Nat.div_lt_of_lt_mul (by rw [Nat.mul_comm]; exact hj)
 refine ⟨d[j / p],List.getElem?_eq_getElem hi,?_⟩
 have:=qo5 hp (j / p) (j % p) _ (List.getElem?_eq_getElem hi) (Nat.mod_lt _ hp0)
 rw [show j / p * p + j % p = j from by rw [Nat.mul_comm]; exact Nat.div_add_mod j p] at this
 rw [<- this]; exact h


theorem qgD {c:Array Value} {o:Nat} {pat:List CK} {d:List (List Value)} (hp:0 < pat.length) (h:qU c o pat d):∀ (j:Nat) (v:Value),(qo d)[j]? = some v->c[o + j]? = some v:=by
 intro j v hv
 obtain ⟨row,h1,h2⟩:=qyO hp (fun row hr=>by
  obtain ⟨i,hi⟩:=List.getElem?_of_mem hr
  exact (h i row hi).1.1) hv
 have:=(h _ _ h1).2 _ _ h2
 rwa [show o + j / pat.length * pat.length + j % pat.length = o + j from by
  rw [Nat.add_assoc,Nat.mul_comm]; congr 1; exact Nat.div_add_mod j pat.length] at this


theorem qzT {c:Array Value} {o:Nat} {pat:List CK} {d:List (List Value)} (h:qU c o pat d) (n m:Nat):qU c (o + n * pat.length) pat ((d.drop n).take m):=by
 intro i row hi
 rw [List.getElem?_take] at hi
 split at hi
 ·rw [List.getElem?_drop] at hi
  obtain ⟨h1,h2⟩:=h _ _ hi
  refine ⟨h1,fun k v hv=>?_⟩
  have:=h2 k v hv
  rwa [show o + (n + i) * pat.length + k = o + n * pat.length + i * pat.length + k from by rw [Nat.add_mul]; omega] at this
 ·cases hi


theorem qgC (hg:ρ.good) {pat:List CK} {p:Nat} (hpp:p = pat.length):∀ {n:Nat} {cs:List T} {d:T},qf5 pat p n cs = some d ->
  (d.den ρ).d.length = n/\qo (d.den ρ).d = qc ρ cs/\∀ row ∈ (d.den ρ).d,qu pat row
 | 0,[],d,h=>by simp only [qf5,Option.some.injEq] at h; subst h; simp [T.den,O0.den,qo,qc]
 | 0,_ :: _,d,h=>by simp [qf5] at h
 | n + 1,cs,d,h=>by
  simp only [qf5] at h
  split at h
  ·rename_i hc
   simp only [Bool.and_eq_true,Nat.ble_eq] at hc
   split at h
   ·rename_i r hr
    obtain ⟨h1,h2,h3⟩:=qgC hg hpp hr
    have hfit:qu pat (qc ρ (cs.take p)):=⟨by simp [qc]; omega,fun c k v hk hv=>qgj hg hc.2 c k v hk hv⟩
    have hrow:((T.row (cs.take p)).den ρ).d = [qc ρ (cs.take p)]:=by
     have hd:=qhL (ρ:=ρ) (cs.take p)
     have hl:((T.row (cs.take p)).den ρ).d.length = 1:=by
      cases cs.take p with
      | nil=>simp [T.row,T.den,O0.den]
      | cons t ts=>simp [T.row,T.den,O2.den]
     match hx:((T.row (cs.take p)).den ρ).d,hl with
     | [x],_=>rw [hx] at hd; simpa using hd
    have hsplit:qc ρ cs = qc ρ (cs.take p) ++ qc ρ (cs.drop p):=by
     simp only [qc,<- List.map_append,List.take_append_drop]
    simp only [Option.some.injEq] at h
    split at h
    ·subst h
     rw [hrow]
     have hn:(r.den ρ).d = []:=List.length_eq_zero_iff.1 h1
     rw [hn] at h2
     refine ⟨rfl,?_,fun row hm=>by simp only [List.mem_singleton] at hm; subst hm; exact hfit⟩
     rw [hsplit,<- h2]; simp [qo]
    ·subst h
     simp only [T.den,O2.den,hrow]
     refine ⟨by simp [h1],?_,fun row hm=>?_⟩
     ·rw [hsplit,<- h2]; simp [qo]
     ·rcases List.mem_append.1 hm with hm | hm
      ·simp only [List.mem_singleton] at hm; subst hm; exact hfit
      ·exact h3 row hm
   ·simp at h
  ·simp at h


theorem qct {c:Array Value} {o:Nat} {pat:List CK} {d:List (List Value)} (hf:∀ row ∈ d,qu pat row) (h:∀ (j:Nat) (v:Value),(qo d)[j]? = some v->c[o + j]? = some v):qU c o pat d:=by
 intro i row hi
 have hm:=hf row (List.mem_of_getElem? hi)
 refine ⟨hm,fun k v hv=>?_⟩
 have hk:k < pat.length:=by
  rw [<- hm.1]
  rcases Nat.lt_or_ge k row.length with h' | h'
  ·exact h'
  ·rw [List.getElem?_eq_none h'] at hv; cases hv
 have:=qo5 (fun row hr=>(hf row hr).1) i k row hi hk
 rw [hv] at this
 have:=h _ _ this
 rwa [<- Nat.add_assoc] at this


theorem qjj (d e:List (List Value)):qo (d ++ e) = qo d ++ qo e:=by simp [qo]


theorem qtu {pat:List CK} {d:List (List Value)} (hf:∀ row ∈ d,qu pat row):∀ v ∈ qo d,v.oneCell' = true:=by
 intro v hv
 simp only [qo,List.mem_flatten] at hv
 obtain ⟨row,hr,hv⟩:=hv
 obtain ⟨k,hk⟩:=List.getElem?_of_mem hv
 obtain ⟨h1,h2⟩:=hf row hr
 have hlt:k < pat.length:=by
  rw [<- h1]
  rcases Nat.lt_or_ge k row.length with h' | h'
  ·exact h'
  ·rw [List.getElem?_eq_none h'] at hk; cases hk
 have:=h2 k _ v (List.getElem?_eq_getElem hlt) hk
 unfold CK.fits at this
 split at this
 ·rfl
 ·rfl
 ·exact this
 ·cases this


theorem qj4 {c:Array Value} {o:Nat} {pat:List CK} {d:List (List Value)} (h:qU c o pat d):∀ row ∈ d,qu pat row:=fun row hr=>by
 obtain ⟨i,hi⟩:=List.getElem?_of_mem hr
 exact (h i row hi).1


end Go.Eng
