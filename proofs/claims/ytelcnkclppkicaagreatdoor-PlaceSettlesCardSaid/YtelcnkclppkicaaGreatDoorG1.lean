/- Texts E1, E2, E2m, E3, E4, E4b. -/
import Derived.WalkKit
import Derived.OrdersHeld
import Derived.Deep.RegionHeld3
set_option linter.unusedSimpArgs false
set_option linter.unusedVariables false
namespace Go.Eng
open Go

abbrev Hp:=Nat->Option Obj
def Hp.le (a b:Hp):Prop:=∀ x o,a x = some o->b x = some o

structure U where
 i:Int:=0
 b:Bool:=false
 v:Value:=.nilFunc
 d:List (List Value):=[]
 r:Option Addr:=none
 h:Hp:=fun _=>none

def U.good (u:U):Prop:=u.v.oneCell' = true/\∀ row ∈ u.d,∀ v ∈ row,v.oneCell' = true

abbrev Env:=Nat->U

def Env.good (ρ:Env):Prop:=∀ n,(ρ n).good

def Env.set (ρ:Env) (n:Nat) (u:U):Env:=fun m=>if m = n then u else ρ m

@[simp] theorem Env.set_same (ρ:Env) (n:Nat) (u:U):(ρ.set n u) n = u:=by simp [Env.set]
theorem Env.set_ne (ρ:Env) {n m:Nat} (u:U) (h:m ≠ n):(ρ.set n u) m = ρ m:=by simp [Env.set,h]

def qaf:Value->Int
 | .int _ z=>z
 | _=>0
def qrT:Value->Bool
 | .bool b=>b
 | _=>false
def qal (d:List (List Value)) (e:Int) (c:Nat):Value:=((d[e.toNat]?).getD [])[c]?.getD .nilFunc
def qh (d:List (List Value)) (e:Int) (c:Nat):Int:=qaf (qal d e c)
def q3I (d:List (List Value)) (e:Int) (c:Nat):Bool:=qrT (qal d e c)
def qa5 (row:List Value) (c:Nat) (vs:List Value):List Value:=row.take c ++ vs ++ row.drop (c + vs.length)
def qa (d:List (List Value)) (i:Nat):Int:=qaf ((d.headD [])[i]?.getD .nilFunc)
def qaO (d:List (List Value)) (i:Nat):Bool:=qrT ((d.headD [])[i]?.getD .nilFunc)
def qav (d:List (List Value)) (i:Nat) (v:Value):List (List Value):=match d with
 | []=>[]
 | row :: rest=>row.set i v :: rest
def qbw (d:List (List Value)) (k:Nat) (s:List (List Value)):List (List Value):=d.take k ++ s ++ d.drop (k + s.length)
def qaX (d:List (List Value)) (o n:Nat):List (List Value):=(((d.headD []).drop o).take n).map fun v=>[v]
def qaq (d:List (List Value)) (o:Nat) (s:List (List Value)):List (List Value):=match d with
 | []=>[]
 | row :: rest=>qa5 row o (s.map fun r=>r.headD .nilFunc) :: rest
def bytesOf (d:List (List Value)):List UInt8:=d.map fun r=>UInt8.ofNat (qaf (r[0]?.getD .nilFunc)).toNat
def qa8:Value->List UInt8
 | .string s=>s.toList
 | _=>[]
def qcc (d:List (List Value)) (e:Int) (c:Nat) (vs:List Value):List (List Value) :=
 d.set e.toNat (qa5 ((d[e.toNat]?).getD []) c vs)

inductive O0 where
 | lit (z:Int)
 | bl (b:Bool)
 | isnil (r:Nat)
 | vnilp
 | vnils
 | vnilf
 | vnilm
 | vstr (l:List UInt8)
 | dnil
 | rnil
 deriving Inhabited,DecidableEq
inductive O1 where
 | conv (k:IntKind)
 | dlen
 | not
 | vint (k:IntKind)
 | vbool
 | vptr (r p c:Nat)
 | vbytes
 | sval
 | slen
 | srows
 | isg (g:Nat)
 deriving Inhabited,DecidableEq
inductive O2 where
 | arith (op:BinOp) (k:IntKind)
 | plus
 | minus
 | tims
 | imin
 | imax
 | icell (c:Nat)
 | cmp (op:BinOp)
 | beq
 | and
 | or
 | bcell (c:Nat)
 | vcell (c:Nat)
 | dsnoc
 | rcons
 | drep
 | dapp
 | dtake
 | ddrop
 | xint (c:Nat)
 | xbool (c:Nat)
 | veq
 | slt
 | sapp
 | sat
 | req
 deriving Inhabited,DecidableEq
inductive O3 where
 | vslice (r p:Nat)
 | dput (c:Nat)
 | xput (c:Nat)
 | dsplice
 | ssub
 | xrows
 | xcopy
 deriving Inhabited,DecidableEq

inductive T where
 | var (n:Nat)
 | c0 (o:O0)
 | c1 (o:O1) (a:T)
 | c2 (o:O2) (a b:T)
 | c3 (o:O3) (a b c:T)
 | ife (a b x y:T)
 deriving Inhabited

abbrev T.lit (z:Int):T:=.c0 (.lit z)
abbrev T.bl (b:Bool):T:=.c0 (.bl b)
abbrev T.isnil (r:Nat):T:=.c0 (.isnil r)
abbrev T.vnilp:T:=.c0 .vnilp
abbrev T.vnils:T:=.c0 .vnils
abbrev T.vnilf:T:=.c0 .vnilf
abbrev T.vnilm:T:=.c0 .vnilm
abbrev T.vstr (l:List UInt8):T:=.c0 (.vstr l)
abbrev T.dnil:T:=.c0 .dnil
abbrev T.rnil:T:=.c0 .rnil
abbrev T.conv (k:IntKind) (a:T):T:=.c1 (.conv k) a
abbrev T.dlen (a:T):T:=.c1 .dlen a
abbrev T.not (a:T):T:=.c1 .not a
abbrev T.vint (k:IntKind) (a:T):T:=.c1 (.vint k) a
abbrev T.vbool (a:T):T:=.c1 .vbool a
abbrev T.vptr (r:Nat) (e:T) (p c:Nat):T:=.c1 (.vptr r p c) e
abbrev T.arith (op:BinOp) (k:IntKind) (a b:T):T:=.c2 (.arith op k) a b
abbrev T.plus (a b:T):T:=.c2 .plus a b
abbrev T.minus (a b:T):T:=.c2 .minus a b
abbrev T.tims (a b:T):T:=.c2 .tims a b
abbrev T.imin (a b:T):T:=.c2 .imin a b
abbrev T.imax (a b:T):T:=.c2 .imax a b
abbrev T.icell (d e:T) (c:Nat):T:=.c2 (.icell c) d e
abbrev T.cmp (op:BinOp) (a b:T):T:=.c2 (.cmp op) a b
abbrev T.beq (a b:T):T:=.c2 .beq a b
abbrev T.and (a b:T):T:=.c2 .and a b
abbrev T.or (a b:T):T:=.c2 .or a b
abbrev T.bcell (d e:T) (c:Nat):T:=.c2 (.bcell c) d e
abbrev T.vcell (d e:T) (c:Nat):T:=.c2 (.vcell c) d e
abbrev T.dsnoc (d r:T):T:=.c2 .dsnoc d r
abbrev T.rcons (v r:T):T:=.c2 .rcons v r
abbrev T.drep (n r:T):T:=.c2 .drep n r
abbrev T.dapp (a b:T):T:=.c2 .dapp a b
abbrev T.dtake (a b:T):T:=.c2 .dtake a b
abbrev T.ddrop (a b:T):T:=.c2 .ddrop a b
abbrev T.vslice (r:Nat) (off len cap:T) (p:Nat):T:=.c3 (.vslice r p) off len cap
abbrev T.dput (d e:T) (c:Nat) (r:T):T:=.c3 (.dput c) d e r

def T.same:T->T->Bool
 | .var a,.var b=>Nat.beq a b
 | .c0 a,.c0 b=>decide (a = b)
 | .c1 o a,.c1 o' a'=>decide (o = o') && a.same a'
 | .c2 o a b,.c2 o' a' b'=>decide (o = o') && a.same a' && b.same b'
 | .c3 o a b c,.c3 o' a' b' c'=>decide (o = o') && a.same a' && b.same b' && c.same c'
 | .ife a b x y,.ife a' b' x' y'=>a.same a' && b.same b' && x.same x' && y.same y'
 | _,_=>false

theorem T.same_eq:∀ {a b:T},a.same b = true->a = b
 | .var a,.var b,h=>by simp [T.same] at h; rw [h]
 | .c0 a,.c0 b,h=>by simp [T.same] at h; rw [h]
 | .c1 o a,.c1 o' a',h=>by simp [T.same] at h; rw [h.1,T.same_eq h.2]
 | .c2 o a b,.c2 o' a' b',h=>by simp [T.same] at h; rw [h.1.1,T.same_eq h.1.2,T.same_eq h.2]
 | .c3 o a b c,.c3 o' a' b' c',h=>by simp [T.same] at h; rw [h.1.1.1,T.same_eq h.1.1.2,T.same_eq h.1.2,T.same_eq h.2]
 | .ife a b x y,.ife a' b' x' y',h=>by simp [T.same] at h; rw [T.same_eq h.1.1.1,T.same_eq h.1.1.2,T.same_eq h.1.2,T.same_eq h.2]

def qc (op:BinOp) (k:IntKind) (x y:Int):Int :=
 match op with
 | .add=>k.wrap (x + y)
 | .sub=>k.wrap (x - y)
 | .mul=>k.wrap (x * y)
 | .quo=>k.wrap (x.tdiv y)
 | .rem=>x.tmod y
 | .and=>k.wrap (BitVec.ofInt k.bits x &&& BitVec.ofInt k.bits y).toNat
 | .or=>k.wrap (BitVec.ofInt k.bits x ||| BitVec.ofInt k.bits y).toNat
 | .xor=>k.wrap (BitVec.ofInt k.bits x ^^^ BitVec.ofInt k.bits y).toNat
 | .andNot=>k.wrap (BitVec.ofInt k.bits x &&& ~~~BitVec.ofInt k.bits y).toNat
 | .shl=>k.wrap (x * 2 ^ (min y.toNat k.bits))
 | .shr=>x.fdiv (2 ^ (min y.toNat k.bits))
 | _=>0
def qF (op:BinOp) (x y:Int):Bool :=
 match op with
 | .eql=>x == y
 | .neq=>x != y
 | .lss=>decide (x < y)
 | .leq=>decide (x <= y)
 | .gtr=>decide (x > y)
 | .geq=>decide (x ≥ y)
 | _=>false

def qm (r:Option Addr) (n:Nat):Option Addr:=r.map fun a=>match a with
 | ⟨b,o,none⟩=>⟨b,o + n,none⟩
 | ⟨b,o,some s⟩=>if n = 0 then ⟨b,o,some s⟩ else ⟨b,o + n,none⟩
theorem qmn (r:Option Addr):qm r 0 = r:=by
 cases r with
 | none=>rfl
 | some a=>obtain ⟨b,o,s⟩:=a; cases s <;> rfl
theorem qc7 {r:Option Addr} (h:r.isSome = true) (n:Nat):∃ a,qm r n = some a:=by
 cases r with
 | none=>simp at h
 | some a=>exact ⟨_,rfl⟩
theorem qef {r:Option Addr} {n:Nat} {a:Addr} (m:Nat) (h:qm r n = some a):qm r (n + m) = some (a.add m):=by
 cases r with
 | none=>simp [qm] at h
 | some x =>
  obtain ⟨b,o,s⟩:=x
  cases s with
  | none =>
   simp only [qm,Option.map_some,Option.some.injEq] at h ⊢
   subst h
   unfold Addr.add; split <;> simp_all [Nat.add_assoc]
  | some s =>
   simp only [qm,Option.map_some,Option.some.injEq] at h ⊢
   unfold Addr.add
   by_cases hn:n = 0 <;> by_cases hm:m = 0 <;> simp_all [Nat.add_assoc] <;> subst h <;> simp [Nat.add_assoc]

def O0.den (ρ:Env):O0->U
 | .lit z=>{ i:=z }
 | .bl b=>{ b:=b }
 | .isnil r=>{ b:=(ρ r).r.isNone }
 | .vnilp=>{ v:=.pointer none }
 | .vnils=>{ v:=.slice none 0 0 }
 | .vnilf=>{ v:=.nilFunc }
 | .vnilm=>{ v:=.map none }
 | .vstr l=>{ v:=.string ⟨l.toArray⟩ }
 | .dnil=>{ d:=[] }
 | .rnil=>{ d:=[[]] }
def O1.den (ρ:Env) (a:U):O1->U
 | .conv k=>{ i:=k.wrap a.i }
 | .dlen=>{ i:=(a.d.length:Int) }
 | .not=>{ b:=!a.b }
 | .vint k=>{ v:=.int k a.i }
 | .vbool=>{ v:=.bool a.b }
 | .vptr r p c=>{ v:=.pointer (qm (ρ r).r (a.i.toNat * p + c)) }
 | .vbytes=>{ v:=.string ⟨(bytesOf a.d).toArray⟩ }
 | .sval=>{ v:=.string ⟨(qa8 a.v).toArray⟩ }
 | .slen=>{ i:=((qa8 a.v).length:Int) }
 | .isg g=>{ b:=decide (a.r = some ⟨g,0,none⟩) }
 | .srows=>{ d:=(qa8 a.v).map fun b=>[.int .u8 b.toNat] }
def O2.den (a b:U):O2->U
 | .arith op k=>{ i:=qc op k a.i b.i }
 | .plus=>{ i:=a.i + b.i }
 | .minus=>{ i:=a.i - b.i }
 | .tims=>{ i:=a.i * b.i }
 | .imin=>{ i:=if b.i < a.i then b.i else a.i }
 | .imax=>{ i:=if b.i > a.i then b.i else a.i }
 | .icell c=>{ i:=qh a.d b.i c }
 | .cmp op=>{ b:=qF op a.i b.i }
 | .beq=>{ b:=a.b == b.b }
 | .and=>{ b:=a.b && b.b }
 | .or=>{ b:=a.b || b.b }
 | .bcell c=>{ b:=q3I a.d b.i c }
 | .vcell c=>{ v:=qal a.d b.i c }
 | .dsnoc=>{ d:=a.d ++ b.d }
 | .rcons=>{ d:=[a.v :: b.d.headD []] }
 | .drep=>{ d:=List.replicate a.i.toNat (b.d.headD []) }
 | .dapp=>{ d:=a.d ++ b.d }
 | .dtake=>{ d:=a.d.take b.i.toNat }
 | .ddrop=>{ d:=a.d.drop b.i.toNat }
 | .xint c=>{ i:=qa a.d (b.i.toNat + c) }
 | .xbool c=>{ b:=qaO a.d (b.i.toNat + c) }
 | .veq=>{ b:=qa8 a.v == qa8 b.v }
 | .slt=>{ b:=Op.bytesLess (qa8 a.v) (qa8 b.v) }
 | .sapp=>{ v:=.string ⟨(qa8 a.v ++ qa8 b.v).toArray⟩ }
 | .req=>{ b:=(a.d.headD []).map qaf == (b.d.headD []).map qaf }
 | .sat=>{ i:=((((qa8 a.v)[b.i.toNat]?).getD 0).toNat:Int) }
def O3.den (ρ:Env) (a b c:U):O3->U
 | .vslice r p=>{ v:=.slice (qm (ρ r).r (a.i.toNat * p)) b.i.toNat c.i.toNat }
 | .dput k=>{ d:=qcc a.d b.i k (c.d.headD []) }
 | .xput k=>{ d:=qav a.d (b.i.toNat + k) c.v }
 | .dsplice=>{ d:=qbw a.d b.i.toNat c.d }
 | .xrows=>{ d:=qaX a.d b.i.toNat c.i.toNat }
 | .xcopy=>{ d:=qaq a.d b.i.toNat c.d }
 | .ssub=>{ v:=.string ⟨(((qa8 a.v).drop b.i.toNat).take (c.i.toNat - b.i.toNat)).toArray⟩ }
def T.den (ρ:Env):T->U
 | .var n=>ρ n
 | .c0 o=>o.den ρ
 | .c1 o a=>o.den ρ (a.den ρ)
 | .c2 o a b=>o.den (a.den ρ) (b.den ρ)
 | .c3 o a b c=>o.den ρ (a.den ρ) (b.den ρ) (c.den ρ)
 | .ife a b x y=>{ i:=if (a.den ρ).i = (b.den ρ).i then (x.den ρ).i else (y.den ρ).i }

def T.row:List T->T
 | []=>.rnil
 | t :: ts=>.rcons t (T.row ts)

inductive SV where
 | one (t:T)
 | agg (ts:List T)
 | tup (vs:List (Bool × List T))
 | fn (f:Fn) (first caps:List T)
 deriving Inhabited

def qb (ρ:Env) (ts:List T):List Value:=ts.map fun t=>(t.den ρ).v

def qet (ρ:Env):Bool × List T->Value
 | (true,ts)=>.agg (qb ρ ts).toArray
 | (false,ts)=>(qb ρ ts).headD .nilFunc

def SV.den (ρ:Env):SV->Value
 | .one t=>(t.den ρ).v
 | .agg ts=>.agg (qb ρ ts).toArray
 | .tup vs=>.tuple (vs.map (qet ρ)).toArray
 | .fn f first caps=>.func f (qb ρ first).toArray (qb ρ caps).toArray

inductive CK where
 | int (k:IntKind)
 | bool
 | any
 deriving Inhabited,DecidableEq

def CK.fits:CK->Value->Bool
 | .int k,.int k' _=>k == k'
 | .bool,.bool _=>true
 | .any,v=>v.oneCell'
 | _,_=>false

def qs (pat:List CK) (row:List Value):Prop:=row.length = pat.length/\∀ (c:Nat) (k:CK) (v:Value),pat[c]? = some k->row[c]? = some v->CK.fits k v = true

inductive SH where
 | cells (r:Nat) (ty:TypeId) (cs:List T)
 | arr (r:Nat) (ty:TypeId) (pat:List CK) (d cap:T)
 | abs (n t:Nat)
 deriving Inhabited

def qab (c:Array Value) (o:Nat) (pat:List CK) (d:List (List Value)):Prop :=
 ∀ (i:Nat) (row:List Value),d[i]? = some row->qs pat row/\∀ (k:Nat) (v:Value),row[k]? = some v->c[o + i * pat.length + k]? = some v

def Rd (h:Hp) (pat:List CK) (v:Value) (d:List (List Value)):Prop :=
 (∃ a,v = .slice a 0 0/\d = []) ∨
 ∃ b o cap c ty fr,v = .slice (some ⟨b,o,none⟩) d.length cap/\d.length <= cap/\h b = some (.cells c ty fr)/\qab c o pat d

def Hp.free (h:Hp):Prop:=∀ (b:Nat) (o:Obj),h b = some o->∃ c ty,o = .cells c ty (0,0)

def SH.den (ρ:Env):SH->Hp->Prop
 | .cells r ty cs,h=>∃ b,(ρ r).r = some ⟨b,0,none⟩/\h b = some (.cells (qb ρ cs).toArray ty (0,0))
 | .arr r ty pat d cap,h =>
  ((ρ r).r = none/\(d.den ρ).d = []/\(cap.den ρ).i = 0) ∨
  ∃ b c,(ρ r).r = some ⟨b,0,none⟩/\h b = some (.cells c ty (0,0))/\c.size = (cap.den ρ).i.toNat * pat.length /\
   ((d.den ρ).d.length:Int) <= (cap.den ρ).i/\qab c 0 pat (d.den ρ).d
 | .abs n t,h=>Hp.le (ρ n).h h/\(Nat.blt t 1001 = true->(ρ n).h.free)

def SH.roden (ρ:Env):SH->Hp->Prop
 | .cells r _ cs,h=>∃ b o c ty fr,(ρ r).r = some ⟨b,o,none⟩/\h b = some (.cells c ty fr)/\∀ (k:Nat) (v:Value),(qb ρ cs)[k]? = some v->c[o + k]? = some v
 | .arr r _ pat d _,h =>
  (d.den ρ).d = [] ∨
  ∃ b o c ty fr,(ρ r).r = some ⟨b,o,none⟩/\h b = some (.cells c ty fr)/\qab c o pat (d.den ρ).d
 | .abs n _,h=>Hp.le (ρ n).h h


theorem qwl (bs:ByteArray):∀ (n i:Nat) (r:List UInt8),bs.size - i = n->ByteArray.toList.loop bs i r = r.reverse ++ bs.data.toList.drop i
 | 0,i,r,h=>by
  unfold ByteArray.toList.loop
  have hs:bs.size = bs.data.size:=rfl
  rw [if_neg (by omega),List.drop_eq_nil_of_le (by simp; omega),List.append_nil]
 | n + 1,i,r,h=>by
  unfold ByteArray.toList.loop
  have hs:bs.size = bs.data.size:=rfl
  have hi:i < bs.data.toList.length:=by simp; omega
  rw [if_pos (by omega),qwl bs n (i + 1) _ (by omega),List.drop_eq_getElem_cons hi,List.reverse_cons,List.append_assoc]
  congr 1
  simp only [List.singleton_append,List.cons.injEq,and_true]
  show bs.data[i]! = _
  have hi2:i < bs.data.size:=by simpa using hi
  rw [getElem!_pos bs.data i hi2]
  simp
theorem qfc (s:ByteArray):s.toList = s.data.toList:=by
 unfold ByteArray.toList
 rw [qwl _ _ 0 [] rfl]
 simp
theorem q7b (l:List UInt8):ByteArray.toList ⟨l.toArray⟩ = l:=by rw [qfc]
theorem qu8 (s:ByteArray):(⟨(qa8 (.string s)).toArray⟩:ByteArray) = s:=by
 simp only [qa8,qfc]
theorem qiW (l:List UInt8):qa8 (.string ⟨l.toArray⟩) = l:=q7b l


def Hp.disj (h1 h2:Hp):Prop:=∀ b,h1 b = none∨h2 b = none
def Hp.union (h1 h2:Hp):Hp:=fun b=>(h1 b).or (h2 b)
def Hp.sub (h:Hp) (w:World):Prop:=∀ b o,h b = some o->w.heap[b]? = some o
def Hp.one (b:Nat) (o:Obj):Hp:=fun b'=>if b' = b then some o else none
def Hp.upd (h:Hp) (b:Nat) (o:Obj):Hp:=fun b'=>if b' = b then some o else h b'
def Hp.emp:Hp:=fun _=>none
def Hp.del (h:Hp) (b:Nat):Hp:=fun b'=>if b' = b then none else h b'
def q50 (h:Hp) (el:Nat) (pat:List CK) (v:Value) (d:List (List Value)) (h':Hp) (r:Option Addr) (cap:Int):Prop :=
 v = .slice (qm r 0) d.length cap.toNat/\((r = none/\d = []/\cap = 0/\h' = h) ∨
  ∃ b c,r = some ⟨b,0,none⟩/\h b = some (.cells c el (0,0))/\c.size = cap.toNat * pat.length/\(d.length:Int) <= cap/\qab c 0 pat d/\h' = h.del b)

def qX (ρ:Env):List SH->Hp->Prop
 | [],_=>True
 | x :: xs,h=>∃ h1 h2,Hp.disj h1 h2/\h = Hp.union h1 h2/\x.den ρ h1/\qX ρ xs h2

end Go.Eng

set_option linter.unusedSimpArgs false
set_option linter.unusedVariables false
namespace Go.Eng
open Go


def T.isLit:T->Option Int
 | .c0 (.lit z)=>some z
 | _=>none
def qak (a b:T):T :=
 match a.isLit,b.isLit with
 | some x,some y=>.lit (x + y)
 | some x,none=>if x = 0 then b else .plus a b
 | none,some y=>if y = 0 then a else .plus a b
 | none,none=>.plus a b
def qha (a b:T):T :=
 match a.isLit,b.isLit with
 | some x,some y=>.lit (x - y)
 | none,some y=>if y = 0 then a else .minus a b
 | _,_=>if a.same b then .lit 0 else .minus a b
def qfH (op:BinOp) (k:IntKind) (a b:T):T :=
 match a.isLit,b.isLit with
 | some x,some y=>.lit (qc op k x y)
 | _,_=>.arith op k a b
def quD (k:IntKind) (a:T):T :=
 match a.isLit with
 | some x=>.lit (k.wrap x)
 | none=>.conv k a
def qq (op:BinOp) (a b:T):T :=
 match a.isLit,b.isLit with
 | some x,some y=>.bl (qF op x y)
 | _,_=>if a.same b then .bl (qF op 0 0) else .cmp op a b
def qhS:T->T
 | .c0 (.bl b)=>.bl (!b)
 | .c1 .not a=>a
 | a=>.not a
def qlX (a b:T):T :=
 match a,b with
 | .c0 (.bl x),.c0 (.bl y)=>.bl (x == y)
 | a,b=>if a.same b then .bl true else .beq a b
def qrS (a b:T):T :=
 match a,b with
 | .c0 (.bl true),b=>b
 | .c0 (.bl false),_=>.bl false
 | a,.c0 (.bl true)=>a
 | a,b=>.and a b
def qyo (a b:T):T :=
 match a.isLit,b.isLit with
 | some x,some y=>.lit (if y < x then y else x)
 | _,_=>.imin a b
def qx3 (a b:T):T :=
 match a.isLit,b.isLit with
 | some x,some y=>.lit (if y > x then y else x)
 | _,_=>.imax a b
def qeb (a b x y:T):T :=
 match a.isLit,b.isLit with
 | some u,some v=>if u = v then x else y
 | _,_=>if a.same b then x else .ife a b x y
def qcR (l:List T) (i:Nat) (vs:List T):List T:=l.take i ++ vs ++ l.drop (i + vs.length)

def slen:T->Option Nat
 | .c0 .dnil=>some 0
 | .c0 .rnil=>some 1
 | .c2 .rcons _ _=>some 1
 | .c2 .drep n _=>match n.isLit with
  | some z=>some z.toNat
  | none=>none
 | .c2 .dapp a b=>match slen a,slen b with
  | some n,some m=>some (n + m)
  | _,_=>none
 | .c3 (.dput _) d _ _=>slen d
 | .c3 (.xput _) d _ _=>slen d
 | .c3 .xcopy d _ _=>slen d
 | _=>none
def qaD:T->Option (List T)
 | .c0 .rnil=>some []
 | .c2 .rcons v r=>match qaD r with
  | some ts=>some (v :: ts)
  | none=>none
 | _=>none
def qJ:T->Nat->Option (List T)
 | .c0 .rnil,0=>some []
 | .c2 .rcons v r,0=>qaD (.c2 .rcons v r)
 | .c2 .drep n r,i=>match n.isLit with
  | some z=>if Nat.blt i z.toNat then qaD r else none
  | none=>none
 | .c2 .dapp a b,i=>match slen a with
  | some n=>if Nat.blt i n then qJ a i else qJ b (i - n)
  | none=>none
 | .c3 (.dput c) d e r,i=>match e.isLit,qJ d i,qaD r with
  | some z,some ts,some vs=>if Nat.beq z.toNat i then (if Nat.ble (c + vs.length) ts.length then some (qcR ts c vs) else none) else some ts
  | _,_,_=>none
 | _,_=>none
def qqx (d e:T):Option (List T) :=
 match e.isLit with
 | some z=>qJ d z.toNat
 | none=>none

def qba:T->T
 | .c0 .dnil=>.lit 0
 | .c2 .drep n r=>.dlen (.drep n r)
 | .c3 (.dput _) d _ _=>qba d
 | .c3 (.xput _) d _ _=>qba d
 | .c3 .xcopy d _ _=>qba d
 | d=>.dlen d
def qP (d:T):T :=
 match slen d with
 | some n=>.lit (n:Int)
 | none=>qba d

def qdp:T->Bool
 | .c0 (.lit z)=>decide (0 <= z)
 | .c1 .dlen _=>true
 | .c1 .slen _=>true
 | .c2 .plus a b=>qdp a && qdp b
 | .c2 .imin a b=>qdp a && qdp b
 | _=>false
def qV (t:T):T:=if qdp t then .bl true else qq .leq (.lit 0) t


structure S where
 env:List (Nat × SV)
 heap:List SH
 ro:List SH
 pc:List (T × Bool)
 nx:Nat
 nt:Nat
 vw:List (List Nat × SH):=[]
 deriving Inhabited

def qaB (t:Nat):List (Nat × SV)->Option SV
 | []=>none
 | (k,v) :: r=>if Nat.beq t k then some v else qaB t r
def qgH (t:Nat) (v:SV):List (Nat × SV)->List (Nat × SV)
 | []=>[(t,v)]
 | (k,u) :: r=>if Nat.beq t k then (t,v) :: r else if Nat.blt t k then (t,v) :: (k,u) :: r else (k,u) :: qgH t v r
def qlS (c:T):List (T × Bool)->Option Bool
 | []=>none
 | (k,b) :: r=>if c.same k then some b else qlS c r
def qcn (c:T) (pc:List (T × Bool)):Option Bool :=
 match c with
 | .c0 (.bl b)=>some b
 | .c1 .not a=>(qlS a pc).map (!·)
 | c=>qlS c pc

def qiY:Value->Option T
 | .int k n=>some (.vint k (.lit n))
 | .bool b=>some (.vbool (.bl b))
 | .pointer none=>some .vnilp
 | .slice none 0 0=>some .vnils
 | .nilFunc=>some .vnilf
 | .map none=>some .vnilm
 | .string s=>some (.vstr s.data.toList)
 | _=>none
def qdZ:List Value->Option (List T)
 | []=>some []
 | v :: r=>match qiY v,qdZ r with
  | some t,some ts=>some (t :: ts)
  | _,_=>none
def ofValue:Value->Option SV
 | .agg cs=>(qdZ cs.toList).map .agg
 | v=>(qiY v).map .one

def opd (s:S):Operand->Option SV
 | .tmp t=>qaB t s.env
 | .const v=>ofValue v
 | .func f=>some (.fn (.func f) [] [])
 | .global _=>none
def opds (s:S):List Operand->Option (List SV)
 | []=>some []
 | x :: r=>match opd s x,opds s r with
  | some v,some vs=>some (v :: vs)
  | _,_=>none

def SV.cells:SV->Option (List T)
 | .one t=>some [t]
 | .agg ts=>some ts
 | _=>none
def qdl:List SV->Option (List T)
 | []=>some []
 | .one t :: r=>(qdl r).map (t :: ·)
 | _=>none


def qcL (P:Program) (t:TypeId):Option Bool :=
 match P.underlying t with
 | some (.struct _) | some (.array _ _)=>some true
 | some _=>some false
 | none=>none
def qK (P:Program) (t:TypeId):Option Nat:=(P.info? t).map (·.size)
def qb2 (P:Program) (t:TypeId):Option (List T) :=
 match (P.info? t).bind (·.zero) with
 | some v=>qdZ v.cells.toList
 | none=>none
def qpb (P:Program) (t:TypeId) (f:Nat):Option (Nat × TypeId) :=
 match P.underlying t with
 | some (.struct fs) =>
  match fs[f]? with
  | some x =>
   match qK P x.type with
   | some (_ + 1)=>some (x.offset,x.type)
   | _=>none
  | none=>none
 | _=>none

def qaa (r:Nat):List SH->Option (Nat × SH)
 | []=>none
 | .cells r' ty cs :: l=>if Nat.beq r r' then some (0,.cells r' ty cs) else (qaa r l).map fun (k,x)=>(k + 1,x)
 | .arr r' ty pat d cap :: l=>if Nat.beq r r' then some (0,.arr r' ty pat d cap) else (qaa r l).map fun (k,x)=>(k + 1,x)
 | .abs _ _ :: l=>(qaa r l).map fun (k,x)=>(k + 1,x)

def qaS (d e:T):List CK->Nat->List T
 | [],_=>[]
 | .int k :: r,c=>.vint k (.icell d e c) :: qaS d e r (c + 1)
 | .bool :: r,c=>.vbool (.bcell d e c) :: qaS d e r (c + 1)
 | .any :: r,c=>.vcell d e c :: qaS d e r (c + 1)

def SH.reg:SH->Option Nat
 | .cells r ..=>some r
 | .arr r ..=>some r
 | .abs _ _=>none
def qc3 (n:Nat):List SH->Bool
 | []=>false
 | .abs m _ :: l=>Nat.beq n m || qc3 n l
 | _ :: l=>qc3 n l
def S.piece (s:S) (n:Nat):Bool:=qc3 n s.heap || qc3 n s.ro
def q3J (r:Nat) (x:SH):Bool :=
 match x.reg with
 | some q=>Nat.beq r q
 | none=>false
def qpj (s:S) (r:Nat):List (List Nat × SH)->Option (Nat × SH)
 | []=>none
 | (ms,x) :: l=>if q3J r x && ms.all s.piece then some (0,x) else qpj s r l
def S.look (s:S) (r:Nat):Option (Nat × SH):=((qaa r s.heap).orElse (fun _=>qaa r s.ro)).orElse (fun _=>qpj s r s.vw)

def qb8 (k:CK):List CK->Nat
 | []=>0
 | x :: l=>if x = k then qb8 k l + 1 else 0
def qoW (x:SH) (e:T) (p c n:Nat):Option (List T × List T) :=
 match x with
 | .cells _ _ cs =>
  match e.isLit with
  | some z=>if 0 <= z/\z.toNat * p + c + n <= cs.length then some ((cs.drop (z.toNat * p + c)).take n,[]) else none
  | none=>none
 | .arr _ _ pat d _ =>
  if Nat.beq p pat.length && Nat.ble (c + n) p then
   match qqx d e with
   | some ts=>some ((ts.drop c).take n,[])
   | none=>some (qaS d e ((pat.drop c).take n) c,[qV e,qq .lss e (qP d)])
  else if Nat.beq p 1 && Nat.beq n 1 then
   match pat[c]? with
   | some (.int k)=>some ([.vint k (.c2 (.xint c) d e)],[qV e,qq .lss e (.lit (qb8 (.int k) (pat.drop c):Nat)),qq .lss (.lit 0) (qP d)])
   | some .bool=>some ([.vbool (.c2 (.xbool c) d e)],[qV e,qq .lss e (.lit (qb8 .bool (pat.drop c):Nat)),qq .lss (.lit 0) (qP d)])
   | _=>none
  else none
 | .abs _ _=>none

def qun (x:SH) (e:T) (p:Nat):Nat :=
 match x,e.isLit,p with
 | .arr _ _ pat _ _,some 0,0=>pat.length
 | _,_,p=>p
def qrV (x:SH) (e:T) (p c n:Nat):Option (List T × List T):=qoW x e (qun x e p) c n

def qo0:CK->T->Bool
 | .int k,.c1 (.vint k') _=>decide (k = k')
 | .bool,.c1 .vbool _=>true
 | .any,.c1 (.vptr _ _ _) _=>true
 | .any,.c0 .vnilp=>true
 | .any,.c0 .vnils=>true
 | .any,.c0 .vnilm=>true
 | .any,.c3 (.vslice _ _) _ _ _=>true
 | .any,.var _=>true
 | .any,.c2 (.vcell _) (.var _) _=>true
 | _,_=>false
def qe4:List CK->List T->Bool
 | _,[]=>true
 | k :: ks,t :: ts=>qo0 k t && qe4 ks ts
 | [],_ :: _=>false

def qiE (x:SH) (e:T) (p c:Nat) (vs:List T):Option (SH × List T) :=
 match x with
 | .cells r ty cs =>
  match e.isLit with
  | some z=>if 0 <= z/\z.toNat * p + c + vs.length <= cs.length then some (.cells r ty (qcR cs (z.toNat * p + c) vs),[]) else none
  | none=>none
 | .arr r ty pat d cap =>
  if Nat.beq p pat.length && Nat.ble (c + vs.length) p && qe4 (pat.drop c) vs then
   some (.arr r ty pat (.dput d e c (T.row vs)) cap,[qV e,qq .lss e (qP d)])
  else if Nat.beq p 1 then
   match pat[c]?,vs with
   | some (.int k),[v]=>if qo0 (.int k) v then some (.arr r ty pat (.c3 (.xput c) d e v) cap,[qV e,qq .lss e (.lit (qb8 (.int k) (pat.drop c):Nat)),qq .lss (.lit 0) (qP d)]) else none
   | some .bool,[v]=>if qo0 .bool v then some (.arr r ty pat (.c3 (.xput c) d e v) cap,[qV e,qq .lss e (.lit (qb8 .bool (pat.drop c):Nat)),qq .lss (.lit 0) (qP d)]) else none
   | _,_=>none
  else none
 | .abs _ _=>none


structure R1 where
 needs:List T
 fresh:Nat
 heap:List SH
 val:Option SV
 deriving Inhabited

def quiet (s:S) (v:SV):R1:={ needs:=[],fresh:=0,heap:=s.heap,val:=some v }

def qgR (s:S) (r:Nat) (e:T):List T :=
 match s.look r with
 | some (_,.cells ..)=>[]
 | some (_,.arr _ _ _ d _)=>[qV e,qq .lss e (qP d)]
 | _=>[.not (.isnil r)]

def qgP (place:Nat->Option (Nat × Nat)) (cells:List T):List (Nat × List T)->Option (List T)
 | []=>some cells
 | (i,vs) :: rest =>
  match place i with
  | none=>none
  | some (off,size)=>if Nat.beq vs.length size && Nat.ble (off + vs.length) cells.length then qgP place (qcR cells off vs) rest else none

def qf3 (s:S):List (Nat × Operand)->Option (List (Nat × List T))
 | []=>some []
 | (i,x) :: r=>match (opd s x).bind SV.cells,qf3 s r with
  | some cs,some l=>some ((i,cs) :: l)
  | _,_=>none

def qh5 (P:Program):List Field->Option (List (Nat × Nat))
 | []=>some []
 | f :: fs=>match P.info? f.type,qh5 P fs with
  | some i,some l=>some ((f.offset,i.size) :: l)
  | _,_=>none
def q15 (P:Program) (t:TypeId):Option (Nat->Option (Nat × Nat)) :=
 match P.underlying t with
 | some (.struct fs)=>(qh5 P fs.toList).map fun l=>fun i=>l[i]?
 | some (.array _ e)=>(qK P e).map fun n=>fun i=>some (i * n,n)
 | _=>none

def qbz (zero:List T):Nat->List T
 | 0=>[]
 | n + 1=>zero ++ qbz zero n

def qas:T->CK
 | .c1 (.vint k) _=>.int k
 | .c1 .vbool _=>.bool
 | _=>.any

def qqo (s:S) (r:Nat):T :=
 match s.look r with
 | some (_,.cells ..)=>.bl false
 | some (_,.arr _ _ _ d _)=>qrS (qq .eql (qP d) (.lit 0)) (.isnil r)
 | _=>.isnil r

def qq1 (P:Program) (f:TypeId->List T->List T->Option T) (cs ds:List T):List Field->Option T
 | []=>some (.bl true)
 | x :: fs =>
  if x.name ≠ "_" then
   match qcL P x.type,qK P x.type,qq1 P f cs ds fs with
   | some ag,some n,some r =>
    if (ag || Nat.beq n 1) && Nat.ble (x.offset + n) cs.length && Nat.ble (x.offset + n) ds.length then
     (f x.type ((cs.drop x.offset).take n) ((ds.drop x.offset).take n)).map fun a=>qrS a r
    else none
   | _,_,_=>none
  else qq1 P f cs ds fs
def eqT (P:Program):Nat->TypeId->List T->List T->Option T
 | 0,_,_,_=>none
 | n + 1,t,cs,ds =>
  match P.underlying t with
  | some (.int _)=>match cs,ds with
   | [.c1 (.vint k) a],[.c1 (.vint k') b]=>if k = k' then some (qq .eql a b) else none
   | _,_=>none
  | some .bool=>match cs,ds with
   | [.c1 .vbool a],[.c1 .vbool b]=>some (qlX a b)
   | _,_=>none
  | some (.struct fs)=>if P.stoodInHeld t then none else qq1 P (eqT P n) cs ds fs.toList
  | _=>none
def qx8 (P:Program) (t:TypeId) (cs ds:List T):Option T :=
 if P.eqGuardType P.depth t then none else
 match P.underlying t with
 | some (.struct _)=>eqT P 8 t cs ds
 | _=>none

def qaz (k:IntKind):List T->Bool
 | []=>true
 | .c1 (.vint k') _ :: l=>decide (k = k') && qaz k l
 | _ :: _=>false
def qxP (P:Program) (t:TypeId) (cs ds:List T):Option T :=
 if P.eqGuardType P.depth t then none else
 match P.underlying t with
 | some (.array n el) =>
  match P.underlying el,qK P el,qcL P el with
  | some (.int k),some 1,some false=>if Nat.beq cs.length n && Nat.beq ds.length n && qaz k cs && qaz k ds then some (.c2 .req (T.row cs) (T.row ds)) else none
  | _,_,_=>none
 | _=>none
def qyu (P:Program) (t:TypeId) (cs ds:List T):Option T :=
 match qx8 P t cs ds with
 | some c=>some c
 | none=>qxP P t cs ds
def q2v:List T->Option IntKind
 | .c1 (.vint k) _ :: _=>some k
 | _=>none
def qj0:List T->Bool
 | []=>true
 | .c1 .vbool _ :: l=>qj0 l
 | _ :: _=>false
def qsc (P:Program) (s:S) (n:Nat) (el:TypeId) (ts:List T) (j:T):Option R1 :=
 match qK P el,qcL P el with
 | some 1,some false =>
  if Nat.beq ts.length n then
   match j.isLit with
   | some z=>if 0 <= z/\z < n then (ts[z.toNat]?).map fun t=>quiet s (.one t) else none
   | none =>
    match q2v ts with
    | some k=>if qaz k ts then some { quiet s (.one (.vint k (.c2 (.xint 0) (T.row ts) j))) with needs:=[qV j,qq .lss j (.lit (n:Int))] } else none
    | none=>if qj0 ts then some { quiet s (.one (.vbool (.c2 (.xbool 0) (T.row ts) j))) with needs:=[qV j,qq .lss j (.lit (n:Int))] } else none
  else none
 | _,_=>none

def qex:T->Bool
 | .c0 (.vstr _)=>true
 | .c1 .vbytes _=>true
 | .c1 .sval _=>true
 | .c2 .sapp _ _=>true
 | .c3 .ssub _ _ _=>true
 | _=>false
def qbD:T->T
 | .c0 (.vstr l)=>.lit (l.length:Int)
 | .c1 .vbytes d=>qP d
 | .c2 .sapp a b=>qak (qbD a) (qbD b)
 | t=>.c1 .slen t
def qtQ (a b:T):T :=
 match a,b with
 | .c0 (.vstr []),b=>b
 | a,.c0 (.vstr [])=>a
 | a,b=>.c2 .sapp a b
def qwI (op:BinOp) (P:Program) (ty:TypeId) (s:S) (x y:SV):Option R1 :=
 match x,y with
 | .one (.c1 (.vint k) a),.one (.c1 (.vint k') b) =>
  match op with
  | .shl | .shr=>some { quiet s (.one (.vint k (qfH op k a b))) with needs:=[qq .geq b (.lit 0)] }
  | .quo | .rem=>if k = k' then some { quiet s (.one (.vint k (qfH op k a b))) with needs:=[qq .neq b (.lit 0)] } else none
  | .add | .sub | .mul | .and | .or | .xor | .andNot=>if k = k' then some (quiet s (.one (.vint k (qfH op k a b)))) else none
  | .eql | .neq | .lss | .leq | .gtr | .geq=>if k = k' then some (quiet s (.one (.vbool (qq op a b)))) else none
 | .one (.c1 .vbool a),.one (.c1 .vbool b) =>
  match op,P.underlying ty with
  | .eql,some .bool=>some (quiet s (.one (.vbool (qlX a b))))
  | .neq,some .bool=>some (quiet s (.one (.vbool (qhS (qlX a b)))))
  | _,_=>none
 | .one (.c1 (.vptr r _ _) _),.one (.c0 .vnilp) =>
  match op,P.underlying ty with
  | .eql,some (.pointer _)=>some (quiet s (.one (.vbool (qqo s r))))
  | .neq,some (.pointer _)=>some (quiet s (.one (.vbool (qhS (qqo s r)))))
  | _,_=>none
 | .one (.c0 .vnilp),.one (.c0 .vnilp) =>
  match op,P.underlying ty with
  | .eql,some (.pointer _)=>some (quiet s (.one (.vbool (.bl true))))
  | .neq,some (.pointer _)=>some (quiet s (.one (.vbool (.bl false))))
  | _,_=>none
 | .one (.c3 (.vslice r _) _ _ _),.one (.c0 .vnils) =>
  match op,P.underlying ty with
  | .eql,some (.slice _)=>some (quiet s (.one (.vbool (qqo s r))))
  | .neq,some (.slice _)=>some (quiet s (.one (.vbool (qhS (qqo s r)))))
  | _,_=>none
 | .one (.c0 .vnils),.one (.c0 .vnils) =>
  match op,P.underlying ty with
  | .eql,some (.slice _)=>some (quiet s (.one (.vbool (.bl true))))
  | .neq,some (.slice _)=>some (quiet s (.one (.vbool (.bl false))))
  | _,_=>none
 | .agg cs,.agg ds =>
  match op,qyu P ty cs ds with
  | .eql,some c=>some (quiet s (.one (.vbool c)))
  | .neq,some c=>some (quiet s (.one (.vbool (qhS c))))
  | _,_=>none
 | .one a,.one b =>
  if qex a && qex b then
   match op with
   | .eql=>some (quiet s (.one (.vbool (.c2 .veq a b))))
   | .neq=>some (quiet s (.one (.vbool (qhS (.c2 .veq a b)))))
   | .lss=>some (quiet s (.one (.vbool (.c2 .slt a b))))
   | .add=>some { quiet s (.one (qtQ a b)) with needs:=[qq .leq (qak (qbD a) (qbD b)) (.lit 9223372036854775807)] }
   | _=>none
  else none
 | _,_=>none

def qdN (P:Program) (t:TypeId):Option Nat:=(P.info? t).map (·.bytes)

def qfh (pat:List CK) (p:Nat):Nat->List T->Option T
 | 0,[]=>some .dnil
 | 0,_ :: _=>none
 | n + 1,cs =>
  if Nat.ble p cs.length && qe4 pat (cs.take p) then
   match qfh pat p n (cs.drop p) with
   | some r=>some (match n with | 0=>T.row (cs.take p) | _=>.dapp (T.row (cs.take p)) r)
   | none=>none
  else none

def qjd (off:T):Option (Nat × T × List T) :=
 match off with
 | .c0 (.lit z)=>if 0 <= z then some (z.toNat,.lit 0,[]) else none
 | .c2 .plus (.c0 (.lit z)) l=>if 0 <= z then some (z.toNat,l,[]) else none
 | .ife a b _ (.c2 .plus (.c0 (.lit z)) l)=>if 0 <= z then some (z.toNat,l,[qq .neq a b]) else none
 | .var n=>some (0,.var n,[])
 | _=>none
def qfX:SH->Option (List CK × T)
 | .cells _ _ cs=>some (cs.map qas,T.row cs)
 | .arr _ _ pat d _=>some (pat,d)
 | .abs _ _=>none
def qfK (k:CK) (pat:List CK) (z:Nat) (l len d:T) (ns:List T):List T:=ns ++ [qV l,qV len,qq .leq (qak l len) (.lit (qb8 k (pat.drop z):Nat)),qq .lss (.lit 0) (qP d)]
structure Src where
 d:T
 len:T
 needs:List T
 deriving Inhabited

def qnX (pat:List CK) (y:SH) (off len:T):Option Src :=
 match qfX y,qjd off,pat with
 | some (pat',d),some (z,l,ns),[.int k]=>if Nat.ble z pat'.length then some ⟨.c3 .xrows d off len,len,qfK (.int k) pat' z l len d ns⟩ else none
 | _,_,_=>none
def qgl (s:S) (pat:List CK) (x:SV):Option Src :=
 match x with
 | .one (.c0 .vnils)=>some ⟨.dnil,.lit 0,[]⟩
 | .one (.c3 (.vslice r p) off len _) =>
  if !(Nat.beq p pat.length) then none else
  match s.look r with
  | some (_,.cells rr ty cs) =>
   match off.isLit,len.isLit with
   | some 0,some n =>
    if 0 <= n/\n.toNat * p <= cs.length then (qfh pat p n.toNat (cs.take (n.toNat * p))).map fun d=>⟨d,len,[]⟩ else none
   | _,_=>qnX pat (.cells rr ty cs) off len
  | some (_,.arr rr ty pat' d cap) =>
   if !(decide (pat' = pat)) then qnX pat (.arr rr ty pat' d cap) off len else
   match off.isLit with
   | some 0=>if len.same (qP d) then some ⟨d,len,[]⟩ else some ⟨.dtake d len,len,[qV len,qq .leq len (qP d)]⟩
   | _=>some ⟨.dtake (.ddrop d off) len,len,[qV off,qV len,qq .leq (qak off len) (qP d)]⟩
  | _=>none
 | _=>none

def qza (s:S) (ty:TypeId) (pat:List CK) (x:SV):Option (T × T × Option Nat × List T) :=
 match x with
 | .one (.c0 .vnils)=>some (.dnil,.lit 0,none,[])
 | .one (.c3 (.vslice r p) off len cap) =>
  if !(Nat.beq p pat.length) then none else
  match off.isLit,qaa r s.heap with
  | some 0,some (k,.arr _ ty' pat' d cap') =>
   if Nat.beq ty ty' && decide (pat' = pat) then some (d,len,some k,[qq .eql len (qP d),qq .eql cap cap']) else none
  | some 0,some (k,.cells _ ty' []) =>
   if Nat.beq ty ty' then some (.dnil,.lit 0,some k,[qq .eql len (.lit 0),qq .eql cap (.lit 0)]) else none
  | some 0,some (k,.cells _ ty' (c :: cs)) =>
   match len.isLit with
   | some n =>
    match qfh pat p n.toNat (c :: cs) with
    | some d=>if Nat.beq ty ty' && decide (0 <= n) && Nat.beq (c :: cs).length (n.toNat * p) then some (d,len,some k,[qq .eql cap len]) else none
    | none=>none
   | none=>none
  | _,_=>none
 | _=>none

def T.inB (n:Nat):T->Bool
 | .var m=>Nat.blt m n
 | .c0 (.isnil r)=>Nat.blt r n
 | .c0 _=>true
 | .c1 (.vptr r _ _) a=>Nat.blt r n && a.inB n
 | .c1 _ a=>a.inB n
 | .c2 _ a b=>a.inB n && b.inB n
 | .c3 (.vslice r _) a b c=>Nat.blt r n && a.inB n && b.inB n && c.inB n
 | .c3 _ a b c=>a.inB n && b.inB n && c.inB n
 | .ife a b x y=>a.inB n && b.inB n && x.inB n && y.inB n

def SH.inNx0 (n:Nat):SH->Bool
 | .cells r _ cs=>Nat.blt r n && cs.all (T.inB n)
 | .arr r _ _ d cap=>Nat.blt r n && d.inB n && cap.inB n
 | .abs m _=>Nat.blt m n

def qib (a b:T):T :=
 match a with
 | .c0 .dnil=>b
 | a=>.dapp a b

def qtS (l:List SH):Option Nat->List SH
 | none=>l
 | some k=>l.eraseIdx k

def qjB (P:Program) (s:S) (t:TypeId) (x y:SV):Option R1 :=
 match P.underlying t with
 | some (.slice el) =>
  match qb2 P el,qK P el,qdN P el with
  | some z,some n,some bz =>
   if Nat.beq z.length n && Nat.blt 0 n && Nat.blt 0 bz then
    match qza s el (z.map qas) x,qgl s (z.map qas) y with
    | some (d,len,k,n1),some src=>if !((qib d src.d).inB s.nx && (qak len src.len).inB s.nx) then none else some { needs:=n1 ++ src.needs ++ [qq .leq (.tims (.lit bz) (qak len src.len)) (.lit 140737488355328)],fresh:=2,heap:=.arr s.nx el (z.map qas) (qib d src.d) (.var (s.nx + 1)) :: qtS s.heap k,val:=some (.one (.vslice s.nx (.lit 0) (qak len src.len) (.var (s.nx + 1)) n)) }
    | _,_=>none
   else none
  | _,_,_=>none
 | _=>none

def qns (P:Program) (s:S) (t:TypeId) (l c:SV):Option R1 :=
 match P.underlying t,l,c with
 | some (.slice el),.one (.c1 (.vint _) l),.one (.c1 (.vint _) c) =>
  match qb2 P el,qK P el,qdN P el with
  | some z,some n,some bz =>
   if Nat.beq z.length n && Nat.blt 0 n && Nat.blt 0 bz then
    some { needs:=[qV l,qq .leq l c,qq .leq (.tims (.lit bz) c) (.lit 281474976710656)],fresh:=1,heap:=.arr s.nx el (z.map qas) (.drep l (T.row z)) c :: s.heap,val:=some (.one (.vslice s.nx (.lit 0) l c n)) }
   else none
  | _,_,_=>none
 | _,_,_=>none

def qhR (P:Program) (s:S) (t:TypeId) (l:T):Option R1 :=
 match P.underlying t with
 | some (.slice el) =>
  match qb2 P el,qK P el,qdN P el with
  | some z,some n,some bz =>
   if Nat.beq z.length n && Nat.blt 0 n && Nat.blt 0 bz && l.inB s.nx then
    some { needs:=[qV l,qq .leq (.tims (.lit bz) l) (.lit 140737488355328)],fresh:=2,heap:=.arr s.nx el (z.map qas) (.drep l (T.row z)) (.var (s.nx + 1)) :: s.heap,val:=some (.one (.vslice s.nx (.lit 0) l (.var (s.nx + 1)) n)) }
   else none
  | _,_,_=>none
 | _=>none

def qbG (s:S) (dflt:T):Option Operand->Option T
 | none=>some dflt
 | some x=>match opd s x with
  | some (.one (.c1 (.vint _) t))=>some t
  | _=>none

def qs5 (l m off:T):T :=
 match l.isLit with
 | some 0=>off
 | _=>qeb m l off (qak off l)

def qpq (l m:T) (c:Nat):T :=
 match l.isLit with
 | some 0=>.lit (c:Int)
 | _=>qeb m l (.lit (c:Int)) (.plus (.lit (c:Int)) l)

def qrm (P:Program) (s:S) (t:TypeId) (x:SV) (lo hi mx:Option Operand):Option R1 :=
 match P.underlying t,x with
 | some (.slice el),.one (.c0 .vnils) =>
  match qK P el,qbG s (.lit 0) lo,qbG s (.lit 0) hi,qbG s (.lit 0) mx with
  | some _,some (.c0 (.lit 0)),some (.c0 (.lit 0)),some (.c0 (.lit 0))=>if mx.isNone || hi.isSome then some (quiet s (.one .vnils)) else none
  | _,_,_,_=>none
 | some (.slice el),.one (.c3 (.vslice r p) off len cap) =>
  match qK P el,qbG s (.lit 0) lo,qbG s len hi,qbG s cap mx with
  | some n,some l,some h,some m =>
   if Nat.beq n p && (mx.isNone || hi.isSome) then
    some { quiet s (.one (.vslice r (qs5 l m off) (qha h l) (qha m l) p)) with
     needs:=[qV off,qV len,qV cap,qV l,qq .leq l h,qq .leq h m,qq .leq m cap] }
   else none
  | _,_,_,_=>none
 | some (.array n el),.one (.c1 (.vptr r _ c) e) =>
  match qK P el,e.isLit,qbG s (.lit 0) lo,qbG s (.lit (n:Int)) hi,qbG s (.lit (n:Int)) mx with
  | some 1,some 0,some l,some h,some m =>
   if mx.isNone || hi.isSome then
    some { quiet s (.one (.vslice r (qpq l m c) (qha h l) (qha m l) 1)) with
     needs:=[qV l,qq .leq l h,qq .leq h m,qq .leq m (.lit (n:Int))] ++ qgR s r e }
   else none
  | _,_,_,_,_=>none
 | some .string,.one a =>
  if qex a && mx.isNone then
   match qbG s (.lit 0) lo,qbG s (qbD a) hi with
   | some l,some h=>some { quiet s (.one (.c3 .ssub a l h)) with needs:=[qV l,qq .leq l h,qq .leq h (qbD a)] }
   | _,_=>none
  else none
 | _,_=>none

def qo (P:Program) (s:S) (o:Oper):Option R1 :=
 match o.op with
 | .call { callee:=.builtin .append,args,argTypes } =>
  match args.toList,argTypes.toList with
  | [x,y],[t,t2] =>
   if Nat.beq t t2 then
    match opd s x,opd s y with
    | some a,some b=>qjB P s t a b
    | _,_=>none
   else
    match P.underlying t2,opd s x,opd s y with
    | some (.int _),some (.one (.c0 .vnils)),some (.one (.c1 (.vint _) l))=>qhR P s t l
    | _,_,_=>none
  | _,_=>none
 | .makeSlice t l c =>
  match opd s l,opd s c with
  | some a,some b=>qns P s t a b
  | _,_=>none
 | .slice t x lo hi mx =>
  match opd s x with
  | some a=>qrm P s t a lo hi mx
  | none=>none
 | .move x | .assign x=>(opd s x).map (quiet s)
 | .pick c a b =>
  match opd s c with
  | some (.one (.c1 .vbool t)) =>
   match qcn t s.pc with
   | some true=>(opd s a).map (quiet s)
   | some false=>(opd s b).map (quiet s)
   | none=>none
  | _=>none
 | .box ty x =>
  match (opd s x).bind SV.cells with
  | some cs=>some { needs:=[],fresh:=1,heap:=.cells s.nx ty cs :: s.heap,val:=some (.one (.vptr s.nx (.lit 0) 0 0)) }
  | none=>none
 | .alloc ty =>
  match qb2 P ty with
  | some cs=>some { needs:=[],fresh:=1,heap:=.cells s.nx ty cs :: s.heap,val:=some (.one (.vptr s.nx (.lit 0) 0 0)) }
  | none=>none
 | .build t parts =>
  match qb2 P t,q15 P t,qf3 s parts.toList with
  | some z,some pl,some ps=>(qgP pl z ps).map fun cs=>quiet s (.agg cs)
  | _,_,_=>none
 | .buildSlice t len parts =>
  match P.underlying t with
  | some (.slice el) =>
   match qb2 P el,qK P el,qf3 s parts.toList with
   | some z,some n,some ps =>
    if Nat.beq z.length n && Nat.blt 0 n && Nat.ble (len * n) 16777216 then
     match qgP (fun i=>some (i * n,n)) (qbz z len) ps with
     | some cs=>some { needs:=[],fresh:=1,heap:=.cells s.nx el cs :: s.heap,val:=some (.one (.vslice s.nx (.lit 0) (.lit len) (.lit len) n)) }
     | none=>none
    else none
   | _,_,_=>none
  | _=>none
 | .load t a =>
  match opd s a,qcL P t,qK P t with
  | some (.one (.c1 (.vptr r p c) e)),some ag,some n =>
   match s.look r with
   | some (_,x) =>
    match qrV x e p c n with
    | some (cs,needs)=>if ag then some { quiet s (.agg cs) with needs } else
     match cs with
     | [t]=>some { quiet s (.one t) with needs }
     | _=>none
    | none=>none
   | none=>none
  | _,_,_=>none
 | .store t a v =>
  match opd s a,(opd s v).bind SV.cells,qK P t with
  | some (.one (.c1 (.vptr r p c) e)),some vs,some n =>
   if Nat.beq vs.length n then
    match qaa r s.heap with
    | some (k,x)=>(qiE x e p c vs).map fun (x',needs)=>{ needs,fresh:=0,heap:=s.heap.set k x',val:=none }
    | none=>none
   else none
  | _,_,_=>none
 | .nilCheck x =>
  match opd s x with
  | some (.one (.c1 (.vptr r p c) e))=>some { quiet s (.one (.vptr r e p c)) with needs:=qgR s r e }
  | _=>none
 | .binOp op ty x y _ =>
  match opd s x,opd s y with
  | some a,some b=>qwI op P ty s a b
  | _,_=>none
 | .unOp op _ x =>
  match op,opd s x with
  | .not,some (.one (.c1 .vbool t))=>some (quiet s (.one (.vbool (qhS t))))
  | .neg,some (.one (.c1 (.vint k) t))=>some (quiet s (.one (.vint k (qfH .sub k (.lit 0) t))))
  | .xor,some (.one (.c1 (.vint k) t))=>some (quiet s (.one (.vint k (qfH .xor k (.lit (if k.signed then -1 else k.max)) t))))
  | _,_=>none
 | .convert src dst x =>
  match P.underlying src,P.underlying dst,opd s x with
  | some _,some (.int k),some (.one (.c1 (.vint _) t))=>some (quiet s (.one (.vint k (quD k t))))
  | some (.slice e),some .string,some v =>
   match P.underlying e,qgl s [.int .u8] v with
   | some (.int .u8),some src=>some { quiet s (.one (.c1 .vbytes src.d)) with needs:=src.needs }
   | _,_=>none
  | _,_,_=>none
 | .fieldAddr t x f =>
  match opd s x,qpb P t f with
  | some (.one (.c1 (.vptr r p c) e)),some (off,_)=>some { quiet s (.one (.vptr r e p (c + off))) with needs:=qgR s r e }
  | _,_=>none
 | .field t x f =>
  match opd s x,qpb P t f with
  | some (.agg cs),some (off,u) =>
   match qcL P u,qK P u with
   | some true,some n=>if Nat.ble (off + n) cs.length then some (quiet s (.agg ((cs.drop off).take n))) else none
   | some false,_=>(cs[off]?).map fun t=>quiet s (.one t)
   | _,_=>none
  | _,_=>none
 | .indexAddr t x i =>
  match P.underlying t,opd s x,opd s i with
  | some (.slice el),some (.one (.c3 (.vslice r p) off len _)),some (.one (.c1 (.vint _) j)) =>
   match qK P el with
   | some n=>if Nat.beq n p then some { quiet s (.one (.vptr r (qak off j) p 0)) with
     needs:=[qV j,qq .lss j len,qV off] ++ qgR s r (qak off j) } else none
   | none=>none
  | some (.array m el),some (.one (.c1 (.vptr r p c) e)),some (.one (.c1 (.vint _) j)) =>
   match qK P el,j.isLit with
   | some n,some z=>if 0 <= z/\z < m then some { quiet s (.one (.vptr r e p (c + z.toNat * n))) with needs:=qgR s r e } else none
   | some n,none=>if e.isLit = some 0 then some { quiet s (.one (.vptr r j n c)) with needs:=qV j :: qq .lss j (.lit (m:Int)) :: qgR s r e } else none
   | _,_=>none
  | _,_,_=>none
 | .extract x i =>
  match opd s x with
  | some (.tup vs) =>
   match vs[i]? with
   | some (true,ts)=>some (quiet s (.agg ts))
   | some (false,[t])=>some (quiet s (.one t))
   | _=>none
  | _=>none
 | .makeFunc fn first captured =>
  match (opds s first.toList).bind qdl,(opds s captured.toList).bind qdl with
  | some a,some b=>some (quiet s (.fn fn a b))
  | _,_=>none
 | .call { callee:=.builtin .len,args,argTypes } =>
  match (argTypes[0]?).bind P.underlying,args.toList with
  | some (.slice _),[x] =>
   match opd s x with
   | some (.one (.c3 (.vslice _ _) _ len _))=>some { quiet s (.one (.vint .i64 len)) with needs:=[qV len] }
   | some (.one (.c0 .vnils))=>some (quiet s (.one (.vint .i64 (.lit 0))))
   | _=>none
  | some .string,[x] =>
   match opd s x with
   | some (.one t)=>if qex t then some (quiet s (.one (.vint .i64 (qbD t)))) else none
   | _=>none
  | _,_=>none
 | .call { callee:=.builtin .cap,args,argTypes } =>
  match (argTypes[0]?).bind P.underlying,args.toList with
  | some (.slice _),[x] =>
   match opd s x with
   | some (.one (.c3 (.vslice _ _) _ _ cap))=>some { quiet s (.one (.vint .i64 cap)) with needs:=[qV cap] }
   | some (.one (.c0 .vnils))=>some (quiet s (.one (.vint .i64 (.lit 0))))
   | _=>none
  | _,_=>none
 | .index t x i =>
  match P.underlying t,opd s x,opd s i with
  | some .string,some (.one a),some (.one (.c1 (.vint _) j)) =>
   if qex a then some { quiet s (.one (.vint .u8 (.c2 .sat a j))) with needs:=[qV j,qq .lss j (qbD a)] } else none
  | some (.array n el),some (.agg ts),some (.one (.c1 (.vint _) j))=>qsc P s n el ts j
  | _,_,_=>none
 | .call { callee:=.builtin .min,args,.. } =>
  match opds s args.toList with
  | some [.one (.c1 (.vint k) a),.one (.c1 (.vint _) b)]=>some (quiet s (.one (.vint k (qyo a b))))
  | _=>none
 | .call { callee:=.builtin .max,args,.. } =>
  match opds s args.toList with
  | some [.one (.c1 (.vint k) a),.one (.c1 (.vint _) b)]=>some (quiet s (.one (.vint k (qx3 a b))))
  | _=>none
 | _=>none


def qnu (P:Program) (s:S) (t:TypeId) (x y:SV):Option R1 :=
 match P.underlying t,x with
 | some (.slice el),.one (.c3 (.vslice r p) off len cap) =>
  match qb2 P el,qK P el,qdN P el with
  | some z,some n,some _ =>
   if Nat.beq z.length n && Nat.blt 0 n && Nat.beq n p then
    match off.isLit,qaa r s.heap,qgl s (z.map qas) y with
    | some 0,some (k,.arr rr ty pat d capA),some src =>
     match slen src.d,qJ src.d 0 with
     | some 1,some ts =>
      if Nat.beq ts.length n && decide (pat = z.map qas) then
       match qiE (.arr rr ty pat d capA) len n 0 ts with
       | some (x',ns) =>
        if (s.heap.set k x').all (SH.inNx0 s.nx) && (qak len (.lit 1)).inB s.nx && cap.inB s.nx && Nat.blt r s.nx then
         some { needs:=qq .leq (qak len (.lit 1)) cap :: qq .eql src.len (.lit 1) :: ns ++ src.needs,fresh:=1,heap:=s.heap.set k x',val:=some (.one (.vslice r (.lit 0) (qak len (.lit 1)) cap p)) }
        else none
       | none=>none
      else none
     | _,_=>none
    | _,_,_=>none
   else none
  | _,_,_=>none
 | _,_=>none

def qjD (P:Program) (s:S) (t:TypeId) (x y:SV):Option R1 :=
 match P.underlying t,x with
 | some (.slice el),.one (.c3 (.vslice r p) off len cap) =>
  match qb2 P el,qK P el,qdN P el with
  | some z,some n,some bz =>
   if Nat.beq z.length n && Nat.blt 0 n && Nat.blt 0 bz then
    match qgl s (z.map qas) (.one (.c3 (.vslice r p) off len cap)),qgl s (z.map qas) y with
    | some sx,some sy =>
     if !((qib sx.d sy.d).inB s.nx && (qak len sy.len).inB s.nx) then none else
      some { needs:=sx.needs ++ sy.needs ++ [qq .eql len sx.len,qq .eql cap len,qq .leq (.lit 1) sy.len,qq .leq (.tims (.lit bz) (qak len sy.len)) (.lit 140737488355328)],fresh:=2,heap:=.arr s.nx el (z.map qas) (qib sx.d sy.d) (.var (s.nx + 1)) :: s.heap,val:=some (.one (.vslice s.nx (.lit 0) (qak len sy.len) (.var (s.nx + 1)) n)) }
    | _,_=>none
   else none
  | _,_,_=>none
 | _,_=>none

def qlg (P:Program) (s:S) (t:TypeId) (x:SV):Option R1 :=
 match P.underlying t,x with
 | some (.slice el),.one (.c3 (.vslice r p) off len _) =>
  match qb2 P el,qK P el with
  | some z,some n =>
   if Nat.beq z.length n && Nat.blt 0 n && Nat.beq n p then
    match qaa r s.heap with
    | some (k,.arr rr ty pat d capA) =>
     if Nat.beq pat.length p && (s.heap.set k (.arr rr ty pat (.dtake d (qeb len (.lit 0) (qP d) off)) capA)).all (SH.inNx0 s.nx) then
      some { needs:=[qV off,qV len,qq .leq (qak off len) (qP d)],fresh:=1,heap:=s.heap.set k (.arr rr ty pat (.dtake d (qeb len (.lit 0) (qP d) off)) capA),val:=some (.tup []) }
     else none
    | _=>none
   else none
  | _,_=>none
 | _,_=>none

def qeK (t:Nat):List (Nat × Nat)->Option Nat
 | []=>none
 | (k,v) :: r=>if Nat.beq t k then some v else qeK t r
def qrY (o:Oper) (ip:List (Nat × Nat)) (m:Nat):Bool :=
 match o.dst with
 | some t=>match qeK t ip with
  | some k=>Nat.beq k m
  | none=>false
 | none=>false
def qfR (ip:List (Nat × Nat)) (s:S) (o:Oper):S :=
 match o.op with
 | .call { callee:=.builtin .append,args,.. } =>
  if qrY o ip 1 then
   match args.toList with
   | x :: _ =>
    match opd s x with
    | some (.one (.c3 (.vslice r _) _ len _)) =>
     match qaa r s.heap with
     | some (k,.arr rr ty pat d cap)=>{ s with heap:=s.heap.set k (.arr rr ty pat (.dtake d len) cap) }
     | _=>s
    | _=>s
   | []=>s
  else s
 | _=>s

def qcG (len:T) (src:Src):T:=if len.same src.len then len else .imin len src.len
def qbo (len:T) (src:Src):T:=if len.same src.len then src.d else .dtake src.d (.imin len src.len)
def qmT (P:Program) (s:S) (t:TypeId) (x y:SV):Option R1 :=
 match P.underlying t,x with
 | some (.slice el),.one (.c3 (.vslice r p) off len _) =>
  match qb2 P el,qK P el with
  | some z,some n =>
   if Nat.beq z.length 1 && Nat.beq n 1 && Nat.beq p 1 then
    match qaa r s.heap,qgl s (z.map qas) y with
    | some (k,.arr rr ty pat d capA),some src =>
     if decide (pat = z.map qas) && (s.heap.set k (.arr rr ty pat (.c3 .dsplice d off (qbo len src)) capA)).all (SH.inNx0 s.nx) && (qcG len src).inB s.nx then
      some { needs:=[qV off,qV len,qq .leq (qak off len) (qP d)] ++ src.needs,fresh:=1,heap:=s.heap.set k (.arr rr ty pat (.c3 .dsplice d off (qbo len src)) capA),val:=some (.one (.vint .i64 (qcG len src))) }
     else none
    | _,_=>none
   else none
  | _,_=>none
 | _,_=>none

def qlt (P:Program) (s:S) (t:TypeId) (x y:SV):Option R1 :=
 match P.underlying t,x with
 | some (.slice el),.one (.c3 (.vslice r p) off len _) =>
  match qb2 P el,qK P el with
  | some [z],some 1 =>
   match qas z,qaa r s.heap,qgl s [qas z] y,qjd off with
   | .int kk,some (k,x),some src,some (zz,l,ns) =>
    match qfX x,x with
    | some (pat,d),.cells rr ty _ =>
     if Nat.beq p 1 && Nat.ble zz pat.length && !(decide (pat = [.int kk])) && (s.heap.set k (.arr rr ty pat (.c3 .xcopy d off (qbo len src)) (.lit 1))).all (SH.inNx0 s.nx) && (qcG len src).inB s.nx then
      some { needs:=qfK (.int kk) pat zz l len d ns ++ src.needs,fresh:=1,heap:=s.heap.set k (.arr rr ty pat (.c3 .xcopy d off (qbo len src)) (.lit 1)),val:=some (.one (.vint .i64 (qcG len src))) }
     else none
    | some (pat,d),.arr rr ty _ _ cap =>
     if Nat.beq p 1 && Nat.ble zz pat.length && !(decide (pat = [.int kk])) && (s.heap.set k (.arr rr ty pat (.c3 .xcopy d off (qbo len src)) cap)).all (SH.inNx0 s.nx) && (qcG len src).inB s.nx then
      some { needs:=qfK (.int kk) pat zz l len d ns ++ src.needs,fresh:=1,heap:=s.heap.set k (.arr rr ty pat (.c3 .xcopy d off (qbo len src)) cap),val:=some (.one (.vint .i64 (qcG len src))) }
     else none
    | _,_=>none
   | _,_,_,_=>none
  | _,_=>none
 | _,_=>none

def qo7 (P:Program) (ip:List (Nat × Nat)) (s:S) (o:Oper):Option R1 :=
 match o.op with
 | .load t (.global g) =>
  match qeK (2000 + g) ip,qcL P t,qK P t with
  | some R,some ag,some n =>
   match s.look R with
   | some (_,x) =>
    match qrV x (.lit 0) n 0 n with
    | some (cs,needs)=>if ag then some { quiet s (.agg cs) with needs:=.c1 (.isg g) (.var R) :: needs } else
     match cs with
     | [t]=>some { quiet s (.one t) with needs:=.c1 (.isg g) (.var R) :: needs }
     | _=>none
    | none=>none
   | none=>none
  | _,_,_=>none
 | .indexAddr t (.global g) i =>
  match qeK (2000 + g) ip,P.underlying t,opd s i with
  | some R,some (.array m el),some (.one (.c1 (.vint _) j)) =>
   match qK P el with
   | some n=>some { quiet s (.one (.vptr R j n 0)) with needs:=[.c1 (.isg g) (.var R),qV j,qq .lss j (.lit (m:Int))] }
   | none=>none
  | _,_,_=>none
 | _=>qo P s o

def qyq (P:Program) (ip:List (Nat × Nat)) (s:S) (o:Oper):Option R1 :=
 match o.op with
 | .call { callee:=.builtin .append,args,argTypes } =>
  if qrY o ip 0 then
   match args.toList,argTypes.toList with
   | [x,y],[t,t2] =>
    if Nat.beq t t2 then
     match opd s x,opd s y with
     | some a,some b=>qnu P s t a b
     | _,_=>none
    else none
   | _,_=>none
  else
   match qo7 P ip s o with
   | some r=>some r
   | none =>
    match args.toList,argTypes.toList with
    | [x,y],[t,t2] =>
     if Nat.beq t t2 then
      match opd s x,opd s y with
      | some a,some b=>qjD P s t a b
      | _,_=>none
     else none
    | _,_=>none
 | .call { callee:=.builtin .clear,args,argTypes } =>
  match args.toList,argTypes.toList with
  | [x],[t] =>
   match opd s x with
   | some a=>qlg P s t a
   | none=>none
  | _,_=>none
 | .call { callee:=.builtin .copy,args,argTypes } =>
  match args.toList,argTypes.toList with
  | [x,y],[t,t2] =>
   match opd s x,opd s y with
   | some a,some b =>
    match qmT P s t a b with
    | some r=>some r
    | none=>qlt P s t a b
   | _,_=>none
  | _,_=>none
 | _=>qo7 P ip s o

end Go.Eng

set_option linter.unusedSimpArgs false
set_option linter.unusedVariables false
namespace Go.Eng
open Go

structure MT where
 kagg:Bool
 kks:List IntKind
 vagg:Bool
 vpat:List CK
 zero:List T
 deriving Inhabited
structure ME where
 k:List Int
 v:List Value
 born:Nat
def mkV:Bool->List Value->Value
 | true,l=>.agg l.toArray
 | false,l=>l.headD .nilFunc
def qS (ks:List IntKind) (l:List Int):List Value:=List.zipWith Value.int ks l
def MT.ent (mt:MT) (x:ME):MapEntry:={ key:=mkV mt.kagg (qS mt.kks x.k),val:=mkV mt.vagg x.v,born:=x.born }
def MWf (mt:MT) (l:List ME) (clock:Nat):Prop :=
 (∀ x ∈ l,x.k.length = mt.kks.length/\qs mt.vpat x.v/\x.born < clock)/\l.Pairwise fun x y=>x.born < y.born/\x.k ≠ y.k
def MT.obj (mt:MT) (x:List ME × Nat):Obj:=.map (x.1.map mt.ent).toArray x.2
def qaN (h:Hp) (b:Nat) (mt:MT) (l:List ME) (clock:Nat):Prop:=h b = some (mt.obj (l,clock))/\MWf mt l clock
def qcP (l:List ME) (k:List Int) (z:List Value):List Value :=
 match l.find? (fun x=>x.k == k) with
 | some x=>x.v
 | none=>z
def qbu (l:List ME) (k:List Int):Bool:=l.any fun x=>x.k == k
def qby (l:List ME) (k:List Int) (v:List Value) (clock:Nat):List ME × Nat :=
 if qbu l k then (l.map fun x=>if x.k = k then { x with v:=v } else x,clock) else (l ++ [⟨k,v,clock⟩],clock + 1)
def qk4 (l:List ME) (k:List Int):List ME:=l.filter fun x=>decide (x.k ≠ k)

inductive MK where
 | new
 | get (x:T) (ks:List T) (mt:MT) (ms:List Nat)
 | put (m:Nat) (x:T) (ks vs:List T) (mt:MT)
 | del (m:Nat) (x:T) (ks:List T) (mt:MT)
 | len (x:T) (mt:MT) (ms:List Nat)
 | isnil (x:T)
 | range (x:T) (mt:MT) (ms:List Nat)
 | next (m:Nat) (x:T) (mt:MT) (ms:List Nat)
 | entry (m:Nat) (x:T) (mt:MT) (ms:List Nat)
 deriving Inhabited

def qbC (ρ:Env) (ks:List T):List Int:=ks.map fun t=>(t.den ρ).i
def MK.sem (ρ:Env) (Y1 Y2:List U->Prop):MK->Prop
 | .new=>∀ u:U,u.good->∀ v:U,v.good->(∃ b,v.v = .map (some b)/\u.h = Hp.one b (.map #[] 0))->Y1 [u,v]
 | .get x ks mt ms=>∃ l:List ME,(((x.den ρ).v = .map none/\l = [])∨∃ m ∈ ms,∃ b clock,(x.den ρ).v = .map (some b)/\qaN (ρ m).h b mt l clock) /\
   Y1 [{ d:=[qcP l (qbC ρ ks) (qb ρ mt.zero)],b:=qbu l (qbC ρ ks) }]
 | .put m x ks vs mt=>∃ b l clock,(x.den ρ).v = .map (some b)/\qaN (ρ m).h b mt l clock /\
   ∀ u:U,u.good->u.h = Hp.upd (ρ m).h b (mt.obj (qby l (qbC ρ ks) (qb ρ vs) clock))->Y1 [u]
 | .del m x ks mt=>∃ b l clock,(x.den ρ).v = .map (some b)/\qaN (ρ m).h b mt l clock /\
   ∀ u:U,u.good->u.h = Hp.upd (ρ m).h b (mt.obj (qk4 l (qbC ρ ks),clock))->Y1 [u]
 | .len x mt ms=>∃ l:List ME,(((x.den ρ).v = .map none/\l = [])∨∃ m ∈ ms,∃ b clock,(x.den ρ).v = .map (some b)/\qaN (ρ m).h b mt l clock)/\Y1 [{ i:=(l.length:Int) }]
 | .isnil x=>((x.den ρ).v = .map none/\Y1 [{ b:=true }])∨((∃ r,(x.den ρ).v = .map (some r))/\Y1 [{ b:=false }])
 | .range x mt ms=>∃ (mo:Option Nat) (clock:Nat),(((x.den ρ).v = .map none/\mo = none/\clock = 0)∨∃ m ∈ ms,∃ b l,(x.den ρ).v = .map (some b)/\mo = some b/\qaN (ρ m).h b mt l clock) /\
   ∀ u:U,u.good->∀ v:U,v.good->(∃ b',v.v = .pointer (some ⟨b',0,none⟩)/\u.h = Hp.one b' (.mapIter mo clock #[] clock))->Y1 [u,v]
 | .next m x mt ms=>∃ (b' since:Nat) (seen:List Nat) (stepped:Nat) (mo:Option Nat),(x.den ρ).v = .pointer (some ⟨b',0,none⟩)/\(ρ m).h b' = some (.mapIter mo since seen.toArray stepped) /\
   match mo with
   | none=>Y2 []
   | some b=>∃ l clock,(∃ n ∈ ms,qaN (ρ n).h b mt l clock)/\(seen = []∨l = []∨∃ e ∈ l,e.born < stepped) /\
     ((∀ e ∈ l,e.born < since->e.born ∈ seen)->Y2 []) /\
     ∀ e ∈ l,e.born ∉ seen->∀ u:U,u.good->u.h = Hp.upd (ρ m).h b' (.mapIter (some b) since (seen ++ [e.born]).toArray clock)->Y1 [u,{ d:=[qS mt.kks e.k] },{ d:=[e.v] }]
 | .entry m x mt ms=>∃ (b' since:Nat) (seen:List Nat) (clock b:Nat) (l:List ME) (e:ME),(x.den ρ).v = .pointer (some ⟨b',0,none⟩)/\(ρ m).h b' = some (.mapIter (some b) since (seen ++ [e.born]).toArray clock) /\
   (∃ n ∈ ms,qaN (ρ n).h b mt l clock)/\e ∈ l/\Y1 [{ d:=[qS mt.kks e.k] },{ d:=[e.v] }]


def qdn:List SH->Option (Nat × Nat)
 | []=>none
 | .abs m t :: l=>if Nat.beq t 1003 then some (0,m) else (qdn l).map fun (k,x)=>(k + 1,x)
 | _ :: l=>(qdn l).map fun (k,x)=>(k + 1,x)
def qai:List SH->List Nat
 | []=>[]
 | .abs m t :: l=>if Nat.beq t 1003 then m :: qai l else qai l
 | _ :: l=>qai l
def qfY:List IntKind->List T->Option (List T)
 | [],[]=>some []
 | k :: ks,.c1 (.vint k') t :: ts=>if k = k' then (qfY ks ts).map (t :: ·) else none
 | _,_=>none
def qbk (n:Nat):List CK->Nat->List T
 | [],_=>[]
 | .int k :: r,c=>.vint k (.c2 (.xint c) (.var n) (.lit 0)) :: qbk n r (c + 1)
 | .bool :: r,c=>.vbool (.c2 (.xbool c) (.var n) (.lit 0)) :: qbk n r (c + 1)
 | .any :: r,c=>.vcell (.var n) (.lit 0) c :: qbk n r (c + 1)
def q3b:Bool->List T->Option SV
 | true,ts=>some (.agg ts)
 | false,[t]=>some (.one t)
 | _,_=>none
def qeT (s:S) (b:Bool) (x:Operand):Option (List T) :=
 match b,opd s x with
 | true,some (.agg ts)=>some ts
 | false,some (.one t)=>some [t]
 | _,_=>none
def q3e (P:Program) (t:TypeId):Option (Bool × List IntKind) :=
 match P.underlying t with
 | some (.int k)=>some (false,[k])
 | some (.array n el) =>
  match P.underlying el,qK P el,qcL P el with
  | some (.int k),some 1,some false=>some (true,List.replicate n k)
  | _,_,_=>none
 | _=>none
def q6g (P:Program) (t:TypeId):Option Bool :=
 match (P.info? t).bind (·.zero) with
 | some (.agg _)=>some true
 | some _=>some false
 | none=>none
def mtP (P:Program) (t:TypeId):Option MT :=
 match P.underlying t with
 | some (.map k e) =>
  match q3e P k,q6g P e,qb2 P e with
  | some (ka,ks),some va,some z=>if va || Nat.beq z.length 1 then some ⟨ka,ks,va,z.map qas,z⟩ else none
  | _,_,_=>none
 | _=>none
def q5O (P:Program) (ip:List (Nat × Nat)) (x:Operand):Option MT :=
 match x with
 | .tmp t=>match ip.find? (fun e=>Nat.beq e.1 (5000 + t)) with
  | some (_,ty)=>mtP P ty
  | none=>none
 | _=>none

structure MB where
 fresh:Nat
 heap:List SH
 val:Option SV
 deriving Inhabited
structure MR where
 k:MK
 a:MB
 b:Option MB
 deriving Inhabited

def qlR (s:S):MR:=⟨.new,⟨2,.abs s.nx 1003 :: s.heap,some (.one (.var (s.nx + 1)))⟩,none⟩
def qlx (P:Program) (s:S) (t:TypeId) (x i:Operand) (ck:Bool):Option MR :=
 match mtP P t,opd s x with
 | some mt,some (.one xt) =>
  match (qeT s mt.kagg i).bind (qfY mt.kks),q3b mt.vagg (qbk s.nx mt.vpat 0) with
  | some ks,some v=>some ⟨.get xt ks mt (qai s.heap ++ qai s.ro),⟨1,s.heap,some (if ck then .tup [(mt.vagg,qbk s.nx mt.vpat 0),(false,[.vbool (.var s.nx)])] else v)⟩,none⟩
  | _,_=>none
 | _,_=>none
def qjp (P:Program) (s:S) (t:TypeId) (x k v:Operand):Option MR :=
 match mtP P t,opd s x,qdn s.heap with
 | some mt,some (.one xt),some (pos,m) =>
  match (qeT s mt.kagg k).bind (qfY mt.kks),qeT s mt.vagg v with
  | some ks,some vs=>if qe4 mt.vpat vs && Nat.beq vs.length mt.vpat.length then some ⟨.put m xt ks vs mt,⟨1,s.heap.set pos (.abs s.nx 1003),none⟩,none⟩ else none
  | _,_=>none
 | _,_,_=>none
def qkH (P:Program) (s:S) (t:TypeId) (x k:Operand):Option MR :=
 match mtP P t,opd s x,qdn s.heap with
 | some mt,some (.one xt),some (pos,m) =>
  match (qeT s mt.kagg k).bind (qfY mt.kks) with
  | some ks=>some ⟨.del m xt ks mt,⟨1,s.heap.set pos (.abs s.nx 1003),some (.tup [])⟩,none⟩
  | none=>none
 | _,_,_=>none
def qum (P:Program) (s:S) (t:TypeId) (x:Operand):Option MR :=
 match mtP P t,opd s x with
 | some mt,some (.one xt)=>some ⟨.len xt mt (qai s.heap ++ qai s.ro),⟨1,s.heap,some (.one (.vint .i64 (.var s.nx)))⟩,none⟩
 | _,_=>none
def qu6 (P:Program) (s:S) (op:BinOp) (t:TypeId) (x y:Operand):Option MR :=
 match P.underlying t,opd s x,opd s y with
 | some (.map _ _),some (.one xt),some (.one (.c0 .vnilm)) =>
  match op with
  | .eql=>some ⟨.isnil xt,⟨1,s.heap,some (.one (.vbool (.var s.nx)))⟩,none⟩
  | .neq=>some ⟨.isnil xt,⟨1,s.heap,some (.one (.vbool (.not (.var s.nx))))⟩,none⟩
  | _=>none
 | _,_,_=>none
def qnn (P:Program) (s:S) (t:TypeId) (x:Operand):Option MR :=
 match mtP P t,opd s x with
 | some mt,some (.one xt)=>some ⟨.range xt mt (qai s.heap ++ qai s.ro),⟨2,.abs s.nx 1003 :: s.heap,some (.one (.var (s.nx + 1)))⟩,none⟩
 | _,_=>none
def mapNext (P:Program) (ip:List (Nat × Nat)) (s:S) (x:Operand):Option MR :=
 match q5O P ip x,opd s x,qdn s.heap with
 | some mt,some (.one xt),some (pos,m) =>
  some ⟨.next m xt mt (qai s.heap ++ qai s.ro),⟨3,s.heap.set pos (.abs s.nx 1003),some (.tup [(false,[.vbool (.bl true)]),(mt.kagg,qbk (s.nx + 1) (mt.kks.map .int) 0),(mt.vagg,qbk (s.nx + 2) mt.vpat 0)])⟩,
   some ⟨0,s.heap,some (.tup [(false,[.vbool (.bl false)])])⟩⟩
 | _,_,_=>none
def qlB (P:Program) (ip:List (Nat × Nat)) (s:S) (x:Operand):Option MR :=
 match q5O P ip x,opd s x,qdn s.heap with
 | some mt,some (.one xt),some (_,m) =>
  some ⟨.entry m xt mt (qai s.heap ++ qai s.ro),⟨2,s.heap,some (.tup [(mt.kagg,qbk s.nx (mt.kks.map .int) 0),(mt.vagg,qbk (s.nx + 1) mt.vpat 0)])⟩,none⟩
 | _,_,_=>none

def qyJ (P:Program) (ip:List (Nat × Nat)) (s:S) (o:Oper):Option MR :=
 match o.op with
 | .makeMap _ none=>some (qlR s)
 | .lookup t x i ck=>qlx P s t x i ck
 | .mapUpdate t x k v=>qjp P s t x k v
 | .call { callee:=.builtin .delete,args,argTypes } =>
  match args.toList,argTypes.toList with
  | [x,k],[t,_]=>qkH P s t x k
  | _,_=>none
 | .call { callee:=.builtin .len,args,argTypes } =>
  match args.toList,argTypes.toList with
  | [x],[t]=>qum P s t x
  | _,_=>none
 | .binOp op t x y _=>qu6 P s op t x y
 | .range t x=>qnn P s t x
 | .next x false=>mapNext P ip s x
 | .entry x=>qlB P ip s x
 | _=>none
def q40 (P:Program) (o:Oper):Bool :=
 match o.op with
 | .lookup ..=>true
 | .mapUpdate ..=>true
 | .call { callee:=.builtin .delete,.. }=>true
 | .range ..=>true
 | .next _ false=>true
 | .entry _=>true
 | .call { callee:=.builtin .len,argTypes,.. }=>match (argTypes[0]?).bind P.underlying with
  | some (.map _ _)=>true
  | _=>false
 | _=>false
end Go.Eng

set_option linter.unusedSimpArgs false
set_option linter.unusedVariables false
namespace Go.Eng
open Go


inductive Bd where
 | t (t:T)
 | r (r:Nat)
 | nil
 deriving Inhabited

structure Sg where
 th:Nat
 bd:List (Nat × Bd)
 eqI:List (T × T)     -- to be equal, as numbers, when all is bound
 eqB:List (T × T)
 eqD:List (T × T)
 deriving Inhabited

abbrev bv (n m:Nat):Nat × Bd:=(n,.t (.var m))
abbrev bt (n:Nat) (t:T):Nat × Bd:=(n,.t t)
abbrev bg (n m:Nat):Nat × Bd:=(n,.r m)
abbrev sg (n:Nat) (l:List (Nat × Bd)):Sg:=⟨n,l,[],[],[]⟩
def Sg.clean (Z:Sg):Sg:=⟨Z.th,Z.bd,[],[],[]⟩
def look (n:Nat):List (Nat × Bd)->Option Bd
 | []=>none
 | (k,b) :: r=>if Nat.beq n k then some b else look n r

def Sg.reg (Z:Sg) (r:Nat):Option Nat :=
 if Nat.blt r Z.th then some r else
 match look r Z.bd with
 | some (.r r')=>some r'
 | _=>none

def Sg.sub (Z:Sg):T->Option T
 | .var n=>if Nat.blt n Z.th then some (.var n) else
  match look n Z.bd with
  | some (.t t)=>some t
  | some (.r m)=>some (.var m)
  | _=>none
 | .c0 (.isnil r) =>
  if Nat.blt r Z.th then some (.isnil r) else
  match look r Z.bd with
  | some (.r r')=>some (.isnil r')
  | some .nil=>some (.bl true)
  | _=>none
 | .c0 o=>some (.c0 o)
 | .c1 (.vptr r p c) a =>
  match Z.reg r,Z.sub a with
  | some r',some a'=>some (.vptr r' a' p c)
  | _,_=>none
 | .c1 o a=>(Z.sub a).map (.c1 o)
 | .c2 o a b =>
  match Z.sub a,Z.sub b with
  | some a',some b'=>some (.c2 o a' b')
  | _,_=>none
 | .c3 (.vslice r p) a b c =>
  match Z.reg r,Z.sub a,Z.sub b,Z.sub c with
  | some r',some a',some b',some c'=>some (.vslice r' a' b' c' p)
  | _,_,_,_=>none
 | .c3 o a b c =>
  match Z.sub a,Z.sub b,Z.sub c with
  | some a',some b',some c'=>some (.c3 o a' b' c')
  | _,_,_=>none
 | .ife a b x y =>
  match Z.sub a,Z.sub b,Z.sub x,Z.sub y with
  | some a',some b',some x',some y'=>some (.ife a' b' x' y')
  | _,_,_,_=>none

def Sg.bind (Z:Sg) (n:Nat) (b:Bd):Sg:={ Z with bd:=(n,b) :: Z.bd }

def mI (p a:T) (Z:Sg):Sg :=
 match p with
 | .var n=>if !(Nat.blt n Z.th) && (look n Z.bd).isNone then Z.bind n (.t a) else { Z with eqI:=(p,a) :: Z.eqI }
 | p=>{ Z with eqI:=(p,a) :: Z.eqI }
def mB (p a:T) (Z:Sg):Sg :=
 match p with
 | .var n=>if !(Nat.blt n Z.th) && (look n Z.bd).isNone then Z.bind n (.t a) else { Z with eqB:=(p,a) :: Z.eqB }
 | p=>{ Z with eqB:=(p,a) :: Z.eqB }
def mR (p a:Nat) (Z:Sg):Option Sg :=
 if Nat.blt p Z.th then (if Nat.beq p a then some Z else none) else
 match look p Z.bd with
 | none=>some (Z.bind p (.r a))
 | some (.r a')=>if Nat.beq a a' then some Z else none
 | _=>none
def qxj (p:Nat) (Z:Sg):Option Sg :=
 if Nat.blt p Z.th then none else
 match look p Z.bd with
 | none=>some (Z.bind p .nil)
 | some .nil=>some Z
 | _=>none

def qud (x y:T) (Z:Sg):Bool :=
 match x with
 | .c2 (.xint c) (.var n) (.c0 (.lit 0)) =>
  if Nat.blt n Z.th then false else
  match look n Z.bd with
  | some (.t d) =>
   match qaD d with
   | some ts =>
    match ts[c]? with
    | some (.c1 (.vint _) y')=>y'.same y
    | _=>false
   | none=>false
  | _=>false
 | _=>false
def mV (p a:T) (Z:Sg):Option Sg :=
 match p,a with
 | .c1 (.vint k) x,.c1 (.vint k') y=>if k = k' then (if qud x y Z then some Z else some (mI x y Z)) else none
 | .c1 .vbool x,.c1 .vbool y=>some (mB x y Z)
 | .c1 (.vptr r p c) e,.c1 (.vptr r' p' c') e'=>if p = p'/\c = c' then (mR r r' Z).map (mI e e') else if c = c'/\e.isLit = some 0/\e'.isLit = some 0 then mR r r' Z else none
 | .c3 (.vslice r p) o l c,.c3 (.vslice r' p') o' l' c'=>if p = p' then (mR r r' Z).map fun Z=>mI c c' (mI l l' (mI o o' Z)) else none
 | .c3 (.vslice r _) o l c,.c0 .vnils=>(qxj r Z).map fun Z=>mI c (.lit 0) (mI l (.lit 0) (mI o (.lit 0) Z))
 | .c1 (.vptr r _ _) e,.c0 .vnilp=>(qxj r Z).map fun Z=>mI e (.lit 0) Z
 | .c0 .vnilp,.c0 .vnilp=>some Z
 | .c0 .vnils,.c0 .vnils=>some Z
 | .c0 .vnilm,.c0 .vnilm=>some Z
 | .c1 .sval (.var n),a =>
  if qex a then
   if !(Nat.blt n Z.th) && (look n Z.bd).isNone then some (Z.bind n (.t a))
   else if Nat.blt n Z.th && (T.c1 .sval (.var n)).same a then some Z else none
  else none
 | .var n,a=>if !(Nat.blt n Z.th) && (look n Z.bd).isNone then some (Z.bind n (.t a)) else if Nat.blt n Z.th && (T.var n).same a then some Z else none
 | _,_=>none
def qmL:List T->List T->Sg->Option Sg
 | [],[],Z=>some Z
 | p :: ps,a :: as,Z=>(mV p a Z).bind (qmL ps as)
 | _,_,_=>none
def quq (n:Nat):Nat->List T->Nat
 | j,.c1 (.vint _) (.c2 (.xint c) (.var m) (.c0 (.lit 0))) :: ps=>if Nat.beq c j && Nat.beq m n then quq n (j + 1) ps else j
 | j,_=>j
def qfM:List T->List T->Sg->Sg
 | .c1 (.vint k) (.c2 (.xint c) (.var n) (.c0 (.lit 0))) :: ps,a :: as,Z =>
  if Nat.beq c 0 && !(Nat.blt n Z.th) && (look n Z.bd).isNone then qfM ps as (Z.bind n (.t (T.row ((a :: as).take (quq n 0 (.c1 (.vint k) (.c2 (.xint c) (.var n) (.c0 (.lit 0))) :: ps))))))
  else qfM ps as Z
 | _ :: ps,_ :: as,Z=>qfM ps as Z
 | _,_,Z=>Z
def mVs (ps as:List T) (Z:Sg):Option Sg:=qmL ps as (qfM ps as Z)
def mRw:T->T->Sg->Option Sg
 | .c2 .rcons v r,.c2 .rcons v' r',Z=>(mV v v' Z).bind (mRw r r')
 | .c0 .rnil,.c0 .rnil,Z=>some Z
 | _,_,_=>none
def mD:T->T->Sg->Sg
 | .var n,a,Z=>if !(Nat.blt n Z.th) && (look n Z.bd).isNone then Z.bind n (.t a) else { Z with eqD:=(.var n,a) :: Z.eqD }
 | .c3 (.dput c) d e r,.c3 (.dput c') d' e' r',Z =>
  if c = c' then
   match mRw r r' Z with
   | some Z1=>mI e e' (mD d d' Z1)
   | none=>{ Z with eqD:=(.c3 (.dput c) d e r,.c3 (.dput c') d' e' r') :: Z.eqD }
  else { Z with eqD:=(.c3 (.dput c) d e r,.c3 (.dput c') d' e' r') :: Z.eqD }
 | .c2 .dapp x y,.c2 .dapp x' y',Z=>mD y y' (mD x x' Z)
 | .c2 .rcons v r,a,Z =>
  match mRw (.c2 .rcons v r) a Z with
  | some Z1=>Z1
  | none=>{ Z with eqD:=(.c2 .rcons v r,a) :: Z.eqD }
 | p,a,Z=>{ Z with eqD:=(p,a) :: Z.eqD }
def mSV (p a:SV) (Z:Sg):Option Sg :=
 match p,a with
 | .one p,.one a=>mV p a Z
 | .agg ps,.agg as=>mVs ps as Z
 | .fn f a b,.fn f' a' b'=>if f = f' then (mVs a a' Z).bind (mVs b b') else none
 | .tup ps,.tup as=>mTup ps as Z
 | _,_=>none
where
 mTup:List (Bool × List T)->List (Bool × List T)->Sg->Option Sg
  | [],[],Z=>some Z
  | (g,p) :: ps,(g',a) :: as,Z=>if g = g' then (mVs p a Z).bind (mTup ps as) else none
  | _,_,_=>none
def qi8:List SV->List SV->Sg->Option Sg
 | [],[],Z=>some Z
 | p :: ps,a :: as,Z=>(mSV p a Z).bind (qi8 ps as)
 | _,_,_=>none

def mH1 (p a:SH) (Z:Sg):Option Sg :=
 match p,a with
 | .cells _ ty ps,.cells _ ty' as=>if Nat.beq ty ty' then mVs ps as Z else none
 | .arr _ ty pat d cap,.arr _ ty' pat' d' cap'=>if Nat.beq ty ty' && decide (pat = pat') then some (mI cap cap' (mD d d' Z)) else none
 | .arr _ ty pat d cap,.cells _ ty' as =>
  if Nat.beq ty ty' && Nat.blt 0 pat.length && Nat.beq (as.length % pat.length) 0 then
   match qfh pat pat.length (as.length / pat.length) as with
   | some D=>some (mI cap (.lit ((as.length / pat.length:Nat):Int)) (mD d D Z))
   | none=>none
  else none
 | _,_=>none
def qja:Option Bd->Bool
 | some .nil=>true
 | _=>false
def SH.isAbs:SH->Option (Nat × Nat)
 | .abs n t=>some (n,t)
 | _=>none
def qgf (t:Nat):List SH->Option (Nat × Nat)
 | []=>none
 | .abs m t' :: l=>if Nat.beq t t' then some (0,m) else (qgf t l).map fun (k,x)=>(k + 1,x)
 | _ :: l=>(qgf t l).map fun (k,x)=>(k + 1,x)
def mHs (own:Bool):List SH->List SH->List SH->Sg->Option (List SH × Sg)
 | [],h,_,Z=>some (h,Z)
 | p :: ps,h,ro,Z =>
  match p.isAbs with
  | some (n,t) =>
   match qgf t h with
   | some (k,m)=>(mR n m Z).bind (mHs own ps (if own then h.eraseIdx k else h) ro)
   | none=>if own then none else
    match qgf t ro with
    | some (_,m)=>(mR n m Z).bind (mHs own ps h ro)
    | none=>none
  | none =>
  match p.reg with
  | none=>none
  | some r =>
   if !(Nat.blt r Z.th) && qja (look r Z.bd) then
    match p with
    | .arr _ _ _ d cap=>mHs own ps h ro (mI cap (.lit 0) (mD d .dnil Z))
    | _=>none
   else
   match Z.reg r with
   | none=>none
   | some r' =>
    match qaa r' h with
    | some (k,a)=>(mH1 p a Z).bind (mHs own ps (if own then h.eraseIdx k else h) ro)
    | none=>if own then none else
     match qaa r' ro with
     | some (_,a)=>(mH1 p a Z).bind (mHs own ps h ro)
     | none=>none

def Sg.eqs (Z:Sg) (f:T->T->Option T):List (T × T)->Option (List T)
 | []=>some []
 | (p,a) :: r =>
  match Z.sub p,Z.eqs f r with
  | some p',some cs=>if p'.same a then some cs else
   match f p' a with
   | some c=>some (c :: cs)
   | none=>none
  | _,_=>none
def Sg.left (Z:Sg):Option (List T) :=
 match Z.eqs (fun p a=>some (qq .eql p a)) Z.eqI,Z.eqs (fun p a=>some (qlX p a)) Z.eqB,Z.eqs (fun _ _=>none) Z.eqD with
 | some a,some b,some c=>some (a ++ b ++ c)
 | _,_,_=>none

def Sg.subs (Z:Sg):List T->Option (List T)
 | []=>some []
 | t :: ts=>match Z.sub t,Z.subs ts with
  | some a,some b=>some (a :: b)
  | _,_=>none
def Sg.subSV (Z:Sg):SV->Option SV
 | .one t=>(Z.sub t).map .one
 | .agg ts=>(Z.subs ts).map .agg
 | .tup vs=>(tup vs).map .tup
 | .fn f a b=>match Z.subs a,Z.subs b with
  | some x,some y=>some (.fn f x y)
  | _,_=>none
where
 tup:List (Bool × List T)->Option (List (Bool × List T))
  | []=>some []
  | (g,ts) :: r=>match Z.subs ts,tup r with
   | some a,some b=>some ((g,a) :: b)
   | _,_=>none
def Sg.subH (Z:Sg):SH->Option SH
 | .cells r ty cs=>match Z.reg r,Z.subs cs with
  | some r',some cs'=>some (.cells r' ty cs')
  | _,_=>none
 | .arr r ty pat d cap=>match Z.reg r,Z.sub d,Z.sub cap with
  | some r',some d',some cap'=>some (.arr r' ty pat d' cap')
  | _,_,_=>none
 | .abs n t=>(Z.reg n).map fun m=>.abs m t
def Sg.subHs (Z:Sg):List SH->Option (List SH)
 | []=>some []
 | x :: r=>match Z.subH x,Z.subHs r with
  | some a,some b=>some (a :: b)
  | _,_=>none


structure Alt where
 k:Nat                 -- how many new variables
 ret:SV
 heap:List SH
 post:Env->Prop

structure Ctr where
 fn:FuncId
 nv:Nat
 args:List SV
 heap:List SH
 ro:List SH
 pre:Env->Prop
 alts:List Alt
 ip:List (Nat × Nat):=[]   -- appends: 0 in place, 1 to what is in the slice alone
 ow:List Nat:=[]           -- temporaries whose slices lie in what is owned

structure Inv where
 key:Nat
 nv:Nat
 env:List (Nat × SV)
 heap:List SH
 inv:Env->Prop
 mu:Env->Nat

def qgF:List (Nat × SV)->List (Nat × SV)->Sg->Option Sg
 | [],_,Z=>some Z
 | (t,p) :: ps,env,Z =>
  match qaB t env with
  | some a=>(mSV p a Z).bind (qgF ps env)
  | none=>none

def qcY (from_ base:Nat):Nat->List (Nat × Bd)
 | 0=>[]
 | k + 1=>(from_ + k,.r (base + k)) :: qcY from_ base k
def Sg.subEnv (Z:Sg):List (Nat × SV)->Option (List (Nat × SV))
 | []=>some []
 | (t,v) :: r=>match Z.subSV v,Z.subEnv r with
  | some a,some b=>some ((t,a) :: b)
  | _,_=>none

def qje:List T->List T->Bool
 | [],[]=>true
 | a :: l,b :: m=>a.same b && qje l m
 | _,_=>false
def SH.same:SH->SH->Bool
 | .cells r ty cs,.cells r' ty' cs'=>Nat.beq r r' && Nat.beq ty ty' && qje cs cs'
 | .arr r ty pat d cap,.arr r' ty' pat' d' cap'=>Nat.beq r r' && Nat.beq ty ty' && decide (pat = pat') && d.same d' && cap.same cap'
 | .abs n t,.abs n' t'=>Nat.beq n n' && Nat.beq t t'
 | _,_=>false


inductive Out where
 | stuck (why:Nat) (a b:Nat)
 | need (c:T) (o:Out)
 | br (c:T) (x y:Out)
 | fresh (n:Nat) (o:Out)
 | both (x y:Out)
 | top
 | pre (ci:Nat) (Z:Sg) (o:Out)
 | post (ci ai:Nat) (Z:Sg) (base:Nat) (o:Out)
 | inv (li:Nat) (base:Nat) (Z:Sg) (o:Out)
 | hyp (li:Nat) (base:Nat) (o:Out)
 | back (li:Nat) (base:Nat) (Z:Sg)
 | cut (li:Nat) (base:Nat) (Z:Sg)
 | ret (ai:Nat) (Z:Sg)
 | pack (l:List SH) (n:Nat) (o:Out)
 | view (x:T) (pat:List CK) (ms:List Nat) (base:Nat) (o:Out)
 | viewL (x:T) (pat:List CK) (ms:List Nat) (base:Nat) (o:Out)
 | know (c:T) (o:Out)
 | take (x:T) (el:Nat) (pat:List CK) (m base:Nat) (o:Out)
 | put (m rg:Nat) (pat:List CK) (d e:T) (c:Nat) (vs:List T) (base:Nat) (o:Out)
 | mop (k:MK) (base:Nat) (o1 o2:Out)
 deriving Inhabited

structure Ctx where
 P:Program
 me:Ctr
 ctrs:List Ctr
 invs:List Inv

inductive KI where
 | code (c:Code)
 | blk (id:Nat)
 | ops (ops:Array Oper) (l:List Nat)
 | lend (li:Nat) (base:Nat)
 | cutE (li:Nat) (base:Nat)
 | any (ops:Array Oper) (listed:Array Bool) (left:Nat) (st:List SH)
 | again (c:Code)
 deriving Inhabited

def qeL (id:Nat):List KI->Option (List KI)
 | []=>none
 | .blk j :: K=>if Nat.beq id j then some K else qeL id K
 | _ :: K=>qeL id K

def qjw (s:S) (c:T):T :=
 match c with
 | .c1 .not (.c0 (.isnil r)) =>
  match s.look r with
  | some (_,.cells ..)=>.bl true
  | some (_,.arr _ _ _ d _)=>qq .lss (.lit 0) (qP d)
  | _=>c
 | c=>c

def needs (s:S):List T->(S->Out)->Out
 | [],k=>k s
 | c :: cs,k =>
  match qcn (qjw s c) s.pc with
  | some true=>needs s cs k
  | some false=>.stuck 7 0 0
  | none=>.need (qjw s c) (needs { s with pc:=(qjw s c,true) :: s.pc } cs k)

def SV.inB (n:Nat):SV->Bool
 | .one t=>t.inB n
 | .agg ts=>ts.all (T.inB n)
 | .tup vs=>vs.all fun x=>x.2.all (T.inB n)
 | .fn _ a b=>a.all (T.inB n) && b.all (T.inB n)
def SH.inB (n:Nat):SH->Bool
 | .cells r _ cs=>Nat.blt r n && cs.all (T.inB n)
 | .arr r _ _ d cap=>Nat.blt r n && d.inB n && cap.inB n
 | .abs m _=>Nat.blt m n
def T.inS (p:Nat->Bool):T->Bool
 | .var m=>p m
 | .c0 (.isnil r)=>p r
 | .c0 _=>true
 | .c1 (.vptr r _ _) a=>p r && a.inS p
 | .c1 _ a=>a.inS p
 | .c2 _ a b=>a.inS p && b.inS p
 | .c3 (.vslice r _) a b c=>p r && a.inS p && b.inS p && c.inS p
 | .c3 _ a b c=>a.inS p && b.inS p && c.inS p
 | .ife a b x y=>a.inS p && b.inS p && x.inS p && y.inS p
def SV.inS (p:Nat->Bool):SV->Bool
 | .one t=>t.inS p
 | .agg ts=>ts.all (T.inS p)
 | .tup vs=>vs.all fun x=>x.2.all (T.inS p)
 | .fn _ a b=>a.all (T.inS p) && b.all (T.inS p)
def SH.inS (p:Nat->Bool):SH->Bool
 | .cells r _ cs=>p r && cs.all (T.inS p)
 | .arr r _ _ d cap=>p r && d.inS p && cap.inS p
 | .abs m _=>p m
def qx2 (base nv n:Nat):Bool:=(Nat.blt n base && Nat.blt n 1000) || (Nat.ble 1000 n && Nat.blt n (1000 + nv))
def Inv.fits (I:Inv) (base:Nat):Bool:=I.env.all (fun x=>x.2.inS (qx2 base I.nv)) && I.heap.all (SH.inS (qx2 base I.nv))

def S.inNx (s:S):Bool:=s.env.all (fun x=>x.2.inB s.nx) && s.heap.all (SH.inB s.nx) && s.ro.all (SH.inB s.nx) && s.pc.all (fun x=>x.1.inB s.nx) && s.vw.all (fun x=>x.1.all (fun m=>Nat.blt m s.nx) && x.2.inB s.nx)

def S.scopedEH (s:S):Bool:=s.env.all (fun x=>x.2.inB s.nx) && s.heap.all (SH.inB s.nx)
def Bd.inB (n:Nat):Bd->Bool
 | .t x=>x.inB n
 | .r m=>Nat.blt m n
 | .nil=>true
def qzP (Z:Sg) (c:Ctr) (a:Alt) (nx:Nat):Bool :=
 Z.bd.all (fun x=>Nat.blt x.1 c.nv && x.2.inB nx) && a.ret.inS (fun n=>Nat.blt n (c.nv + a.k)) && a.heap.all (SH.inS fun n=>Nat.blt n (c.nv + a.k))

def qfd (s:S):Nat->(S->Out)->Out
 | 0,k=>k s
 | n + 1,k=>if s.inNx then .fresh s.nx (qfd { s with nx:=s.nx + 1 } n k) else .stuck 30 0 0


def qfL:List SH->List Nat
 | []=>[]
 | .abs _ t :: l=>t :: qfL l
 | _ :: l=>qfL l
def qjh (l:List SH):List SH:=l.filter fun x=>x.isAbs.isNone
def qhI (t:Nat) (x:SH):Bool :=
 match x with
 | .abs _ t'=>Nat.beq t t'
 | _=>false
def qmb (x:SH):Bool :=
 match x with
 | .abs _ t=>Nat.ble 1001 t
 | _=>false
def qoD (s:S) (sel:SH->Bool) (t:Nat) (k:S->Out):Out :=
 if s.inNx && (Nat.beq t 1003 || ((s.heap.filter sel).all (fun x=>!(qmb x)) && Nat.blt t 1001)) then .pack (s.heap.filter sel) s.nx (k { s with heap:=.abs s.nx t :: s.heap.filter (fun x=>!sel x),nx:=s.nx + 1 }) else .stuck 60 t 0
def qlT (s:S) (sel:SH->Bool) (t:Nat) (k:S->Out):Out :=
 match s.heap.filter sel with
 | [.abs _ t']=>if Nat.beq t t' then k s else qoD s sel t k
 | _=>qoD s sel t k
def q5N (s:S) (t:Nat) (x:SH):Bool:=Nat.blt 500 t && Nat.blt t 1001 && !(s.heap.any (qhI t)) && qhI ((t - 501) % 100) x
def qeY (s:S) (left:List SH):List Nat->(S->Out)->Out
 | [],k=>k s
 | t :: ts,k=>qlT s (fun x=>(qhI t x || (Nat.beq (t % 2) 0 && x.isAbs.isNone) || q5N s t x) && left.any (SH.same x)) t fun s=>qeY s left ts k
def qfN (s:S):List Nat->(S->Out)->Out
 | [],k=>k s
 | t :: ts,k =>
  match s.heap.filter (qhI t) with
  | _ :: _ :: _=>qlT s (qhI t) t fun s=>qfN s ts k
  | _=>qfN s ts k

def qpv:T->Bool
 | .var _=>true
 | .c2 (.vcell _) _ _=>true
 | _=>false
def qag:List SH->List Nat
 | []=>[]
 | .abs n t :: l=>if Nat.beq t 1003 then qag l else n :: qag l
 | _ :: l=>qag l
def q4S (ow:List Nat) (t:Nat):Option Nat:=ow.findSome? fun x=>if Nat.ble 100000 x && Nat.beq (x % 10000) t then some (x / 10000 - 10) else none
def qey (ow:List Nat) (s:S) (t:Nat):List Nat :=
 match q4S ow t with
 | some g=>qag (s.heap.filter (qhI g))
 | none=>if ow.any (Nat.beq t) then qag s.heap else if ow.any (Nat.beq (t + 3000)) then qag s.ro else qag s.heap ++ qag s.ro
def qob (ow:List Nat) (x:T) (pat:List CK) (ms:List Nat) (base:Nat) (o:Out):Out:=if ow.any (Nat.beq 1003) then .viewL x pat ms base o else .view x pat ms base o
def qyw (ow:List Nat) (s:S) (t el:Nat) (pat:List CK) (k:S->Out):Out :=
 match qaB t s.env with
 | some (.one x) =>
  if qpv x && !((qey ow s t).isEmpty) then
   if s.inNx && Nat.blt t s.nt then
    qob ow x pat (qey ow s t) s.nx (k { s with
     env:=qgH t (.one (.vslice s.nx (.lit 0) (.dlen (.var (s.nx + 2))) (.var (s.nx + 1)) pat.length)) s.env
     vw:=(qey ow s t,.arr s.nx el pat (.var (s.nx + 2)) (.var (s.nx + 1))) :: s.vw
     nx:=s.nx + 3 })
   else .stuck 61 t 0
  else k s
 | _=>k s
def qoI (ow:List Nat) (s:S):List (Nat × Nat × List CK)->(S->Out)->Out
 | [],k=>k s
 | (t,el,pat) :: l,k=>qyw ow s t el pat fun s=>qoI ow s l k
def qyT (ow:List Nat) (s:S) (t j el:Nat) (pat:List CK) (k:S->Out):Out :=
 match qaB t s.env with
 | some (.agg cs) =>
  match cs[j]? with
  | some x =>
   if qpv x && !((qey ow s t).isEmpty) then
    if s.inNx && Nat.blt t s.nt then
     qob ow x pat (qey ow s t) s.nx (k { s with
      env:=qgH t (.agg (cs.set j (.vslice s.nx (.lit 0) (.dlen (.var (s.nx + 2))) (.var (s.nx + 1)) pat.length))) s.env
      vw:=(qey ow s t,.arr s.nx el pat (.var (s.nx + 2)) (.var (s.nx + 1))) :: s.vw
      nx:=s.nx + 3 })
    else .stuck 62 t j
   else k s
  | none=>k s
 | _=>k s
def qoF (ow:List Nat) (s:S):List (Nat × Nat × Nat × List CK)->(S->Out)->Out
 | [],k=>k s
 | (t,j,el,pat) :: l,k=>qyT ow s t j el pat fun s=>qoF ow s l k
def q4U (P:Program) (t:TypeId):Option (Nat × List CK) :=
 match P.underlying t with
 | some (.slice el)=>match qb2 P el with
  | some z=>some (el,z.map qas)
  | none=>none
 | _=>none
def qcr (P:Program) (t:TypeId) (x:Operand):List (Nat × Nat × List CK) :=
 match x,q4U P t with
 | .tmp k,some (el,pat)=>[(k,el,pat)]
 | _,_=>[]
def qj3 (hs:List SH):List SV->List Operand->List (Nat × Nat × List CK)
 | .one (.c3 (.vslice r _) _ _ _) :: ps,x :: xs =>
  match qaa r hs,x with
  | some (_,.arr _ ty pat _ _),.tmp k=>(k,ty,pat) :: qj3 hs ps xs
  | _,_=>qj3 hs ps xs
 | _ :: ps,_ :: xs=>qj3 hs ps xs
 | _,_=>[]
def qkc (f:FuncId):List Ctr->Option Ctr
 | []=>none
 | c :: l=>if Nat.beq c.fn f then some c else qkc f l
def q4x (P:Program) (ctrs:List Ctr) (s:S) (o:Oper):List (Nat × Nat × List CK) :=
 match o.op with
 | .call { callee:=.builtin .len,args,argTypes } =>
  match args.toList,argTypes.toList with
  | [x],[t]=>qcr P t x
  | _,_=>[]
 | .call { callee:=.builtin .append,args,argTypes } =>
  match args.toList,argTypes.toList with
  | [x,y],[t,t2]=>qcr P t x ++ qcr P t2 y
  | _,_=>[]
 | .call { callee:=.builtin .copy,args,argTypes } =>
  match args.toList,argTypes.toList with
  | [_,y],[_,t2]=>qcr P t2 y
  | _,_=>[]
 | .convert t _ x=>qcr P t x
 | .slice t x _ _ _=>qcr P t x
 | .indexAddr t x _=>qcr P t x
 | .binOp op t x y _ =>
  match op with
  | .eql=>qcr P t x ++ qcr P t y
  | .neq=>qcr P t x ++ qcr P t y
  | _=>[]
 | .call { callee:=.value f,args,.. } =>
  match opd s f with
  | some (.fn (.func fid) [] _)=>match qkc fid ctrs with
   | some c=>qj3 (c.heap ++ c.ro) c.args args.toList
   | none=>[]
  | _=>[]
 | _=>[]
def qik (hs:List SH) (t:Nat):Nat->List T->List (Nat × Nat × Nat × List CK)
 | j,.c3 (.vslice r _) _ _ _ :: ps =>
  match qaa r hs with
  | some (_,.arr _ ty pat _ _)=>(t,j,ty,pat) :: qik hs t (j + 1) ps
  | _=>qik hs t (j + 1) ps
 | j,_ :: ps=>qik hs t (j + 1) ps
 | _,[]=>[]
def qnw (hs:List SH):List SV->List Operand->List (Nat × Nat × Nat × List CK)
 | .agg ps :: l,.tmp k :: xs=>qik hs k 0 ps ++ qnw hs l xs
 | _ :: l,_ :: xs=>qnw hs l xs
 | _,_=>[]
def q3a (ctrs:List Ctr) (s:S) (o:Oper):List (Nat × Nat × Nat × List CK) :=
 match o.op with
 | .call { callee:=.value f,args,.. } =>
  match opd s f with
  | some (.fn (.func fid) [] _)=>match qkc fid ctrs with
   | some c=>qnw (c.heap ++ c.ro) c.args args.toList
   | none=>[]
  | _=>[]
 | _=>[]
def qt0 (ctrs:List Ctr) (s:S) (o:Oper):List Nat :=
 match o.op with
 | .call { callee:=.value f,.. } =>
  match opd s f with
  | some (.fn (.func fid) _ _)=>match qkc fid ctrs with
   | some c=>qfL c.heap
   | none=>[]
  | _=>[]
 | _=>[]

def qp6 (c:T) (b:Bool):T × Bool :=
 match c with
 | .c1 .not a=>(a,!b)
 | c=>(c,b)
def qly (s:S) (c:T) (k:Bool->S->Out):Out :=
 match qcn c s.pc with
 | some b=>k b s
 | none=>.br c (k true { s with pc:=qp6 c true :: s.pc }) (k false { s with pc:=qp6 c false :: s.pc })

def qlD (ops:Array Oper) (s:S) (o:Oper):Option (Option (T × Bool)) :=
 match o.guard with
 | none=>some none
 | some (j,want) =>
  match (ops[j]?).bind (·.dst) with
  | some t =>
   match qaB t s.env with
   | some (.one (.c1 .vbool c))=>some (some (c,want))
   | some (.tup [])=>some (some (.bl (!want),want))
   | _=>none
  | none=>none

def qcv (dst:Option Nat) (v:Option SV) (s:S):Option S :=
 match dst,v with
 | none,_=>some s
 | some d,some v=>if Nat.blt d s.nt then some { s with env:=qgH d v s.env } else none
 | some _,none=>none


def qwJ (s:S) (cs:List T):Bool:=cs.all fun c=>match qcn (qjw s c) s.pc with
 | some true=>true
 | _=>false
def qky (P:Program) (s:S):ResultVar->Option SV
 | .tmp t=>qaB t s.env
 | .cell a t =>
  match qaB a s.env,qcL P t,qK P t with
  | some (.one (.c1 (.vptr r p c) e)),some ag,some n =>
   match qaa r s.heap with
   | some (_,x) =>
    match qrV x e p c n with
    | some (cs,nd)=>if qwJ s nd then (if ag then some (.agg cs) else match cs with | [t]=>some (.one t) | _=>none) else none
    | none=>none
   | none=>none
  | _,_,_=>none
def quG:SV->Option (Bool × List T)
 | .one t=>some (false,[t])
 | .agg ts=>some (true,ts)
 | _=>none
def ql8 (P:Program) (s:S):List ResultVar->Option (List (Bool × List T))
 | []=>some []
 | r :: rs=>match (qky P s r).bind quG,ql8 P s rs with
  | some x,some l=>some (x :: l)
  | _,_=>none
def qjn (fn:Func) (s:S) (P:Program):Option SV :=
 match fn.results.toList with
 | [r]=>qky P s r
 | rs=>(ql8 P s rs).map .tup

def qw8 (me:Ctr) (s:S) (v:SV) (a:Alt):Option (List SH × Bool) :=
 match (mSV a.ret v { th:=me.nv,bd:=[],eqI:=[],eqB:=[],eqD:=[] }).bind (mHs true (qjh a.heap) s.heap []) with
 | some (rest,Z) =>
  match Z.left with
  | some cs=>some (rest,cs.isEmpty)
  | none=>none
 | none=>none
def qji (me:Ctr) (s:S) (v:SV) (strict:Bool):Nat->List Alt->Out
 | _,[]=>.stuck 9 0 0
 | ai,a :: r =>
  match qw8 me s v a with
  | none=>qji me s v strict (ai + 1) r
  | some (rest,exact) =>
   if strict && !exact then qji me s v strict (ai + 1) r else
   if !(v.inB s.nx) then .stuck 62 ai 0 else
   qeY s rest (qfL a.heap) fun s =>
    match (mSV a.ret v { th:=me.nv,bd:=[],eqI:=[],eqB:=[],eqD:=[] }).bind (mHs true a.heap s.heap []) with
    | some (_,Z) =>
     match Z.left with
     | some cs=>needs s cs fun _=>.ret ai Z.clean
     | none=>.stuck 63 ai 0
    | none=>.stuck 64 ai 0
def q2q (me:Ctr) (s:S) (v:SV) (l:List Alt):Bool:=l.any fun a=>match qw8 me s v a with
 | some (_,b)=>b
 | none=>false

def qc5:Code->Option Nat
 | .region id _ _=>some id
 | .seq a b=>(qc5 a).orElse fun _=>qc5 b
 | .cond _ a b=>(qc5 a).orElse fun _=>qc5 b
 | .block _ b=>qc5 b
 | .loop b=>qc5 b
 | .scope b=>qc5 b
 | _=>none

def qfB (key:Nat):List Inv->Nat->Option (Nat × Inv)
 | [],_=>none
 | x :: r,n=>if Nat.beq x.key key then some (n,x) else qfB key r (n + 1)
def q5p (s:S) (I:Inv):Bool:=((qgF I.env s.env { th:=1000,bd:=[],eqI:=[],eqB:=[],eqD:=[] }).bind (mHs true (qjh I.heap) s.heap [])).isSome
def qhu (key:Nat) (s:S):List Inv->Nat->Option (Nat × Inv)
 | [],_=>none
 | x :: r,n=>if Nat.beq x.key key && q5p s x then some (n,x) else qhu key s r (n + 1)
def qp8 (key:Nat) (s:S) (l:List Inv):Option (Nat × Inv) :=
 match qhu key s l 0 with
 | some x=>some x
 | none=>qfB key l 0

def q0r (x:T × T):Bool :=
 match x.1.isLit,x.2.isLit with
 | some a,some b=>decide (a = b)
 | _,_=>true

def q67:T->Option Bool
 | .c0 (.bl b)=>some b
 | _=>none
def qzi (x:T × T):Bool :=
 match q67 x.1,q67 x.2 with
 | some a,some b=>a == b
 | _,_=>true

def qhc (s:S):List SH:=(s.vw.filter fun x=>x.1.all s.piece).map (·.2)

def qoM (mip:List (Nat × Nat)):List (Nat × Nat)->List (Nat × Bd)
 | []=>[]
 | (k,r) :: l=>if Nat.ble 2000 k then match qeK k mip with
  | some R=>(r,.r R) :: qoM mip l
  | none=>qoM mip l
  else qoM mip l
def qgj (mip:List (Nat × Nat)) (s:S) (f:FuncId) (args:List SV):Nat->List Ctr->Option (Nat × Ctr × List SH × Sg)
 | _,[]=>none
 | n,c :: r =>
  if Nat.beq c.fn f then
   match ((qi8 c.args args { th:=0,bd:=qoM mip c.ip,eqI:=[],eqB:=[],eqD:=[] }).bind (mHs true c.heap s.heap [])) with
   | some (h,Z) =>
    match mHs false c.ro h (s.ro ++ qhc { s with heap:=h }) Z with
    | some (_,Z)=>if Z.eqI.all q0r && Z.eqB.all qzi then some (n,c,h,Z) else qgj mip s f args (n + 1) r
    | none=>qgj mip s f args (n + 1) r
   | none=>qgj mip s f args (n + 1) r
  else qgj mip s f args (n + 1) r

def qh4 (s:S) (c:Call):Option (FuncId × List SV) :=
 match c.callee with
 | .value f =>
  match opd s f,opds s c.args.toList with
  | some (.fn (.func fid) first caps),some as=>some (fid,(first.map .one) ++ as ++ (caps.map .one))
  | _,_=>none
 | _=>none

def qtn (q:Nat):List (Nat × Bd)->Bool
 | []=>false
 | (_,.r m) :: l=>Nat.beq q m || qtn q l
 | _ :: l=>qtn q l
def qwB (f:FuncId):List Ctr->Option Ctr
 | []=>none
 | c :: l=>if Nat.beq c.fn f && (match qeK 1004 c.ip with | some k=>Nat.beq k 9 | none=>false) then some c else qwB f l
def q54 (ctrs:List Ctr) (s:S) (o:Oper):Option (List SH) :=
 match o.op with
 | .call c =>
  match qh4 s c with
  | some (fid,as) =>
   match qwB fid ctrs with
   | some c =>
    match ((qi8 c.args as { th:=0,bd:=[],eqI:=[],eqB:=[],eqD:=[] }).bind (mHs false (qjh (c.heap ++ c.ro)) s.heap s.ro)) with
    | some (_,Z)=>some (s.heap.filter fun x=>match x.reg with
     | some q=>!(qtn q Z.bd)
     | none=>true)
    | none=>none
   | none=>none
  | none=>none
 | _=>none
def qqk (ctrs:List Ctr) (s:S) (o:Oper) (k:S->Out):Out :=
 match q54 ctrs s o with
 | some rest=>qeY s rest (qt0 ctrs s o) k
 | none=>qfN s (qt0 ctrs s o) k

def qpy (k:Nat->Alt->Out):Nat->List Alt->Out
 | _,[]=>.top
 | n,a :: r=>.both (k n a) (qpy k (n + 1) r)

def qkL (r:Nat):List (List Nat × SH)->Option (List Nat × SH)
 | []=>none
 | x :: l=>match x.2.reg with
  | some q=>if Nat.beq q r then some x else qkL r l
  | none=>qkL r l
def qgv (m:Nat):List SH->Nat->Option (Nat × Nat)
 | [],_=>none
 | .abs n t :: l,k=>if Nat.beq n m then some (k,t) else qgv m l (k + 1)
 | _ :: l,k=>qgv m l (k + 1)
structure PutR where
 m:Nat
 rg:Nat
 k:Nat
 tag:Nat
 pat:List CK
 d:T
 e:T
 c:Nat
 vs:List T
def qsa (P:Program) (s:S) (o:Oper):Option PutR :=
 match o.op,o.dst with
 | .store t a v,none =>
  match opd s a,(opd s v).bind SV.cells,qK P t with
  | some (.one (.c1 (.vptr r p c) e)),some vs,some n =>
   match qaa r s.heap,qkL r s.vw with
   | none,some ([m],.arr r' _ pat d _) =>
    match qgv m s.heap 0 with
    | some (k,tag)=>if Nat.blt tag 1001 && Nat.beq r' r && Nat.beq vs.length n && Nat.beq p pat.length && Nat.ble (c + n) p && Nat.ble 1 p then some ⟨m,r,k,tag,pat,d,e,c,vs⟩ else none
    | none=>none
   | _,_=>none
  | _,_,_=>none
 | _,_=>none

def qzp (P:Program) (s:S) (o:Oper):Option (Nat × SH × SV) :=
 match o.op with
 | .convert src dst x =>
  if Nat.beq src dst then
   match P.underlying src with
   | some (.slice e) =>
    match P.underlying e,opd s x with
    | some (.int .u8),some (.one (.c3 (.vslice r p) off len cap)) =>
     match qaa r s.heap with
     | some (k,.cells r' ty cs)=>if Nat.beq r r' then some (k,.cells r' ty cs,.one (.c3 (.vslice r p) off len cap)) else none
     | _=>none
    | _,_=>none
   | _=>none
  else none
 | _=>none
def qlV (s:S) (i:Nat) (o:Oper) (k:S->Out) (b:MB):Out :=
 match qcv o.dst b.val { s with heap:=b.heap,nx:=s.nx + b.fresh } with
 | some s=>k s
 | none=>.stuck 69 i 0
def qrZ (E:Ctx) (s:S) (i:Nat) (o:Oper) (k:S->Out):Out :=
 match o.op with
 | .call { callee:=.value f,args,argTypes } =>
  match qh4 s { callee:=.value f,args,argTypes } with
  | none=>.stuck 10 i 0
  | some (fid,as) =>
   match qgj E.me.ip s fid as 0 E.ctrs with
   | none=>.stuck 11 fid i
   | some (ci,c,h,Z) =>
    match Z.left with
    | none=>.stuck 12 fid i
    | some cs=>needs s cs fun s=>.pre ci Z.clean <|
     qpy (fun ai a=>if !(qzP Z c a s.nx) then .stuck 19 fid i else qfd { s with heap:=h } a.k fun s' =>
      match Sg.subSV { Z with bd:=qcY c.nv s.nx a.k ++ Z.bd } a.ret,Sg.subHs { Z with bd:=qcY c.nv s.nx a.k ++ Z.bd } a.heap with
      | some v,some hs =>
       match qcv o.dst (some v) { s' with heap:=hs ++ s'.heap } with
       | some s''=>.post ci ai Z.clean s.nx (k s'')
       | none=>.stuck 13 fid i
      | _,_=>.stuck 14 fid i) 0 c.alts
 | _ =>
  match qyJ E.P E.me.ip s o with
  | some r=>if s.inNx then .mop r.k s.nx (qlV s i o k r.a) (match r.b with | some b=>qlV s i o k b | none=>.top) else .stuck 70 i 0
  | none =>
  match qsa E.P s o with
  | some r=>needs s [qV r.e,qq .lss r.e (qP r.d)] fun s =>
   if s.inNx then .put r.m r.rg r.pat r.d r.e r.c r.vs s.nx (k { s with heap:=s.heap.set r.k (.abs s.nx r.tag),nx:=s.nx + 1 }) else .stuck 66 i 0
  | none =>
  match qzp E.P s o with
  | some (fk,y,v) =>
   if s.inNx then .fresh s.nx <|
    match qcv o.dst (some v) { s with heap:=.abs s.nx 1001 :: s.heap.eraseIdx fk,vw:=([s.nx],y) :: s.vw,nx:=s.nx + 1 } with
    | some s'=>k s'
    | none=>.stuck 67 i 0
   else .stuck 68 i 0
  | none =>
  match qyq E.P E.me.ip s o with
  | none=>.stuck 15 i 0
  | some r=>needs s r.needs fun s=>qfd s r.fresh fun s =>
   match qcv o.dst r.val { s with heap:=r.heap } with
   | some s=>k s
   | none=>.stuck 16 i 0
def qdI (s:S) (t:T):Option T :=
 match t with
 | .c3 (.vslice r _) _ _ _ =>
  match qaa r s.heap with
  | some (_,.arr _ _ _ d cap)=>some (qq .leq (qP d) cap)
  | _=>none
 | _=>none
def qpJ (s:S) (x:Operand):Option T :=
 match opd s x with
 | some (.agg ts)=>ts.findSome? (qdI s)
 | some (.one (.c1 (.vptr r _ _) _)) =>
  match qaa r s.heap with
  | some (_,.cells _ _ ts)=>ts.findSome? (qdI s)
  | _=>none
 | _=>none
def quE (ip:List (Nat × Nat)) (s:S) (o:Oper):Option T :=
 let at_ (x:Operand):Option T :=
  match opd s x with
  | some (.one (.c3 (.vslice r _) _ _ _)) =>
   match qaa r s.heap with
   | some (_,.arr _ _ _ d cap)=>some (qq .leq (qP d) cap)
   | _=>none
  | _=>none
 match o.op with
 | .slice _ x _ _ _=>at_ x
 | .call { callee:=.builtin .append,args,.. } =>
  if qrY o ip 0 then
   match args.toList with
   | x :: _=>at_ x
   | []=>none
  else none
 | .call { callee:=.builtin _,.. }=>none
 | .call { args,.. } =>
  match qeK 1005 ip with
  | some k=>if Nat.beq k 9 then args.toList.findSome? at_ else if Nat.beq k 8 then args.toList.findSome? (qpJ s) else none
  | none=>none
 | _=>none
def qoP (ip:List (Nat × Nat)) (s:S) (o:Oper) (k:S->Out):Out :=
 match quE ip s o with
 | some c=>match qcn c s.pc with
  | some _=>k s
  | none=>.know c (k { s with pc:=(c,true) :: s.pc })
 | none=>k s
def qxt (ip:List (Nat × Nat)) (s:S) (o:Oper) (k:S->Out):Out:=if qrY o ip 2 then qoP ip s o k else k s
def qmN (s:S) (x:Operand):List T :=
 match opd s x with
 | some (.one (.c1 (.vptr r _ _) _)) =>
  match qaa r s.heap with
  | some (_,.cells _ _ ts)=>ts.filterMap (qdI s)
  | _=>[]
 | some (.one t)=>[t].filterMap (qdI s)
 | some (.agg ts)=>ts.filterMap (qdI s)
 | _=>[]
def qpP (ip:List (Nat × Nat)) (s:S) (o:Oper):List T :=
 match o.op with
 | .call { args,.. } =>
  match qeK 1005 ip with
  | some k=>if Nat.beq k 7 then args.toList.flatMap (qmN s) else []
  | none=>[]
 | _=>[]
def ql4 (s:S):List T->(S->Out)->Out
 | [],k=>k s
 | c :: cs,k =>
  match qcn c s.pc with
  | some _=>ql4 s cs k
  | none=>.know c (ql4 { s with pc:=(c,true) :: s.pc } cs k)
def q2p (P:Program) (s:S) (o:Oper) (k:S->Out):Out:=if q40 P o then qfN s [1003] k else k s
def qw6 (ow:List Nat) (t:Nat):Option Nat:=ow.findSome? fun x=>if Nat.ble 50000000 x && Nat.beq (x % 10000) t then some (x / 10000 - 5000) else none
def qyt (ow:List Nat) (s:S) (t el:Nat) (pat:List CK) (k:S->Out):Out :=
 match qw6 ow t with
 | none=>k s
 | some g =>
  match qaB t s.env with
  | some (.one x) =>
   if qpv x then
    match qgf g s.heap with
    | some (j,m) =>
     if s.inNx && Nat.blt t s.nt then
      .take x el pat m s.nx (k { s with
       env:=qgH t (.one (.vslice (s.nx + 1) (.lit 0) (.dlen (.var (s.nx + 3))) (.var (s.nx + 2)) pat.length)) s.env
       heap:=.arr (s.nx + 1) el pat (.var (s.nx + 3)) (.var (s.nx + 2)) :: .abs s.nx g :: s.heap.eraseIdx j
       nx:=s.nx + 4 })
     else .stuck 68 t 0
    | none=>k s
   else k s
  | _=>k s
def qxU (P:Program) (ow:List Nat) (s:S) (o:Oper) (k:S->Out):Out :=
 match o.op with
 | .call { callee:=.builtin .append,args,argTypes } =>
  match args.toList,argTypes.toList with
  | [x,_],[t,_]=>match qcr P t x with
   | [(t,el,pat)]=>qyt ow s t el pat k
   | _=>k s
  | _,_=>k s
 | _=>k s
def qql (E:Ctx) (s:S) (i:Nat) (o:Oper) (k:S->Out):Out :=
 qqk E.ctrs s o fun s=>q2p E.P s o fun s=>qxU E.P E.me.ow s o fun s=>qoI E.me.ow s (q4x E.P E.ctrs s o) fun s=>qoF E.me.ow s (q3a E.ctrs s o) fun s=>qoP E.me.ip s o fun s=>ql4 s (qpP E.me.ip s o) fun s=>qrZ E (qfR E.me.ip s o) i o k


def qdx:List SH->List SH->Bool
 | [],_=>true
 | _ :: _,[]=>false
 | x :: xs,y :: ys=>if x.same y then qdx xs ys else qdx (x :: xs) ys

def q5t (md:Region.Mode) (acc:Array Nat) (l:List Edge):Nat:=l.foldl (fun m e=>if Region.binds md e then m ||| 2 ^ e.on ||| acc.getD e.on 0 else m) 0
def qrX (md:Region.Mode):List Oper->Array Nat->Array Nat
 | [],acc=>acc
 | o :: r,acc=>qrX md r (acc.push (q5t md acc o.after.toList))
def qfx (md:Region.Mode) (ops:Array Oper) (A:List Nat) (j:Nat):Bool :=
 match (qrX md ops.toList #[])[j]? with
 | some m=>A.all fun i=>m.testBit i
 | none=>false
def qqT:Op->Bool
 | .store ..=>false
 | .alloc ..=>false
 | .box ..=>false
 | .makeSlice ..=>false
 | .buildSlice ..=>false
 | .call { callee:=.builtin .len,.. }=>true
 | .call { callee:=.builtin .min,.. }=>true
 | .call { callee:=.builtin .max,.. }=>true
 | .call _=>false
 | _=>true
def qs3 (ops:Array Oper):List Nat:=go ops.toList 0
where
 go:List Oper->Nat->List Nat
  | [],_=>[]
  | o :: r,i=>if qqT o.op then i :: go r (i + 1) else go r (i + 1)
def q1x (ops:Array Oper):List Nat:=go ops.toList 0 []
where
 go:List Oper->Nat->List Nat->List Nat
  | [],_,acc=>acc.reverse
  | o :: r,i,acc=>if qqT o.op && o.after.toList.all (fun e=>!(Region.binds .any e) || acc.contains e.on) then go r (i + 1) (i :: acc) else go r (i + 1) acc
def q59:Op->Bool
 | .store ..=>true
 | .call { callee:=.builtin .append,.. }=>true
 | _=>false
def q44 (ops:Array Oper) (A:List Nat):Bool:=go ops.toList 0
where
 go:List Oper->Nat->Bool
  | [],_=>true
  | o :: r,i=>(!q59 o.op || qfx .any ops A i) && go r (i + 1)
def qwg (ops:Array Oper):List Nat:=if q44 ops (qs3 ops) then qs3 ops else q1x ops
def qgu (ip:List (Nat × Nat)) (ops:Array Oper):List Nat :=
 match qeK (1100 + ops.size) ip with
 | some _=>q1x ops
 | none =>
  match qeK 1001 ip with
  | some k=>if Nat.beq k 9 then qs3 ops else qwg ops
  | none=>qwg ops
def q5I (ip:List (Nat × Nat)) (ops:Array Oper):List Oper:=go ops.toList 0
where
 go:List Oper->Nat->List Oper
  | [],_=>[]
  | o :: r,i=>if qfx .any ops (qgu ip ops) i then go r (i + 1) else o :: go r (i + 1)

def q6b (ip:List (Nat × Nat)):Bool :=
 match qeK 1000 ip with
 | some k=>Nat.beq k 9
 | none=>false
inductive Pick where
 | br (c:T)
 | take (i:Nat)
 | all
 deriving Inhabited

def qlk (ops:Array Oper) (s:S) (o:Oper):Option (Option Bool) :=
 match qlD ops s o with
 | none=>none
 | some none=>some (some true)
 | some (some (c,want))=>match qcn c s.pc with
  | some b=>some (some (b == want))
  | none=>some none

def qsv (E:Ctx) (s:S) (st:List SH) (o:Oper):Option R1 :=
 match qo7 E.P E.me.ip { s with heap:=st } o with
 | some r=>if Nat.beq r.fresh 0 && r.val.isSome then some r else none
 | none=>none

def qo6 (ops:Array Oper) (s:S):List Nat->Option T
 | []=>none
 | i :: l=>match ops[i]? with
  | none=>qo6 ops s l
  | some o=>match qlD ops s o with
   | some (some (c,_))=>match qcn c s.pc with
    | none=>some c
    | some _=>qo6 ops s l
   | _=>qo6 ops s l
def qjY (E:Ctx) (ops:Array Oper) (listed:Array Bool) (s:S) (st:List SH):List Nat->Option Nat
 | []=>none
 | i :: l=>match ops[i]? with
  | none=>qjY E ops listed s st l
  | some o =>
   match qlk ops s o with
   | some (some g)=>if (!g || (qsv E s st o).isSome) && (qgu E.me.ip ops).contains i && Region.free .any ops listed i then some i else qjY E ops listed s st l
   | _=>qjY E ops listed s st l
def q1T (E:Ctx) (ops:Array Oper) (listed:Array Bool) (s:S) (st:List SH) (R:List Nat):Pick :=
 match qo6 ops s R with
 | some c=>.br c
 | none =>
  if qdx st s.heap then
   match qjY E ops listed s st R with
   | some i=>.take i
   | none=>.all
  else .all

def qpA (k:Nat->Out):List Nat->Out
 | []=>.top
 | i :: l=>.both (k i) (qpA k l)

def SH.isCells:SH->Bool
 | .cells ..=>true
 | _=>false
def q1M (E:Ctx) (s:S) (f:Operand):Bool :=
 match qeK 1002 E.me.ip,opd s f with
 | some k,some (.fn (.func fid) _ _)=>Nat.beq k 9 && E.ctrs.all fun c=>!(Nat.beq c.fn fid) || c.heap.isEmpty
 | _,_=>false
def qtc (E:Ctx) (s:S) (ops:List Oper):List SH:=go ops s s.heap
where
 go:List Oper->S->List SH->List SH
  | [],_,st=>st
  | o :: r,s,st =>
   match o.op with
   | .call { callee:=.value f,args,argTypes } =>
    match qh4 s { callee:=.value f,args,argTypes } with
    | some (fid,as) =>
     match qgj E.me.ip s fid as 0 E.ctrs with
     | some (_,_,h,_)=>go r s (st.filter fun x=>h.any fun y=>x.same y)
     | none=>go r s (st.filter SH.isCells)
    | none=>if q1M E s f then go r s st else go r s (st.filter SH.isCells)
   | _ =>
    match qo E.P s o with
    | some r1=>go r { s with env:=(match r1.val,o.dst with | some v,some d=>qgH d v s.env | _,_=>s.env),heap:=r1.heap,nx:=s.nx + r1.fresh } (st.filter fun x=>r1.heap.any fun y=>x.same y)
    | none =>
     match o.op with
     | .store _ a _=>match opd s a with
      | some (.one (.c1 (.vptr rg _ _) _))=>go r s (st.filter fun x=>!(match x.reg with | some q=>Nat.beq q rg | none=>false))
      | _=>[]
     | .call { callee:=.builtin .append,args,.. }=>match args[0]?.bind (opd s) with
      | some (.one (.c3 (.vslice rg _) _ _ _))=>go r s (st.filter fun x=>!(match x.reg with | some q=>Nat.beq q rg | none=>false))
      | _=>match (args[0]?:Option Operand) with
       | some (.tmp t)=>if (qw6 E.me.ow t).isSome then go r s (st.filter fun x=>x.isAbs.isNone) else go r s st
       | _=>go r s st
     | _=>go r s st

def qiP (E:Ctx) (s:S) (ops:Array Oper):List SH:=(if q6b E.me.ip then qtc E s ops.toList else qtc E s (q5I E.me.ip ops)).filter fun x=>!(qhI 1003 x)

def q4c (I:Inv) (li base:Nat) (s:S):Out :=
 match (qgF I.env s.env { th:=1000,bd:=[],eqI:=[],eqB:=[],eqD:=[] }).bind (mHs true I.heap s.heap []) with
 | some (_,Z) =>
  match Z.left with
  | some cs=>needs s cs fun _=>.back li base Z.clean
  | none=>.stuck 2 li 0
 | none=>.stuck 3 li 1
def q3M (I:Inv) (li:Nat) (s:S) (k:S->Out):Out :=
 match (qgF I.env s.env { th:=1000,bd:=[],eqI:=[],eqB:=[],eqD:=[] }).bind (mHs true I.heap s.heap []) with
 | none=>.stuck 23 li 1
 | some (_,Z) =>
  match Z.left with
  | none=>.stuck 24 li 0
  | some cs=>needs s cs fun s=>if !(s.inNx && I.fits s.nx) then .stuck 28 li 0 else .inv li s.nx Z.clean <|
   let Z1:Sg:={ th:=1000,bd:=qcY 1000 s.nx I.nv,eqI:=[],eqB:=[],eqD:=[] }
   match Z1.subEnv I.env,Z1.subHs I.heap with
   | some env,some hs=>qfd s I.nv fun s'=>if !({ s' with env:=env,heap:=hs,vw:=[] }:S).inNx then .stuck 29 li 0 else
     .hyp li s.nx (k { s' with env:=env,heap:=hs,vw:=[] })
   | _,_=>.stuck 25 li 0

def q6Z (E:Ctx) (b:Code):Option (Nat × Inv):=(qc5 b).bind fun key=>qfB (key + 1000000) E.invs 0
def q6i (I:Inv) (li base:Nat) (s:S):Out :=
 match (qgF I.env s.env { th:=1000,bd:=[],eqI:=[],eqB:=[],eqD:=[] }).bind (mHs true I.heap s.heap []) with
 | some (_,Z) =>
  match Z.left with
  | some cs=>needs s cs fun _=>.cut li base Z.clean
  | none=>.stuck 62 li 0
 | none=>.stuck 63 li 1
def q3P (I:Inv) (li:Nat) (s:S) (k:S->Out):Out :=
 if !(s.inNx && I.fits s.nx) then .stuck 64 li 0 else
 let Z1:Sg:={ th:=1000,bd:=qcY 1000 s.nx I.nv,eqI:=[],eqB:=[],eqD:=[] }
 match Z1.subEnv I.env,Z1.subHs I.heap with
 | some env,some hs=>qfd s I.nv fun s'=>if !({ s' with env:=env,heap:=hs,vw:=[] }:S).inNx then .stuck 65 li 0 else
   .hyp li s.nx (k { s' with env:=env,heap:=hs,vw:=[] })
 | _,_=>.stuck 66 li 0

def qY (E:Ctx) (fn:Func):Nat->List KI->S->Out
 | 0,_,_=>.stuck 0 0 0
 | n + 1,[],s =>
  match qjn fn s E.P with
  | some v=>qji E.me s v (q2q E.me s v E.me.alts) 0 E.me.alts
  | none=>.stuck 1 0 0
 | n + 1,.blk _ :: K,s=>qY E fn n K s
 | n + 1,.again c :: K,s=>qY E fn n (.code c :: .again c :: K) s
 | n + 1,.lend li base :: _,s =>
  match E.invs[li]? with
  | some I =>
   match (qgF I.env s.env { th:=1000,bd:=[],eqI:=[],eqB:=[],eqD:=[] }).bind (mHs true (qjh I.heap) s.heap []) with
   | some (rest,_)=>qeY s rest (qfL I.heap) fun s=>q4c I li base s
   | none=>.stuck 3 li 0
  | none=>.stuck 4 li 0
 | n + 1,.cutE li base :: _,s =>
  match E.invs[li]? with
  | some I =>
   match (qgF I.env s.env { th:=1000,bd:=[],eqI:=[],eqB:=[],eqD:=[] }).bind (mHs true (qjh I.heap) s.heap []) with
   | some (rest,_)=>qeY s rest (qfL I.heap) fun s=>q6i I li base s
   | none=>.stuck 63 li 0
  | none=>.stuck 61 li 0
 | n + 1,.ops _ [] :: K,s=>qY E fn n K s
 | n + 1,.ops ops (i :: l) :: K,s =>
  match ops[i]? with
  | none=>qY E fn n (.ops ops l :: K) s
  | some o =>
   match qlD ops s o with
   | none=>.stuck 17 i 0
   | some none=>qql E s i o (fun s=>qY E fn n (.ops ops l :: K) s)
   | some (some (c,want))=>qly s c fun b s=>if b = want then qql E s i o (fun s=>qY E fn n (.ops ops l :: K) s) else
    match qcv o.dst (some (.tup [])) s with
    | some s=>qY E fn n (.ops ops l :: K) s
    | none=>.stuck 18 i 0
 | n + 1,.any ops listed left st :: K,s =>
  match Region.ready .any ops listed with
  | []=>qY E fn n K s
  | j :: R =>
   match left with
   | 0=>.stuck 41 0 0
   | left + 1 =>
    match q1T E ops listed s st (j :: R) with
    | .br c=>qly s c fun _ s=>qY E fn n (.any ops listed (left + 1) st :: K) s
    | .take i =>
     if !(qdx st s.heap && Region.noSelect ops && (qgu E.me.ip ops).contains i && Region.free .any ops listed i && (j :: R).contains i) then .stuck 42 i 0 else
     match ops[i]? with
     | none=>.stuck 43 i 0
     | some o =>
      match qlk ops s o with
      | some (some false) =>
       match qcv o.dst (some (.tup [])) s with
       | some s=>qY E fn n (.any ops (listed.setIfInBounds i true) left st :: K) s
       | none=>.stuck 44 i 0
      | some (some true)=>qxt E.me.ip s o fun s =>
       match qsv E s st o with
       | some r=>needs s r.needs fun s =>
        match qcv o.dst r.val s with
        | some s=>qY E fn n (.any ops (listed.setIfInBounds i true) left st :: K) s
        | none=>.stuck 45 i 0
       | none=>.stuck 46 i 0
      | _=>.stuck 47 i 0
    | .all=>qpA (fun i =>
      match ops[i]? with
      | none=>.stuck 43 i 0
      | some o =>
       match qlk ops s o with
       | some (some true)=>qql E s i o fun s=>if !(qfx .any ops (qgu E.me.ip ops) i || qdx st s.heap) then .stuck 50 i 0 else qY E fn n (.any ops (listed.setIfInBounds i true) left st :: K) s
       | some (some false) =>
        if !(qfx .any ops (qgu E.me.ip ops) i || qdx st s.heap) then .stuck 51 i 0 else
        match qcv o.dst (some (.tup [])) s with
        | some s=>qY E fn n (.any ops (listed.setIfInBounds i true) left st :: K) s
        | none=>.stuck 48 i 0
       | _=>.stuck 49 i 0) (j :: R)
 | n + 1,.code c :: K,s =>
  match c with
  | .skip=>qY E fn n K s
  | .label _=>qY E fn n K s
  | .seq a b =>
   match q6Z E b with
   | some (li,I)=>.both (qY E fn n (.code a :: .cutE li s.nx :: .code b :: K) s) (q3P I li s fun s'=>qY E fn n (.code b :: K) s')
   | none=>qY E fn n (.code a :: .code b :: K) s
  | .block id b=>qY E fn n (.code b :: .blk id :: K) s
  | .exit id =>
   match qeL id K with
   | some K'=>qY E fn n K' s
   | none=>.stuck 20 id 0
  | .ret=>qY E fn n [] s
  | .cond c a b =>
   match opd s c with
   | some (.one (.c1 .vbool t))=>qly s t fun x s=>qY E fn n (.code (if x then a else b) :: K) s
   | _=>.stuck 21 0 0
  | .region _ ops false=>qY E fn n (.ops ops (List.range ops.size) :: K) s
  | .region _ ops true =>
   if E.P.follows .mixedOrders && Region.noSelect ops && s.inNx then
    if (qiP E s ops).all (SH.inB s.nx) then qY E fn n (.any ops (Array.replicate ops.size false) ops.size (qiP E s ops) :: K) s else .stuck 32 0 0
   else .stuck 31 0 0
  | .loop b =>
   match (qc5 b).bind fun key=>qp8 key s E.invs with
   | none=>qY E fn n (.code b :: .again b :: K) s
   | some (li,I) =>
    match (qgF I.env s.env { th:=1000,bd:=[],eqI:=[],eqB:=[],eqD:=[] }).bind (mHs true (qjh I.heap) s.heap []) with
    | none=>.stuck 23 li 0
    | some (rest,_)=>qeY s rest (qfL I.heap) fun s=>q3M I li s fun s'=>qY E fn n (.code b :: .lend li (s'.nx - I.nv) :: K) s'
  | _=>.stuck 26 0 0

end Go.Eng

set_option linter.unusedSimpArgs false
set_option linter.unusedVariables false
namespace Go.Eng
open Go

theorem qaU {a b:Nat} (h:a < b):Nat.blt a b = true:=by simpa using h
theorem qdU {a b:Nat} (h:¬ a < b):Nat.blt a b = false:=by
 cases h':Nat.blt a b
 ·rfl
 ·exact absurd (by simpa using h') h


theorem T.den_congr {n:Nat} {ρ ρ':Env} (h:∀ m,m < n->ρ m = ρ' m):∀ (t:T),t.inB n = true->t.den ρ = t.den ρ'
 | .var m,hb=>by simp [T.inB] at hb; simpa [T.den] using h m hb
 | .c0 o,hb=>by
  cases o <;> simp_all [T.inB,T.den,O0.den]
 | .c1 o a,hb=>by
  cases o <;> (simp only [T.inB,Bool.and_eq_true,Nat.blt_eq] at hb) <;>
   first
    | (simp only [T.den]; rw [T.den_congr h a hb]; rfl)
    | (simp only [T.den]; rw [T.den_congr h a hb.2]; simp [O1.den,h _ hb.1])
 | .c2 o a b,hb=>by
  simp only [T.inB,Bool.and_eq_true] at hb
  simp only [T.den]; rw [T.den_congr h a hb.1,T.den_congr h b hb.2]
 | .c3 o a b c,hb=>by
  cases o <;> (simp only [T.inB,Bool.and_eq_true,Nat.blt_eq] at hb)
  ·simp only [T.den]; rw [T.den_congr h a hb.1.1.2,T.den_congr h b hb.1.2,T.den_congr h c hb.2]; simp [O3.den,h _ hb.1.1.1]
  all_goals (simp only [T.den]; rw [T.den_congr h a hb.1.1,T.den_congr h b hb.1.2,T.den_congr h c hb.2]; rfl)
 | .ife a b x y,hb=>by
  simp only [T.inB,Bool.and_eq_true] at hb
  simp only [T.den]; rw [T.den_congr h a hb.1.1.1,T.den_congr h b hb.1.1.2,T.den_congr h x hb.1.2,T.den_congr h y hb.2]

theorem qaL {n:Nat} {ρ ρ':Env} (h:∀ m,m < n->ρ m = ρ' m) (ts:List T) (hb:ts.all (T.inB n) = true):qb ρ ts = qb ρ' ts:=by
 unfold qb
 refine List.map_congr_left fun t ht=>?_
 rw [T.den_congr h t (List.all_eq_true.1 hb t ht)]

theorem SV.den_congr {n:Nat} {ρ ρ':Env} (h:∀ m,m < n->ρ m = ρ' m) (v:SV) (hb:v.inB n = true):v.den ρ = v.den ρ':=by
 cases v with
 | one t=>simp only [SV.inB] at hb; simp only [SV.den]; rw [T.den_congr h t hb]
 | agg ts=>simp only [SV.inB] at hb; simp only [SV.den]; rw [qaL h ts hb]
 | tup vs =>
  simp only [SV.inB] at hb; simp only [SV.den]
  congr 2
  refine List.map_congr_left fun x hx=>?_
  have:=List.all_eq_true.1 hb x hx
  obtain ⟨g,ts⟩:=x
  cases g <;> simp only [qet] <;> rw [qaL h ts this]
 | fn f a b =>
  simp only [SV.inB,Bool.and_eq_true] at hb; simp only [SV.den]
  rw [qaL h a hb.1,qaL h b hb.2]

theorem SH.den_congr {n:Nat} {ρ ρ':Env} (h:∀ m,m < n->ρ m = ρ' m) (x:SH) (hb:x.inB n = true) (hp:Hp):x.den ρ hp↔x.den ρ' hp:=by
 cases x with
 | cells r ty cs=>simp only [SH.inB,Bool.and_eq_true,Nat.blt_eq] at hb; simp only [SH.den]; rw [qaL h cs hb.2,h r hb.1]
 | arr r ty pat d cap =>
  simp only [SH.inB,Bool.and_eq_true,Nat.blt_eq] at hb; simp only [SH.den]
  rw [T.den_congr h d hb.1.2,T.den_congr h cap hb.2,h r hb.1.1]
 | abs m t=>simp only [SH.inB,Nat.blt_eq] at hb; simp only [SH.den]; rw [h m hb]

theorem SH.roden_congr {n:Nat} {ρ ρ':Env} (h:∀ m,m < n->ρ m = ρ' m) (x:SH) (hb:x.inB n = true) (hp:Hp):x.roden ρ hp↔x.roden ρ' hp:=by
 cases x with
 | cells r ty cs=>simp only [SH.inB,Bool.and_eq_true,Nat.blt_eq] at hb; simp only [SH.roden]; rw [qaL h cs hb.2,h r hb.1]
 | arr r ty pat d cap =>
  simp only [SH.inB,Bool.and_eq_true,Nat.blt_eq] at hb; simp only [SH.roden]
  rw [T.den_congr h d hb.1.2,h r hb.1.1]
 | abs m t=>simp only [SH.inB,Nat.blt_eq] at hb; simp only [SH.roden]; rw [h m hb]

theorem qat {n:Nat} {ρ ρ':Env} (h:∀ m,m < n->ρ m = ρ' m):∀ (l:List SH),l.all (SH.inB n) = true->∀ hp,qX ρ l hp->qX ρ' l hp
 | [],_,_,_=>trivial
 | x :: xs,hb,hp,⟨h1,h2,hd,hu,hx,hs⟩=>by
  simp only [List.all_cons,Bool.and_eq_true] at hb
  exact ⟨h1,h2,hd,hu,(SH.den_congr h x hb.1 h1).1 hx,qat h xs hb.2 h2 hs⟩


def Bd.den (ρ:Env):Bd->U
 | .t x=>x.den ρ
 | .r m=>ρ m
 | .nil=>{}

def Sg.env (Z:Sg) (ρ:Env):Env:=fun n =>
 if n < Z.th then ρ n else
 match look n Z.bd with
 | some b=>b.den ρ
 | none=>{}

theorem Sg.env_lt {Z:Sg} {ρ:Env} {n:Nat} (h:n < Z.th):Z.env ρ n = ρ n:=by simp [Sg.env,h]
theorem Sg.env_look {Z:Sg} {ρ:Env} {n:Nat} {b:Bd} (h:¬ n < Z.th) (hl:look n Z.bd = some b):Z.env ρ n = b.den ρ:=by simp [Sg.env,h,hl]

theorem Sg.reg_env {Z:Sg} {ρ:Env} {r r':Nat} (h:Z.reg r = some r'):Z.env ρ r = ρ r':=by
 unfold Sg.reg at h
 by_cases hr:r < Z.th
 ·have:=qaU hr
  simp only [this,if_true,Option.some.injEq] at h
  rw [Sg.env_lt hr,h]
 ·have:=qdU hr
  simp only [this,Bool.false_eq_true,if_false] at h
  split at h
  ·rename_i m hl
   simp only [Option.some.injEq] at h
   rw [Sg.env_look hr hl,<- h]; rfl
  ·simp at h

theorem Sg.sub_den {Z:Sg} {ρ:Env}:∀ {t t':T},Z.sub t = some t'->t'.den ρ = t.den (Z.env ρ)
 | .var n,t',h=>by
  simp only [Sg.sub] at h
  by_cases hr:n < Z.th
  ·have:=qaU hr
   simp only [this,if_true,Option.some.injEq] at h
   rw [<- h]; simp [T.den,Sg.env_lt hr]
  ·have:=qdU hr
   simp only [this,Bool.false_eq_true,if_false] at h
   split at h
   ·rename_i t hl; simp only [Option.some.injEq] at h; rw [<- h]; simp [T.den,Sg.env_look hr hl,Bd.den]
   ·rename_i t hl; simp only [Option.some.injEq] at h; rw [<- h]; simp [T.den,Sg.env_look hr hl,Bd.den]
   ·simp at h
 | .c0 o,t',h=>by
  cases o
  case isnil r =>
   simp only [Sg.sub] at h
   by_cases hr:r < Z.th
   ·have:=qaU hr
    simp only [this,if_true,Option.some.injEq] at h
    rw [<- h]; simp [T.den,O0.den,Sg.env_lt hr]
   ·have:=qdU hr
    simp only [this,Bool.false_eq_true,if_false] at h
    split at h
    ·rename_i t hl; simp only [Option.some.injEq] at h; rw [<- h]; simp [T.den,O0.den,Sg.env_look hr hl,Bd.den]
    ·rename_i hl; simp only [Option.some.injEq] at h; rw [<- h]; simp [T.den,O0.den,Sg.env_look hr hl,Bd.den]
    ·simp at h
  all_goals (simp only [Sg.sub,Option.some.injEq] at h; rw [<- h]; rfl)
 | .c1 o a,t',h=>by
  cases o
  case vptr r p c =>
   simp only [Sg.sub] at h
   split at h
   ·rename_i r' a' hr ha
    simp only [Option.some.injEq] at h
    rw [<- h]; simp only [T.den,O1.den]; rw [Sg.sub_den ha,Sg.reg_env hr]
   ·simp at h
  all_goals
   simp only [Sg.sub,Option.map_eq_some_iff] at h
   obtain ⟨a',ha,rfl⟩:=h
   simp only [T.den]; rw [Sg.sub_den ha]; rfl
 | .c2 o a b,t',h=>by
  simp only [Sg.sub] at h
  split at h
  ·rename_i a' b' ha hb
   simp only [Option.some.injEq] at h
   rw [<- h]; simp only [T.den]; rw [Sg.sub_den ha,Sg.sub_den hb]
  ·simp at h
 | .c3 o a b c,t',h=>by
  cases o
  case vslice r p =>
   simp only [Sg.sub] at h
   split at h
   ·rename_i r' a' b' c' hr ha hb hc
    simp only [Option.some.injEq] at h
    rw [<- h]; simp only [T.den,O3.den]; rw [Sg.sub_den ha,Sg.sub_den hb,Sg.sub_den hc,Sg.reg_env hr]
   ·simp at h
  all_goals
   simp only [Sg.sub] at h
   split at h
   ·rename_i a' b' c' ha hb hc
    simp only [Option.some.injEq] at h
    rw [<- h]; simp only [T.den,O3.den]; rw [Sg.sub_den ha,Sg.sub_den hb,Sg.sub_den hc]
   ·simp at h
 | .ife a b x y,t',h=>by
  simp only [Sg.sub] at h
  split at h
  ·rename_i a' b' x' y' ha hb hx hy
   simp only [Option.some.injEq] at h
   rw [<- h]; simp only [T.den]; rw [Sg.sub_den ha,Sg.sub_den hb,Sg.sub_den hx,Sg.sub_den hy]
  ·simp at h

theorem Sg.subs_den {Z:Sg} {ρ:Env}:∀ {ts ts':List T},Z.subs ts = some ts'->qb ρ ts' = qb (Z.env ρ) ts
 | [],ts',h=>by simp only [Sg.subs,Option.some.injEq] at h; rw [<- h]; rfl
 | t :: ts,ts',h=>by
  simp only [Sg.subs] at h
  split at h
  ·rename_i a b ha hb
   simp only [Option.some.injEq] at h
   rw [<- h]
   have:=Sg.subs_den (ρ:=ρ) hb
   simp only [qb,List.map_cons] at this ⊢
   rw [Sg.sub_den ha,this]
  ·simp at h

theorem Sg.tup_den {Z:Sg} {ρ:Env}:∀ {vs vs':List (Bool × List T)},Sg.subSV.tup Z vs = some vs'->vs'.map (qet ρ) = vs.map (qet (Z.env ρ))
 | [],vs',h=>by simp only [Sg.subSV.tup,Option.some.injEq] at h; rw [<- h]; rfl
 | (g,ts) :: r,vs',h=>by
  simp only [Sg.subSV.tup] at h
  split at h
  ·rename_i a b ha hb
   simp only [Option.some.injEq] at h
   rw [<- h]
   simp only [List.map_cons]
   rw [Sg.tup_den hb]
   congr 1
   cases g <;> simp only [qet] <;> rw [Sg.subs_den ha]
  ·simp at h

theorem Sg.subSV_den {Z:Sg} {ρ:Env} {v v':SV} (h:Z.subSV v = some v'):v'.den ρ = v.den (Z.env ρ):=by
 cases v with
 | one t =>
  simp only [Sg.subSV,Option.map_eq_some_iff] at h
  obtain ⟨a,ha,rfl⟩:=h
  simp only [SV.den]; rw [Sg.sub_den ha]
 | agg ts =>
  simp only [Sg.subSV,Option.map_eq_some_iff] at h
  obtain ⟨a,ha,rfl⟩:=h
  simp only [SV.den]; rw [Sg.subs_den ha]
 | tup vs =>
  simp only [Sg.subSV,Option.map_eq_some_iff] at h
  obtain ⟨a,ha,rfl⟩:=h
  simp only [SV.den]; rw [Sg.tup_den ha]
 | fn f a b =>
  simp only [Sg.subSV] at h
  split at h
  ·rename_i x y hx hy
   simp only [Option.some.injEq] at h
   rw [<- h]; simp only [SV.den]; rw [Sg.subs_den hx,Sg.subs_den hy]
  ·simp at h

theorem Sg.subH_den {Z:Sg} {ρ:Env} {x x':SH} (h:Z.subH x = some x') (hp:Hp):x'.den ρ hp↔x.den (Z.env ρ) hp:=by
 cases x with
 | cells r ty cs =>
  simp only [Sg.subH] at h
  split at h
  ·rename_i r' cs' hr hc
   simp only [Option.some.injEq] at h
   rw [<- h]; simp only [SH.den]; rw [Sg.subs_den hc,Sg.reg_env hr]
  ·simp at h
 | arr r ty pat d cap =>
  simp only [Sg.subH] at h
  split at h
  ·rename_i r' d' cap' hr hd hc
   simp only [Option.some.injEq] at h
   rw [<- h]; simp only [SH.den]; rw [Sg.sub_den hd,Sg.sub_den hc,Sg.reg_env hr]
  ·simp at h
 | abs n t =>
  simp only [Sg.subH,Option.map_eq_some_iff] at h
  obtain ⟨m,hm,rfl⟩:=h
  simp only [SH.den]; rw [Sg.reg_env hm]

theorem Sg.subHs_den {Z:Sg} {ρ:Env}:∀ {l l':List SH},Z.subHs l = some l'->∀ hp,qX ρ l' hp↔qX (Z.env ρ) l hp
 | [],l',h,hp=>by simp only [Sg.subHs,Option.some.injEq] at h; rw [<- h]; rfl
 | x :: r,l',h,hp=>by
  simp only [Sg.subHs] at h
  split at h
  ·rename_i a b ha hb
   simp only [Option.some.injEq] at h
   rw [<- h]
   simp only [qX]
   constructor
   ·rintro ⟨h1,h2,hd,hu,hx,hs⟩; exact ⟨h1,h2,hd,hu,(Sg.subH_den ha h1).1 hx,(Sg.subHs_den hb h2).1 hs⟩
   ·rintro ⟨h1,h2,hd,hu,hx,hs⟩; exact ⟨h1,h2,hd,hu,(Sg.subH_den ha h1).2 hx,(Sg.subHs_den hb h2).2 hs⟩
  ·simp at h

end Go.Eng

set_option linter.unusedSimpArgs false
set_option linter.unusedVariables false
namespace Go.Eng
open Go
variable {ρ:Env}

theorem qoJ {d:List (List Value)} (h:∀ row ∈ d,∀ v ∈ row,v.oneCell' = true) (e:Int) (c:Nat):(qal d e c).oneCell' = true:=by
 unfold qal
 cases h1:d[e.toNat]? with
 | none=>simp [Value.oneCell']
 | some row =>
  simp only [Option.getD_some]
  cases h2:row[c]? with
  | none=>simp [Value.oneCell']
  | some v=>exact h row (List.mem_of_getElem? h1) v (List.mem_of_getElem? h2)

theorem qzD (hg:ρ.good) {k:CK} {t:T} (h:qo0 k t = true):CK.fits k (t.den ρ).v = true:=by
 unfold qo0 at h
 split at h <;> first
  | (simp only [decide_eq_true_eq] at h; subst h; simp [T.den,O1.den,CK.fits]; done)
  | (simp [T.den,O0.den,O1.den,O3.den,CK.fits,Value.oneCell']; done)
  | (rename_i n; exact (hg n).1)
  | (rename_i c n e; exact qoJ (hg n).2 _ _)
  | (simp at h; done)


theorem qfn (hg:ρ.good):∀ {ks:List CK} {ts:List T},qe4 ks ts = true->∀ (j:Nat) (k:CK) (v:Value),ks[j]? = some k->(qb ρ ts)[j]? = some v->CK.fits k v = true
 | ks,[],_,j,k,v,_,hv=>by simp [qb] at hv
 | [],t :: ts,h,_,_,_,_,_=>by simp [qe4] at h
 | k :: ks,t :: ts,h,0,k',v,hk,hv=>by
  simp only [qe4,Bool.and_eq_true] at h
  simp only [List.getElem?_cons_zero,Option.some.injEq] at hk
  simp only [qb,List.map_cons,List.getElem?_cons_zero,Option.some.injEq] at hv
  subst hk; subst hv
  exact qzD hg h.1
 | k :: ks,t :: ts,h,j + 1,k',v,hk,hv=>by
  simp only [qe4,Bool.and_eq_true] at h
  simp only [List.getElem?_cons_succ] at hk
  simp only [qb,List.map_cons,List.getElem?_cons_succ] at hv
  exact qfn hg h.2 j k' v hk hv


theorem qhf:∀ (ts:List T),((T.row ts).den ρ).d.headD [] = qb ρ ts
 | []=>by simp [T.row,T.den,O0.den,qb]
 | t :: ts=>by
  have:=qhf ts
  simp only [T.row,T.den,O2.den,List.headD_cons,qb,List.map_cons] at this ⊢
  rw [this]


def qn (d:List (List Value)):List Value:=d.flatten


theorem qn5 {p:Nat}:∀ {d:List (List Value)},(∀ row ∈ d,row.length = p)->∀ (i k:Nat) (row:List Value),d[i]? = some row->k < p->(qn d)[i * p + k]? = row[k]?
 | [],_,i,k,row,h,_=>by simp at h
 | r0 :: d,hp,0,k,row,h,hk=>by
  simp only [List.getElem?_cons_zero,Option.some.injEq] at h; subst h
  have:=hp r0 (List.mem_cons_self ..)
  simp only [qn,List.flatten_cons,Nat.zero_mul,Nat.zero_add]
  rw [List.getElem?_append_left (by omega)]
 | r0 :: d,hp,i + 1,k,row,h,hk=>by
  simp only [List.getElem?_cons_succ] at h
  have h0:=hp r0 (List.mem_cons_self ..)
  have ih:=qn5 (fun row hr=>hp row (List.mem_cons_of_mem _ hr)) i k row h hk
  simp only [qn,List.flatten_cons] at ih ⊢
  rw [List.getElem?_append_right (by rw [h0,Nat.add_mul]; omega),h0,show (i + 1) * p + k - p = i * p + k from by rw [Nat.add_mul]; omega]
  exact ih


theorem qc8 {p:Nat}:∀ {d:List (List Value)},(∀ row ∈ d,row.length = p)->(qn d).length = d.length * p
 | [],_=>by simp [qn]
 | r0 :: d,hp=>by
  have h0:=hp r0 (List.mem_cons_self ..)
  have ih:=qc8 (fun row hr=>hp row (List.mem_cons_of_mem _ hr))
  simp only [qn,List.flatten_cons,List.length_append,List.length_cons] at ih ⊢
  rw [ih,h0,Nat.add_mul]; omega


theorem qwt {p:Nat} (hp0:0 < p) {d:List (List Value)} (hp:∀ row ∈ d,row.length = p) {j:Nat} {v:Value} (h:(qn d)[j]? = some v):∃ row,d[j / p]? = some row/\row[j % p]? = some v:=by
 have hj:j < (qn d).length:=by
  rcases Nat.lt_or_ge j (qn d).length with h' | h'
  ·exact h'
  ·rw [List.getElem?_eq_none h'] at h; cases h
 rw [qc8 hp] at hj
 have hi:j / p < d.length:=Nat.div_lt_of_lt_mul (by rw [Nat.mul_comm]; exact hj)
 refine ⟨d[j / p],List.getElem?_eq_getElem hi,?_⟩
 have:=qn5 hp (j / p) (j % p) _ (List.getElem?_eq_getElem hi) (Nat.mod_lt _ hp0)
 rw [show j / p * p + j % p = j from by rw [Nat.mul_comm]; exact Nat.div_add_mod j p] at this
 rw [<- this]; exact h


theorem qgb {c:Array Value} {o:Nat} {pat:List CK} {d:List (List Value)} (hp:0 < pat.length) (h:qab c o pat d):∀ (j:Nat) (v:Value),(qn d)[j]? = some v->c[o + j]? = some v:=by
 intro j v hv
 obtain ⟨row,h1,h2⟩:=qwt hp (fun row hr=>by
  obtain ⟨i,hi⟩:=List.getElem?_of_mem hr
  exact (h i row hi).1.1) hv
 have:=(h _ _ h1).2 _ _ h2
 rwa [show o + j / pat.length * pat.length + j % pat.length = o + j from by
  rw [Nat.add_assoc,Nat.mul_comm]; congr 1; exact Nat.div_add_mod j pat.length] at this


theorem qxw {c:Array Value} {o:Nat} {pat:List CK} {d:List (List Value)} (h:qab c o pat d) (n m:Nat):qab c (o + n * pat.length) pat ((d.drop n).take m):=by
 intro i row hi
 rw [List.getElem?_take] at hi
 split at hi
 ·rw [List.getElem?_drop] at hi
  obtain ⟨h1,h2⟩:=h _ _ hi
  refine ⟨h1,fun k v hv=>?_⟩
  have:=h2 k v hv
  rwa [show o + (n + i) * pat.length + k = o + n * pat.length + i * pat.length + k from by rw [Nat.add_mul]; omega] at this
 ·cases hi


theorem qgo (hg:ρ.good) {pat:List CK} {p:Nat} (hpp:p = pat.length):∀ {n:Nat} {cs:List T} {d:T},qfh pat p n cs = some d ->
  (d.den ρ).d.length = n/\qn (d.den ρ).d = qb ρ cs/\∀ row ∈ (d.den ρ).d,qs pat row
 | 0,[],d,h=>by simp only [qfh,Option.some.injEq] at h; subst h; simp [T.den,O0.den,qn,qb]
 | 0,_ :: _,d,h=>by simp [qfh] at h
 | n + 1,cs,d,h=>by
  simp only [qfh] at h
  split at h
  ·rename_i hc
   simp only [Bool.and_eq_true,Nat.ble_eq] at hc
   split at h
   ·rename_i r hr
    obtain ⟨h1,h2,h3⟩:=qgo hg hpp hr
    have hfit:qs pat (qb ρ (cs.take p)):=⟨by simp [qb]; omega,fun c k v hk hv=>qfn hg hc.2 c k v hk hv⟩
    have hrow:((T.row (cs.take p)).den ρ).d = [qb ρ (cs.take p)]:=by
     have hd:=qhf (ρ:=ρ) (cs.take p)
     have hl:((T.row (cs.take p)).den ρ).d.length = 1:=by
      cases cs.take p with
      | nil=>simp [T.row,T.den,O0.den]
      | cons t ts=>simp [T.row,T.den,O2.den]
     match hx:((T.row (cs.take p)).den ρ).d,hl with
     | [x],_=>rw [hx] at hd; simpa using hd
    have hsplit:qb ρ cs = qb ρ (cs.take p) ++ qb ρ (cs.drop p):=by
     simp only [qb,<- List.map_append,List.take_append_drop]
    simp only [Option.some.injEq] at h
    split at h
    ·subst h
     rw [hrow]
     have hn:(r.den ρ).d = []:=List.length_eq_zero_iff.1 h1
     rw [hn] at h2
     refine ⟨rfl,?_,fun row hm=>by simp only [List.mem_singleton] at hm; subst hm; exact hfit⟩
     rw [hsplit,<- h2]; simp [qn]
    ·subst h
     simp only [T.den,O2.den,hrow]
     refine ⟨by simp [h1],?_,fun row hm=>?_⟩
     ·rw [hsplit,<- h2]; simp [qn]
     ·rcases List.mem_append.1 hm with hm | hm
      ·simp only [List.mem_singleton] at hm; subst hm; exact hfit
      ·exact h3 row hm
   ·simp at h
  ·simp at h


theorem qbV {c:Array Value} {o:Nat} {pat:List CK} {d:List (List Value)} (hf:∀ row ∈ d,qs pat row) (h:∀ (j:Nat) (v:Value),(qn d)[j]? = some v->c[o + j]? = some v):qab c o pat d:=by
 intro i row hi
 have hm:=hf row (List.mem_of_getElem? hi)
 refine ⟨hm,fun k v hv=>?_⟩
 have hk:k < pat.length:=by
  rw [<- hm.1]
  rcases Nat.lt_or_ge k row.length with h' | h'
  ·exact h'
  ·rw [List.getElem?_eq_none h'] at hv; cases hv
 have:=qn5 (fun row hr=>(hf row hr).1) i k row hi hk
 rw [hv] at this
 have:=h _ _ this
 rwa [<- Nat.add_assoc] at this


theorem qin (d e:List (List Value)):qn (d ++ e) = qn d ++ qn e:=by simp [qn]


theorem qqK {pat:List CK} {d:List (List Value)} (hf:∀ row ∈ d,qs pat row):∀ v ∈ qn d,v.oneCell' = true:=by
 intro v hv
 simp only [qn,List.mem_flatten] at hv
 obtain ⟨row,hr,hv⟩:=hv
 obtain ⟨k,hk⟩:=List.getElem?_of_mem hv
 obtain ⟨h1,h2⟩:=hf row hr
 have hlt:k < pat.length:=by
  rw [<- h1]
  rcases Nat.lt_or_ge k row.length with h' | h'
  ·exact h'
  ·rw [List.getElem?_eq_none h'] at hk; cases hk
 have:=h2 k _ v (List.getElem?_eq_getElem hlt) hk
 unfold CK.fits at this
 split at this
 ·rfl
 ·rfl
 ·exact this
 ·cases this


theorem qi7 {c:Array Value} {o:Nat} {pat:List CK} {d:List (List Value)} (h:qab c o pat d):∀ row ∈ d,qs pat row:=fun row hr=>by
 obtain ⟨i,hi⟩:=List.getElem?_of_mem hr
 exact (h i row hi).1


end Go.Eng
