/- Texts A0, E1, E2, E2m, E3, E4, E4b. -/
import Derived.WalkKit
import Derived.OrdersHeld
import Derived.Deep.RegionHeld3
set_option linter.unusedSimpArgs false
set_option linter.unusedVariables false
set_option linter.unusedSectionVars false
namespace Go
abbrev jaa:=@Option.some.injEq
abbrev jab:=@List.mem_cons_of_mem
abbrev jac:=@List.mem_cons_self
abbrev jad:=@Bool.and_eq_true
abbrev jae:=@List.getElem?_eq_getElem
abbrev jaf:=@if_neg
abbrev jag:=@if_pos
abbrev jah:=@Option.map_eq_some_iff
abbrev jai:=@List.getD_eq_getElem?_getD
abbrev jaj:=@Option.bind_eq_some_iff
abbrev jak:=@List.mem_singleton
abbrev jal:=@List.getElem?_eq_some_iff
abbrev jam:=@Prod.mk.injEq
abbrev jan:=@Bool.false_eq_true
abbrev jao:=@List.all_eq_true
abbrev jap:=@List.getElem?_eq_none
abbrev jaq:=@List.map_cons
abbrev jar:=@List.mem_cons
abbrev jas:=@List.mem_of_getElem?
abbrev jat:=@Option.some.inj
abbrev jau:=@List.getElem?_map
abbrev jav:=@List.length_append
abbrev jaw:=@decide_eq_true_eq
abbrev jax:=@List.mem_append
abbrev jay:=@Bool.not_eq_true'
abbrev jaz:=@List.length_map
abbrev ja0:=@List.take_of_length_le
abbrev ja1:=@List.getElem?_cons_succ
abbrev ja2:=@List.not_mem_nil
abbrev ja3:=@if_false
abbrev ja4:=@List.getElem?_set
abbrev ja5:=@if_true
abbrev ja6:=@Nat.blt_eq
abbrev ja7:=@List.getElem?_cons_zero
abbrev ja8:=@List.length_set
abbrev ja9:=@Option.map_some
abbrev jba:=@of_decide_eq_true
abbrev jbb:=@Nat.zero_add
abbrev jbc:=@List.length_take
abbrev jbd:=@List.getElem?_append_right
abbrev jbe:=@List.getElem?_take
abbrev jbf:=@List.getElem?_drop
abbrev jbg:=@Option.none_or
abbrev jbh:=@List.length_cons
abbrev jbi:=@Option.getD_some
abbrev jbj:=@Nat.le_refl
abbrev jbk:=@List.mem_of_mem_eraseIdx
abbrev jbl:=@List.map_nil
abbrev jbm:=@Array.getD_eq_getD_getElem?
abbrev jbn:=@List.mem_append_left
abbrev jbo:=@List.ext_getElem?
abbrev jbp:=@Bool.not_eq_false
abbrev jbq:=@Nat.add_mul
abbrev jbr:=@List.mem_map
abbrev jbs:=@List.getElem?_append_left
abbrev jbt:=@Nat.lt_or_ge
abbrev jbu:=@List.getElem_mem
abbrev jbv:=@List.append_assoc
abbrev jbw:=@Int.toNat_natCast
abbrev jbx:=@List.mem_or_eq_of_mem_set
abbrev jby:=@Nat.mul_le_mul_right
abbrev jbz:=@List.getElem_of_mem
abbrev jb0:=@List.getElem?_of_mem
abbrev jb1:=@Option.map_none
abbrev jb2:=@List.mem_filter
abbrev jb3:=@Option.or_eq_none_iff
abbrev jb4:=@List.mem_append_right
abbrev jb5:=@List.headD_cons
abbrev jb6:=@Array.ext'
abbrev jb7:=@List.mem_of_mem_take
abbrev jb8:=@Array.getElem?_eq_none
abbrev jb9:=@Int.toNat_of_nonneg
abbrev jca:=@List.append_nil
abbrev jcb:=@List.drop_eq_getElem_cons
abbrev jcc:=@Bool.or_eq_true
abbrev jcd:=@Array.getElem?_eq_getElem
abbrev jce:=@Option.isNone_iff_eq_none
abbrev jcf:=@List.length_replicate
abbrev jcg:=@Int.tmod_lt_of_pos
abbrev jch:=@List.filter_append
abbrev jci:=@List.filter_cons
abbrev jcj:=@Option.some_or
abbrev jck:=@List.getElem?_append
abbrev jcl:=@List.map_append
abbrev jcm:=@List.length_nil
abbrev jcn:=@Int.tmod_nonneg
abbrev jco:=@List.nil_append
abbrev jcp:=@List.toList_toArray
abbrev jcq:=@Nat.add_zero
abbrev jcr:=@List.length_drop
abbrev jcs:=@List.exists_of_findSome?_eq_some
abbrev jct:=@Array.getElem?_modify
abbrev jcu:=@List.getElem?_toArray
abbrev jcv:=@Array.getElem?_setIfInBounds_ne
abbrev jcw:=@List.mem_of_mem_drop
abbrev jcx:=@Int.mul_le_mul_of_nonneg_right
abbrev jcy:=@List.length_eraseIdx
abbrev jcz:=@List.map_take
abbrev jc0:=@List.all_cons
abbrev jc1:=@List.eq_nil_of_length_eq_zero
abbrev jc2:=@List.length_eq_zero_iff
abbrev jc3:=@List.getElem?_replicate
abbrev jc4:=@Prod.exists
abbrev jc5:=@List.foldl_cons
abbrev jc6:=@List.length_filter_le
abbrev jc7:=@List.range_succ
abbrev jc8:=@Array.getElem?_eq_some_iff
abbrev jc9:=@Nat.add_assoc
abbrev jda:=@Array.getElem?_append_left
abbrev jdb:=@Int.tmod_eq_of_lt
abbrev jdc:=@List.getElem?_mapIdx
abbrev jdd:=@Nat.mul_comm
abbrev jde:=@List.eq_of_mem_replicate
abbrev jdf:=@decide_eq_false_iff_not
abbrev jdg:=@Nat.ble_eq
abbrev jdh:=@Nat.lt_of_lt_of_le
abbrev jdi:=@List.getElem?_set_self
abbrev jdj:=@List.flatten_cons
abbrev jdk:=@List.drop_drop
abbrev jdl:=@Nat.add_comm
abbrev jdm:=@Nat.le_trans
abbrev jdn:=@Array.getElem?_setIfInBounds
abbrev jdo:=@List.cons_append
abbrev jdp:=@Array.mem_filter
abbrev jdq:=@beq_iff_eq
abbrev jdr:=@List.getElem?_range
abbrev jds:=@List.map_congr_left
abbrev jdt:=@List.filter_eq_self
abbrev jdu:=@beq_eq_false_iff_ne
abbrev jdv:=@List.cons.injEq
abbrev jdw:=@List.extract_eq_take_drop
abbrev jdx:=@Option.isNone_none
abbrev jdy:=@Array.size_append
abbrev jdz:=@Array.getElem?_push_lt
abbrev jd0:=@Array.toList_map
abbrev jd1:=@List.mem_flatten
abbrev jd2:=@List.any_eq_true
abbrev jd3:=@Nat.le_of_ble_eq_true
abbrev jd4:=@List.length_singleton
abbrev jd5:=@List.eraseIdx_eq_take_drop_succ
abbrev jd6:=@Int.not_le
abbrev jd7:=@Nat.min_eq_left
abbrev jd8:=@Int.natCast_add
abbrev jd9:=@Bool.or_eq_false_iff
abbrev jea:=@Int.toNat_zero
abbrev jeb:=@Nat.add_sub_cancel
abbrev jec:=@Array.ext_getElem?
abbrev jed:=@Bool.not_true
abbrev jee:=@Int.tmod_self
abbrev jef:=@List.size_toArray
abbrev jeg:=@Nat.mod_lt
abbrev jeh:=@List.pairwise_iff_getElem
abbrev jei:=@Option.bind_some
abbrev jej:=@Nat.sub_zero
abbrev jek:=@Nat.zero_mul
abbrev jel:=@Nat.mod_eq_of_lt
abbrev jem:=@Int.mul_comm
abbrev jen:=@List.take_length
abbrev jeo:=@Array.mem_append
abbrev jep:=@Nat.div_add_mod
abbrev jeq:=@List.all_append
abbrev jer:=@Int.natCast_mul
abbrev jes:=@List.mapM_cons
abbrev jet:=@List.take_zero
abbrev jeu:=@decide_eq_true
abbrev jev:=@Option.or_none
abbrev jew:=@List.take_take
abbrev jex:=@List.mem_range
end Go
namespace Go.Eng
open Go
abbrev Hp:=Nat->Option Obj
def Hp.le (a b:Hp):Prop:=∀ x o,a x = some o->b x = some o
structure U where
 i:Int:=0
 b:Bool:=false
 v:Value:=.nilFunc
 d:List (List Value):=[]
 r:Option Addr:=none
 h:Hp:=fun _=>none
def U.good (u:U):Prop:=u.v.oneCell' = true/\∀ row ∈ u.d,∀ v ∈ row,v.oneCell' = true
abbrev Env:=Nat->U
def Env.good (Z:Env):Prop:=∀ n,(Z n).good
def Env.set (Z:Env) (n:Nat) (u:U):Env:=fun m=>if m = n then u else Z m
@[simp] theorem Env.set_same (Z:Env) (n:Nat) (u:U):(Z.set n u) n = u:=by simp [Env.set]
theorem Env.set_ne (Z:Env) {n m:Nat} (u:U) (h:m ≠ n):(Z.set n u) m = Z m:=by simp [Env.set,h]
def qbK:Value->Int
 | .int _ z=>z
 | _=>0
def qig:Value->Bool
 | .bool b=>b
 | _=>false
def qU (d:List (List Value)) (e:Int) (c:Nat):Value:=((d[e.toNat]?).getD [])[c]?.getD .nilFunc
def qc (d:List (List Value)) (e:Int) (c:Nat):Int:=qbK (qU d e c)
def qcc (d:List (List Value)) (e:Int) (c:Nat):Bool:=qig (qU d e c)
def qba (row:List Value) (c:Nat) (vs:List Value):List Value:=row.take c ++ vs ++ row.drop (c + vs.length)
def qnb (d:List (List Value)) (i:Nat):Int:=qbK ((d.headD [])[i]?.getD .nilFunc)
def qmD (d:List (List Value)) (i:Nat):Bool:=qig ((d.headD [])[i]?.getD .nilFunc)
def qi1 (d:List (List Value)) (i:Nat) (v:Value):List (List Value):=match d with
 | []=>[]
 | row :: rest=>row.set i v :: rest
def qdc (d:List (List Value)) (k:Nat) (s:List (List Value)):List (List Value):=d.take k ++ s ++ d.drop (k + s.length)
def qjy (d:List (List Value)) (o n:Nat):List (List Value):=(((d.headD []).drop o).take n).map fun v=>[v]
def qcU (d:List (List Value)) (o:Nat) (s:List (List Value)):List (List Value):=match d with
 | []=>[]
 | row :: rest=>qba row o (s.map fun r=>r.headD .nilFunc) :: rest
def bytesOf (d:List (List Value)):List UInt8:=d.map fun r=>UInt8.ofNat (qbK (r[0]?.getD .nilFunc)).toNat
def qbb:Value->List UInt8
 | .string s=>s.toList
 | _=>[]
def qH (d:List (List Value)) (e:Int) (c:Nat) (vs:List Value):List (List Value) :=
 d.set e.toNat (qba ((d[e.toNat]?).getD []) c vs)
inductive O0 where
 | lit (z:Int)
 | bl (b:Bool)
 | isnil (r:Nat)
 | vnilp
 | vnils
 | vnilf
 | vnilm
 | vstr (l:List UInt8)
 | dnil
 | rnil
 deriving Inhabited,DecidableEq
inductive O1 where
 | conv (k:IntKind)
 | dlen
 | not
 | vint (k:IntKind)
 | vbool
 | vptr (r p c:Nat)
 | vbytes
 | sval
 | slen
 | srows
 | isg (g:Nat)
 deriving Inhabited,DecidableEq
inductive O2 where
 | arith (op:BinOp) (k:IntKind)
 | plus
 | minus
 | tims
 | imin
 | imax
 | icell (c:Nat)
 | cmp (op:BinOp)
 | beq
 | and
 | or
 | bcell (c:Nat)
 | vcell (c:Nat)
 | dsnoc
 | rcons
 | drep
 | dapp
 | dtake
 | ddrop
 | xint (c:Nat)
 | xbool (c:Nat)
 | veq
 | slt
 | sapp
 | sat
 | req
 deriving Inhabited,DecidableEq
inductive O3 where
 | vslice (r p:Nat)
 | dput (c:Nat)
 | xput (c:Nat)
 | dsplice
 | ssub
 | xrows
 | xcopy
 deriving Inhabited,DecidableEq
inductive T where
 | var (n:Nat)
 | c0 (o:O0)
 | c1 (o:O1) (a:T)
 | c2 (o:O2) (a b:T)
 | c3 (o:O3) (a b c:T)
 | ife (a b x y:T)
 deriving Inhabited
abbrev T.lit (z:Int):T:=.c0 (.lit z)
abbrev T.bl (b:Bool):T:=.c0 (.bl b)
abbrev T.isnil (r:Nat):T:=.c0 (.isnil r)
abbrev T.vnilp:T:=.c0 .vnilp
abbrev T.vnils:T:=.c0 .vnils
abbrev T.vnilf:T:=.c0 .vnilf
abbrev T.vnilm:T:=.c0 .vnilm
abbrev T.vstr (l:List UInt8):T:=.c0 (.vstr l)
abbrev T.dnil:T:=.c0 .dnil
abbrev T.rnil:T:=.c0 .rnil
abbrev T.conv (k:IntKind) (a:T):T:=.c1 (.conv k) a
abbrev T.dlen (a:T):T:=.c1 .dlen a
abbrev T.not (a:T):T:=.c1 .not a
abbrev T.vint (k:IntKind) (a:T):T:=.c1 (.vint k) a
abbrev T.vbool (a:T):T:=.c1 .vbool a
abbrev T.vptr (r:Nat) (e:T) (p c:Nat):T:=.c1 (.vptr r p c) e
abbrev T.arith (op:BinOp) (k:IntKind) (a b:T):T:=.c2 (.arith op k) a b
abbrev T.plus (a b:T):T:=.c2 .plus a b
abbrev T.minus (a b:T):T:=.c2 .minus a b
abbrev T.tims (a b:T):T:=.c2 .tims a b
abbrev T.imin (a b:T):T:=.c2 .imin a b
abbrev T.imax (a b:T):T:=.c2 .imax a b
abbrev T.icell (d e:T) (c:Nat):T:=.c2 (.icell c) d e
abbrev T.cmp (op:BinOp) (a b:T):T:=.c2 (.cmp op) a b
abbrev T.beq (a b:T):T:=.c2 .beq a b
abbrev T.and (a b:T):T:=.c2 .and a b
abbrev T.or (a b:T):T:=.c2 .or a b
abbrev T.bcell (d e:T) (c:Nat):T:=.c2 (.bcell c) d e
abbrev T.vcell (d e:T) (c:Nat):T:=.c2 (.vcell c) d e
abbrev T.dsnoc (d r:T):T:=.c2 .dsnoc d r
abbrev T.rcons (v r:T):T:=.c2 .rcons v r
abbrev T.drep (n r:T):T:=.c2 .drep n r
abbrev T.dapp (a b:T):T:=.c2 .dapp a b
abbrev T.dtake (a b:T):T:=.c2 .dtake a b
abbrev T.ddrop (a b:T):T:=.c2 .ddrop a b
abbrev T.vslice (r:Nat) (off len cap:T) (p:Nat):T:=.c3 (.vslice r p) off len cap
abbrev T.dput (d e:T) (c:Nat) (r:T):T:=.c3 (.dput c) d e r
def T.same:T->T->Bool
 | .var a,.var b=>Nat.beq a b
 | .c0 a,.c0 b=>decide (a = b)
 | .c1 o a,.c1 o' a'=>decide (o = o') && a.same a'
 | .c2 o a b,.c2 o' a' b'=>decide (o = o') && a.same a' && b.same b'
 | .c3 o a b c,.c3 o' a' b' c'=>decide (o = o') && a.same a' && b.same b' && c.same c'
 | .ife a b x y,.ife a' b' x' y'=>a.same a' && b.same b' && x.same x' && y.same y'
 | _,_=>false
theorem T.same_eq:∀ {a b:T},a.same b = true->a = b
 | .var a,.var b,h=>by simp [T.same] at h; rw [h]
 | .c0 a,.c0 b,h=>by simp [T.same] at h; rw [h]
 | .c1 o a,.c1 o' a',h=>by simp [T.same] at h; rw [h.1,T.same_eq h.2]
 | .c2 o a b,.c2 o' a' b',h=>by simp [T.same] at h; rw [h.1.1,T.same_eq h.1.2,T.same_eq h.2]
 | .c3 o a b c,.c3 o' a' b' c',h=>by simp [T.same] at h; rw [h.1.1.1,T.same_eq h.1.1.2,T.same_eq h.1.2,T.same_eq h.2]
 | .ife a b x y,.ife a' b' x' y',h=>by simp [T.same] at h; rw [T.same_eq h.1.1.1,T.same_eq h.1.1.2,T.same_eq h.1.2,T.same_eq h.2]
def qi (op:BinOp) (k:IntKind) (x y:Int):Int :=
 match op with
 | .add=>k.wrap (x + y)
 | .sub=>k.wrap (x - y)
 | .mul=>k.wrap (x * y)
 | .quo=>k.wrap (x.tdiv y)
 | .rem=>x.tmod y
 | .and=>k.wrap (BitVec.ofInt k.bits x &&& BitVec.ofInt k.bits y).toNat
 | .or=>k.wrap (BitVec.ofInt k.bits x ||| BitVec.ofInt k.bits y).toNat
 | .xor=>k.wrap (BitVec.ofInt k.bits x ^^^ BitVec.ofInt k.bits y).toNat
 | .andNot=>k.wrap (BitVec.ofInt k.bits x &&& ~~~BitVec.ofInt k.bits y).toNat
 | .shl=>k.wrap (x * 2 ^ (min y.toNat k.bits))
 | .shr=>x.fdiv (2 ^ (min y.toNat k.bits))
 | _=>0
def qS (op:BinOp) (x y:Int):Bool :=
 match op with
 | .eql=>x == y
 | .neq=>x != y
 | .lss=>decide (x < y)
 | .leq=>decide (x <= y)
 | .gtr=>decide (x > y)
 | .geq=>decide (x ≥ y)
 | _=>false
def qj (r:Option Addr) (n:Nat):Option Addr:=r.map fun a=>match a with
 | ⟨b,o,none⟩=>⟨b,o + n,none⟩
 | ⟨b,o,some s⟩=>if n = 0 then ⟨b,o,some s⟩ else ⟨b,o + n,none⟩
theorem qbm (r:Option Addr):qj r 0 = r:=by
 cases r with
 | none=>rfl
 | some a=>obtain ⟨b,o,s⟩:=a; cases s <;> rfl
theorem qcv {r:Option Addr} (h:r.isSome = true) (n:Nat):∃ a,qj r n = some a:=by
 cases r with
 | none=>simp at h
 | some a=>exact ⟨_,rfl⟩
theorem qdC {r:Option Addr} {n:Nat} {a:Addr} (m:Nat) (h:qj r n = some a):qj r (n + m) = some (a.add m):=by
 cases r with
 | none=>simp [qj] at h
 | some x =>
  obtain ⟨b,o,s⟩:=x;cases s with
  | none =>
   simp only [qj,ja9,jaa] at h ⊢;subst h;unfold Addr.add; split <;> simp_all [jc9]
  | some s =>
   simp only [qj,ja9,jaa] at h ⊢;unfold Addr.add;by_cases hn:n = 0 <;> by_cases hm:m = 0 <;> simp_all [jc9] <;> subst h <;> simp [jc9]
def O0.den (Z:Env):O0->U
 | .lit z=>{ i:=z }
 | .bl b=>{ b:=b }
 | .isnil r=>{ b:=(Z r).r.isNone }
 | .vnilp=>{ v:=.pointer none }
 | .vnils=>{ v:=.slice none 0 0 }
 | .vnilf=>{ v:=.nilFunc }
 | .vnilm=>{ v:=.map none }
 | .vstr l=>{ v:=.string ⟨l.toArray⟩ }
 | .dnil=>{ d:=[] }
 | .rnil=>{ d:=[[]] }
def O1.den (Z:Env) (a:U):O1->U
 | .conv k=>{ i:=k.wrap a.i }
 | .dlen=>{ i:=(a.d.length:Int) }
 | .not=>{ b:=!a.b }
 | .vint k=>{ v:=.int k a.i }
 | .vbool=>{ v:=.bool a.b }
 | .vptr r p c=>{ v:=.pointer (qj (Z r).r (a.i.toNat * p + c)) }
 | .vbytes=>{ v:=.string ⟨(bytesOf a.d).toArray⟩ }
 | .sval=>{ v:=.string ⟨(qbb a.v).toArray⟩ }
 | .slen=>{ i:=((qbb a.v).length:Int) }
 | .isg g=>{ b:=decide (a.r = some ⟨g,0,none⟩) }
 | .srows=>{ d:=(qbb a.v).map fun b=>[.int .u8 b.toNat] }
def O2.den (a b:U):O2->U
 | .arith op k=>{ i:=qi op k a.i b.i }
 | .plus=>{ i:=a.i + b.i }
 | .minus=>{ i:=a.i - b.i }
 | .tims=>{ i:=a.i * b.i }
 | .imin=>{ i:=if b.i < a.i then b.i else a.i }
 | .imax=>{ i:=if b.i > a.i then b.i else a.i }
 | .icell c=>{ i:=qc a.d b.i c }
 | .cmp op=>{ b:=qS op a.i b.i }
 | .beq=>{ b:=a.b == b.b }
 | .and=>{ b:=a.b && b.b }
 | .or=>{ b:=a.b || b.b }
 | .bcell c=>{ b:=qcc a.d b.i c }
 | .vcell c=>{ v:=qU a.d b.i c }
 | .dsnoc=>{ d:=a.d ++ b.d }
 | .rcons=>{ d:=[a.v :: b.d.headD []] }
 | .drep=>{ d:=List.replicate a.i.toNat (b.d.headD []) }
 | .dapp=>{ d:=a.d ++ b.d }
 | .dtake=>{ d:=a.d.take b.i.toNat }
 | .ddrop=>{ d:=a.d.drop b.i.toNat }
 | .xint c=>{ i:=qnb a.d (b.i.toNat + c) }
 | .xbool c=>{ b:=qmD a.d (b.i.toNat + c) }
 | .veq=>{ b:=qbb a.v == qbb b.v }
 | .slt=>{ b:=Op.bytesLess (qbb a.v) (qbb b.v) }
 | .sapp=>{ v:=.string ⟨(qbb a.v ++ qbb b.v).toArray⟩ }
 | .req=>{ b:=(a.d.headD []).map qbK == (b.d.headD []).map qbK }
 | .sat=>{ i:=((((qbb a.v)[b.i.toNat]?).getD 0).toNat:Int) }
def O3.den (Z:Env) (a b c:U):O3->U
 | .vslice r p=>{ v:=.slice (qj (Z r).r (a.i.toNat * p)) b.i.toNat c.i.toNat }
 | .dput k=>{ d:=qH a.d b.i k (c.d.headD []) }
 | .xput k=>{ d:=qi1 a.d (b.i.toNat + k) c.v }
 | .dsplice=>{ d:=qdc a.d b.i.toNat c.d }
 | .xrows=>{ d:=qjy a.d b.i.toNat c.i.toNat }
 | .xcopy=>{ d:=qcU a.d b.i.toNat c.d }
 | .ssub=>{ v:=.string ⟨(((qbb a.v).drop b.i.toNat).take (c.i.toNat - b.i.toNat)).toArray⟩ }
def T.den (Z:Env):T->U
 | .var n=>Z n
 | .c0 o=>o.den Z
 | .c1 o a=>o.den Z (a.den Z)
 | .c2 o a b=>o.den (a.den Z) (b.den Z)
 | .c3 o a b c=>o.den Z (a.den Z) (b.den Z) (c.den Z)
 | .ife a b x y=>{ i:=if (a.den Z).i = (b.den Z).i then (x.den Z).i else (y.den Z).i }
def T.row:List T->T
 | []=>.rnil
 | t :: ts=>.rcons t (T.row ts)
inductive SV where
 | one (t:T)
 | agg (ts:List T)
 | tup (vs:List (Bool × List T))
 | fn (f:Fn) (first caps:List T)
 deriving Inhabited
def qa (Z:Env) (ts:List T):List Value:=ts.map fun t=>(t.den Z).v
def qdM (Z:Env):Bool × List T->Value
 | (true,ts)=>.agg (qa Z ts).toArray
 | (false,ts)=>(qa Z ts).headD .nilFunc
def SV.den (Z:Env):SV->Value
 | .one t=>(t.den Z).v
 | .agg ts=>.agg (qa Z ts).toArray
 | .tup vs=>.tuple (vs.map (qdM Z)).toArray
 | .fn f first caps=>.func f (qa Z first).toArray (qa Z caps).toArray
inductive CK where
 | int (k:IntKind)
 | bool
 | any
 deriving Inhabited,DecidableEq
def CK.fits:CK->Value->Bool
 | .int k,.int k' _=>k == k'
 | .bool,.bool _=>true
 | .any,v=>v.oneCell'
 | _,_=>false
def qX (pat:List CK) (row:List Value):Prop:=row.length = pat.length/\∀ (c:Nat) (k:CK) (v:Value),pat[c]? = some k->row[c]? = some v->CK.fits k v = true
inductive SH where
 | cells (r:Nat) (ty:TypeId) (cs:List T)
 | arr (r:Nat) (ty:TypeId) (pat:List CK) (d cap:T)
 | abs (n t:Nat)
 deriving Inhabited
def qaA (c:Array Value) (o:Nat) (pat:List CK) (d:List (List Value)):Prop :=
 ∀ (i:Nat) (row:List Value),d[i]? = some row->qX pat row/\∀ (k:Nat) (v:Value),row[k]? = some v->c[o + i * pat.length + k]? = some v
def Rd (h:Hp) (pat:List CK) (v:Value) (d:List (List Value)):Prop :=
 (∃ a,v = .slice a 0 0/\d = []) ∨
 ∃ b o cap c ty fr,v = .slice (some ⟨b,o,none⟩) d.length cap/\d.length <= cap/\h b = some (.cells c ty fr)/\qaA c o pat d
def Hp.free (h:Hp):Prop:=∀ (b:Nat) (o:Obj),h b = some o->∃ c ty,o = .cells c ty (0,0)
def SH.den (Z:Env):SH->Hp->Prop
 | .cells r ty cs,h=>∃ b,(Z r).r = some ⟨b,0,none⟩/\h b = some (.cells (qa Z cs).toArray ty (0,0))
 | .arr r ty pat d cap,h =>
  ((Z r).r = none/\(d.den Z).d = []/\(cap.den Z).i = 0) ∨
  ∃ b c,(Z r).r = some ⟨b,0,none⟩/\h b = some (.cells c ty (0,0))/\c.size = (cap.den Z).i.toNat * pat.length /\
   ((d.den Z).d.length:Int) <= (cap.den Z).i/\qaA c 0 pat (d.den Z).d
 | .abs n t,h=>Hp.le (Z n).h h/\(Nat.blt t 1001 = true->(Z n).h.free)
def SH.roden (Z:Env):SH->Hp->Prop
 | .cells r _ cs,h=>∃ b o c ty fr,(Z r).r = some ⟨b,o,none⟩/\h b = some (.cells c ty fr)/\∀ (k:Nat) (v:Value),(qa Z cs)[k]? = some v->c[o + k]? = some v
 | .arr r _ pat d _,h =>
  (d.den Z).d = [] ∨
  ∃ b o c ty fr,(Z r).r = some ⟨b,o,none⟩/\h b = some (.cells c ty fr)/\qaA c o pat (d.den Z).d
 | .abs n _,h=>Hp.le (Z n).h h
theorem qs2 (bs:ByteArray):∀ (n i:Nat) (r:List UInt8),bs.size - i = n->ByteArray.toList.loop bs i r = r.reverse ++ bs.data.toList.drop i
 | 0,i,r,h=>by
  unfold ByteArray.toList.loop;have hs:bs.size = bs.data.size:=rfl;rw [jaf (by omega),List.drop_eq_nil_of_le (by simp; omega),jca]
 | n + 1,i,r,h=>by
  unfold ByteArray.toList.loop;have hs:bs.size = bs.data.size:=rfl;have hi:i < bs.data.toList.length:=by simp; omega
  rw [jag (by omega),qs2 bs n (i + 1) _ (by omega),jcb hi,List.reverse_cons,jbv]
  congr 1
  simp only [List.singleton_append,jdv,and_true]
  show bs.data[i]! = _
  have hi2:i < bs.data.size:=by simpa using hi
  rw [getElem!_pos bs.data i hi2];simp
theorem qey (s:ByteArray):s.toList = s.data.toList:=by
 unfold ByteArray.toList;rw [qs2 _ _ 0 [] rfl];simp
theorem qzN (l:List UInt8):ByteArray.toList ⟨l.toArray⟩ = l:=by rw [qey]
theorem qpR (s:ByteArray):(⟨(qbb (.string s)).toArray⟩:ByteArray) = s:=by
 simp only [qbb,qey]
theorem qhI (l:List UInt8):qbb (.string ⟨l.toArray⟩) = l:=qzN l
def Hp.disj (h1 h2:Hp):Prop:=∀ b,h1 b = none∨h2 b = none
def Hp.union (h1 h2:Hp):Hp:=fun b=>(h1 b).or (h2 b)
def Hp.sub (h:Hp) (w:World):Prop:=∀ b o,h b = some o->w.heap[b]? = some o
def Hp.one (b:Nat) (o:Obj):Hp:=fun b'=>if b' = b then some o else none
def Hp.upd (h:Hp) (b:Nat) (o:Obj):Hp:=fun b'=>if b' = b then some o else h b'
def Hp.emp:Hp:=fun _=>none
def Hp.del (h:Hp) (b:Nat):Hp:=fun b'=>if b' = b then none else h b'
def qzm (h:Hp) (el:Nat) (pat:List CK) (v:Value) (d:List (List Value)) (h':Hp) (r:Option Addr) (cap:Int):Prop :=
 v = .slice (qj r 0) d.length cap.toNat/\((r = none/\d = []/\cap = 0/\h' = h) ∨
  ∃ b c,r = some ⟨b,0,none⟩/\h b = some (.cells c el (0,0))/\c.size = cap.toNat * pat.length/\(d.length:Int) <= cap/\qaA c 0 pat d/\h' = h.del b)
def qD (Z:Env):List SH->Hp->Prop
 | [],_=>True
 | x :: xs,h=>∃ h1 h2,Hp.disj h1 h2/\h = Hp.union h1 h2/\x.den Z h1/\qD Z xs h2
def T.isLit:T->Option Int
 | .c0 (.lit z)=>some z
 | _=>none
def qaI (a b:T):T :=
 match a.isLit,b.isLit with
 | some x,some y=>.lit (x + y)
 | some x,none=>if x = 0 then b else .plus a b
 | none,some y=>if y = 0 then a else .plus a b
 | none,none=>.plus a b
def qgj (a b:T):T :=
 match a.isLit,b.isLit with
 | some x,some y=>.lit (x - y)
 | none,some y=>if y = 0 then a else .minus a b
 | _,_=>if a.same b then .lit 0 else .minus a b
def qeX (op:BinOp) (k:IntKind) (a b:T):T :=
 match a.isLit,b.isLit with
 | some x,some y=>.lit (qi op k x y)
 | _,_=>.arith op k a b
def qqe (k:IntKind) (a:T):T :=
 match a.isLit with
 | some x=>.lit (k.wrap x)
 | none=>.conv k a
def qs (op:BinOp) (a b:T):T :=
 match a.isLit,b.isLit with
 | some x,some y=>.bl (qS op x y)
 | _,_=>if a.same b then .bl (qS op 0 0) else .cmp op a b
def qgO:T->T
 | .c0 (.bl b)=>.bl (!b)
 | .c1 .not a=>a
 | a=>.not a
def qk3 (a b:T):T :=
 match a,b with
 | .c0 (.bl x),.c0 (.bl y)=>.bl (x == y)
 | a,b=>if a.same b then .bl true else .beq a b
def qpA (a b:T):T :=
 match a,b with
 | .c0 (.bl true),b=>b
 | .c0 (.bl false),_=>.bl false
 | a,.c0 (.bl true)=>a
 | a,b=>.and a b
def qts (a b:T):T :=
 match a.isLit,b.isLit with
 | some x,some y=>.lit (if y < x then y else x)
 | _,_=>.imin a b
def quM (a b:T):T :=
 match a.isLit,b.isLit with
 | some x,some y=>.lit (if y > x then y else x)
 | _,_=>.imax a b
def qd7 (a b x y:T):T :=
 match a.isLit,b.isLit with
 | some u,some v=>if u = v then x else y
 | _,_=>if a.same b then x else .ife a b x y
def qcC (l:List T) (i:Nat) (vs:List T):List T:=l.take i ++ vs ++ l.drop (i + vs.length)
def slen:T->Option Nat
 | .c0 .dnil=>some 0
 | .c0 .rnil=>some 1
 | .c2 .rcons _ _=>some 1
 | .c2 .drep n _=>match n.isLit with
  | some z=>some z.toNat
  | none=>none
 | .c2 .dapp a b=>match slen a,slen b with
  | some n,some m=>some (n + m)
  | _,_=>none
 | .c3 (.dput _) d _ _=>slen d
 | .c3 (.xput _) d _ _=>slen d
 | .c3 .xcopy d _ _=>slen d
 | _=>none
def qbf:T->Option (List T)
 | .c0 .rnil=>some []
 | .c2 .rcons v r=>match qbf r with
  | some ts=>some (v :: ts)
  | none=>none
 | _=>none
def qaq:T->Nat->Option (List T)
 | .c0 .rnil,0=>some []
 | .c2 .rcons v r,0=>qbf (.c2 .rcons v r)
 | .c2 .drep n r,i=>match n.isLit with
  | some z=>if Nat.blt i z.toNat then qbf r else none
  | none=>none
 | .c2 .dapp a b,i=>match slen a with
  | some n=>if Nat.blt i n then qaq a i else qaq b (i - n)
  | none=>none
 | .c3 (.dput c) d e r,i=>match e.isLit,qaq d i,qbf r with
  | some z,some ts,some vs=>if Nat.beq z.toNat i then (if Nat.ble (c + vs.length) ts.length then some (qcC ts c vs) else none) else some ts
  | _,_,_=>none
 | _,_=>none
def qnW (d e:T):Option (List T) :=
 match e.isLit with
 | some z=>qaq d z.toNat
 | none=>none
def qbx:T->T
 | .c0 .dnil=>.lit 0
 | .c2 .drep n r=>.dlen (.drep n r)
 | .c3 (.dput _) d _ _=>qbx d
 | .c3 (.xput _) d _ _=>qbx d
 | .c3 .xcopy d _ _=>qbx d
 | d=>.dlen d
def qaw (d:T):T :=
 match slen d with
 | some n=>.lit (n:Int)
 | none=>qbx d
def qcT:T->Bool
 | .c0 (.lit z)=>decide (0 <= z)
 | .c1 .dlen _=>true
 | .c1 .slen _=>true
 | .c2 .plus a b=>qcT a && qcT b
 | .c2 .imin a b=>qcT a && qcT b
 | _=>false
def qa0 (t:T):T:=if qcT t then .bl true else qs .leq (.lit 0) t
structure S where
 env:List (Nat × SV)
 heap:List SH
 ro:List SH
 pc:List (T × Bool)
 nx:Nat
 nt:Nat
 vw:List (List Nat × SH):=[]
 deriving Inhabited
def qbg (t:Nat):List (Nat × SV)->Option SV
 | []=>none
 | (k,v) :: r=>if Nat.beq t k then some v else qbg t r
def qfK (t:Nat) (v:SV):List (Nat × SV)->List (Nat × SV)
 | []=>[(t,v)]
 | (k,u) :: r=>if Nat.beq t k then (t,v) :: r else if Nat.blt t k then (t,v) :: (k,u) :: r else (k,u) :: qfK t v r
def qky (c:T):List (T × Bool)->Option Bool
 | []=>none
 | (k,b) :: r=>if c.same k then some b else qky c r
def qfs (c:T) (pc:List (T × Bool)):Option Bool :=
 match c with
 | .c0 (.bl b)=>some b
 | .c1 .not a=>(qky a pc).map (!·)
 | c=>qky c pc
def qh9:Value->Option T
 | .int k n=>some (.vint k (.lit n))
 | .bool b=>some (.vbool (.bl b))
 | .pointer none=>some .vnilp
 | .slice none 0 0=>some .vnils
 | .nilFunc=>some .vnilf
 | .map none=>some .vnilm
 | .string s=>some (.vstr s.data.toList)
 | _=>none
def qdE:List Value->Option (List T)
 | []=>some []
 | v :: r=>match qh9 v,qdE r with
  | some t,some ts=>some (t :: ts)
  | _,_=>none
def ofValue:Value->Option SV
 | .agg cs=>(qdE cs.toList).map .agg
 | v=>(qh9 v).map .one
def opd (s:S):Operand->Option SV
 | .tmp t=>qbg t s.env
 | .const v=>ofValue v
 | .func f=>some (.fn (.func f) [] [])
 | .global _=>none
def opds (s:S):List Operand->Option (List SV)
 | []=>some []
 | x :: r=>match opd s x,opds s r with
  | some v,some vs=>some (v :: vs)
  | _,_=>none
def SV.cells:SV->Option (List T)
 | .one t=>some [t]
 | .agg ts=>some ts
 | _=>none
def qcR:List SV->Option (List T)
 | []=>some []
 | .one t :: r=>(qcR r).map (t :: ·)
 | _=>none
def qcB (P:Program) (t:TypeId):Option Bool :=
 match P.underlying t with
 | some (.struct _) | some (.array _ _)=>some true
 | some _=>some false
 | none=>none
def qao (P:Program) (t:TypeId):Option Nat:=(P.info? t).map (·.size)
def qbA (P:Program) (t:TypeId):Option (List T) :=
 match (P.info? t).bind (·.zero) with
 | some v=>qdE v.cells.toList
 | none=>none
def qmk (P:Program) (t:TypeId) (f:Nat):Option (Nat × TypeId) :=
 match P.underlying t with
 | some (.struct fs) =>
  match fs[f]? with
  | some x =>
   match qao P x.type with
   | some (_ + 1)=>some (x.offset,x.type)
   | _=>none
  | none=>none
 | _=>none
def qa4 (r:Nat):List SH->Option (Nat × SH)
 | []=>none
 | .cells r' ty cs :: l=>if Nat.beq r r' then some (0,.cells r' ty cs) else (qa4 r l).map fun (k,x)=>(k + 1,x)
 | .arr r' ty pat d cap :: l=>if Nat.beq r r' then some (0,.arr r' ty pat d cap) else (qa4 r l).map fun (k,x)=>(k + 1,x)
 | .abs _ _ :: l=>(qa4 r l).map fun (k,x)=>(k + 1,x)
def qbq (d e:T):List CK->Nat->List T
 | [],_=>[]
 | .int k :: r,c=>.vint k (.icell d e c) :: qbq d e r (c + 1)
 | .bool :: r,c=>.vbool (.bcell d e c) :: qbq d e r (c + 1)
 | .any :: r,c=>.vcell d e c :: qbq d e r (c + 1)
def SH.reg:SH->Option Nat
 | .cells r ..=>some r
 | .arr r ..=>some r
 | .abs _ _=>none
def qcj (n:Nat):List SH->Bool
 | []=>false
 | .abs m _ :: l=>Nat.beq n m || qcj n l
 | _ :: l=>qcj n l
def S.piece (s:S) (n:Nat):Bool:=qcj n s.heap || qcj n s.ro
def qxS (r:Nat) (x:SH):Bool :=
 match x.reg with
 | some q=>Nat.beq r q
 | none=>false
def qn0 (s:S) (r:Nat):List (List Nat × SH)->Option (Nat × SH)
 | []=>none
 | (ms,x) :: l=>if qxS r x && ms.all s.piece then some (0,x) else qn0 s r l
def S.look (s:S) (r:Nat):Option (Nat × SH):=((qa4 r s.heap).orElse (fun _=>qa4 r s.ro)).orElse (fun _=>qn0 s r s.vw)
def qbL (k:CK):List CK->Nat
 | []=>0
 | x :: l=>if x = k then qbL k l + 1 else 0
def qmZ (x:SH) (e:T) (p c n:Nat):Option (List T × List T) :=
 match x with
 | .cells _ _ cs =>
  match e.isLit with
  | some z=>if 0 <= z/\z.toNat * p + c + n <= cs.length then some ((cs.drop (z.toNat * p + c)).take n,[]) else none
  | none=>none
 | .arr _ _ pat d _ =>
  if Nat.beq p pat.length && Nat.ble (c + n) p then
   match qnW d e with
   | some ts=>some ((ts.drop c).take n,[])
   | none=>some (qbq d e ((pat.drop c).take n) c,[qa0 e,qs .lss e (qaw d)])
  else if Nat.beq p 1 && Nat.beq n 1 then
   match pat[c]? with
   | some (.int k)=>some ([.vint k (.c2 (.xint c) d e)],[qa0 e,qs .lss e (.lit (qbL (.int k) (pat.drop c):Nat)),qs .lss (.lit 0) (qaw d)])
   | some .bool=>some ([.vbool (.c2 (.xbool c) d e)],[qa0 e,qs .lss e (.lit (qbL .bool (pat.drop c):Nat)),qs .lss (.lit 0) (qaw d)])
   | _=>none
  else none
 | .abs _ _=>none
def qq8 (x:SH) (e:T) (p:Nat):Nat :=
 match x,e.isLit,p with
 | .arr _ _ pat _ _,some 0,0=>pat.length
 | _,_,p=>p
def qpC (x:SH) (e:T) (p c n:Nat):Option (List T × List T):=qmZ x e (qq8 x e p) c n
def qmG:CK->T->Bool
 | .int k,.c1 (.vint k') _=>decide (k = k')
 | .bool,.c1 .vbool _=>true
 | .any,.c1 (.vptr _ _ _) _=>true
 | .any,.c0 .vnilp=>true
 | .any,.c0 .vnils=>true
 | .any,.c0 .vnilm=>true
 | .any,.c3 (.vslice _ _) _ _ _=>true
 | .any,.var _=>true
 | .any,.c2 (.vcell _) (.var _) _=>true
 | _,_=>false
def qdP:List CK->List T->Bool
 | _,[]=>true
 | k :: ks,t :: ts=>qmG k t && qdP ks ts
 | [],_ :: _=>false
def qhA (x:SH) (e:T) (p c:Nat) (vs:List T):Option (SH × List T) :=
 match x with
 | .cells r ty cs =>
  match e.isLit with
  | some z=>if 0 <= z/\z.toNat * p + c + vs.length <= cs.length then some (.cells r ty (qcC cs (z.toNat * p + c) vs),[]) else none
  | none=>none
 | .arr r ty pat d cap =>
  if Nat.beq p pat.length && Nat.ble (c + vs.length) p && qdP (pat.drop c) vs then
   some (.arr r ty pat (.dput d e c (T.row vs)) cap,[qa0 e,qs .lss e (qaw d)])
  else if Nat.beq p 1 then
   match pat[c]?,vs with
   | some (.int k),[v]=>if qmG (.int k) v then some (.arr r ty pat (.c3 (.xput c) d e v) cap,[qa0 e,qs .lss e (.lit (qbL (.int k) (pat.drop c):Nat)),qs .lss (.lit 0) (qaw d)]) else none
   | some .bool,[v]=>if qmG .bool v then some (.arr r ty pat (.c3 (.xput c) d e v) cap,[qa0 e,qs .lss e (.lit (qbL .bool (pat.drop c):Nat)),qs .lss (.lit 0) (qaw d)]) else none
   | _,_=>none
  else none
 | .abs _ _=>none
structure R1 where
 needs:List T
 fresh:Nat
 heap:List SH
 val:Option SV
 deriving Inhabited
def quiet (s:S) (v:SV):R1:={ needs:=[],fresh:=0,heap:=s.heap,val:=some v }
def qfS (s:S) (r:Nat) (e:T):List T :=
 match s.look r with
 | some (_,.cells ..)=>[]
 | some (_,.arr _ _ _ d _)=>[qa0 e,qs .lss e (qaw d)]
 | _=>[.not (.isnil r)]
def qfN (place:Nat->Option (Nat × Nat)) (cells:List T):List (Nat × List T)->Option (List T)
 | []=>some cells
 | (i,vs) :: rest =>
  match place i with
  | none=>none
  | some (off,size)=>if Nat.beq vs.length size && Nat.ble (off + vs.length) cells.length then qfN place (qcC cells off vs) rest else none
def qeM (s:S):List (Nat × Operand)->Option (List (Nat × List T))
 | []=>some []
 | (i,x) :: r=>match (opd s x).bind SV.cells,qeM s r with
  | some cs,some l=>some ((i,cs) :: l)
  | _,_=>none
def qgw (P:Program):List Field->Option (List (Nat × Nat))
 | []=>some []
 | f :: fs=>match P.info? f.type,qgw P fs with
  | some i,some l=>some ((f.offset,i.size) :: l)
  | _,_=>none
def qv4 (P:Program) (t:TypeId):Option (Nat->Option (Nat × Nat)) :=
 match P.underlying t with
 | some (.struct fs)=>(qgw P fs.toList).map fun l=>fun i=>l[i]?
 | some (.array _ e)=>(qao P e).map fun n=>fun i=>some (i * n,n)
 | _=>none
def qb7 (zero:List T):Nat->List T
 | 0=>[]
 | n + 1=>zero ++ qb7 zero n
def qaP:T->CK
 | .c1 (.vint k) _=>.int k
 | .c1 .vbool _=>.bool
 | _=>.any
def qnT (s:S) (r:Nat):T :=
 match s.look r with
 | some (_,.cells ..)=>.bl false
 | some (_,.arr _ _ _ d _)=>qpA (qs .eql (qaw d) (.lit 0)) (.isnil r)
 | _=>.isnil r
def qn5 (P:Program) (f:TypeId->List T->List T->Option T) (cs ds:List T):List Field->Option T
 | []=>some (.bl true)
 | x :: fs =>
  if x.name ≠ "_" then
   match qcB P x.type,qao P x.type,qn5 P f cs ds fs with
   | some ag,some n,some r =>
    if (ag || Nat.beq n 1) && Nat.ble (x.offset + n) cs.length && Nat.ble (x.offset + n) ds.length then
     (f x.type ((cs.drop x.offset).take n) ((ds.drop x.offset).take n)).map fun a=>qpA a r
    else none
   | _,_,_=>none
  else qn5 P f cs ds fs
def eqT (P:Program):Nat->TypeId->List T->List T->Option T
 | 0,_,_,_=>none
 | n + 1,t,cs,ds =>
  match P.underlying t with
  | some (.int _)=>match cs,ds with
   | [.c1 (.vint k) a],[.c1 (.vint k') b]=>if k = k' then some (qs .eql a b) else none
   | _,_=>none
  | some .bool=>match cs,ds with
   | [.c1 .vbool a],[.c1 .vbool b]=>some (qk3 a b)
   | _,_=>none
  | some (.struct fs)=>if P.stoodInHeld t then none else qn5 P (eqT P n) cs ds fs.toList
  | _=>none
def qub (P:Program) (t:TypeId) (cs ds:List T):Option T :=
 if P.eqGuardType P.depth t then none else
 match P.underlying t with
 | some (.struct _)=>eqT P 8 t cs ds
 | _=>none
def qaV (k:IntKind):List T->Bool
 | []=>true
 | .c1 (.vint k') _ :: l=>decide (k = k') && qaV k l
 | _ :: _=>false
def quN (P:Program) (t:TypeId) (cs ds:List T):Option T :=
 if P.eqGuardType P.depth t then none else
 match P.underlying t with
 | some (.array n el) =>
  match P.underlying el,qao P el,qcB P el with
  | some (.int k),some 1,some false=>if Nat.beq cs.length n && Nat.beq ds.length n && qaV k cs && qaV k ds then some (.c2 .req (T.row cs) (T.row ds)) else none
  | _,_,_=>none
 | _=>none
def qut (P:Program) (t:TypeId) (cs ds:List T):Option T :=
 match qub P t cs ds with
 | some c=>some c
 | none=>quN P t cs ds
def qxq:List T->Option IntKind
 | .c1 (.vint k) _ :: _=>some k
 | _=>none
def qiP:List T->Bool
 | []=>true
 | .c1 .vbool _ :: l=>qiP l
 | _ :: _=>false
def qql (P:Program) (s:S) (n:Nat) (el:TypeId) (ts:List T) (j:T):Option R1 :=
 match qao P el,qcB P el with
 | some 1,some false =>
  if Nat.beq ts.length n then
   match j.isLit with
   | some z=>if 0 <= z/\z < n then (ts[z.toNat]?).map fun t=>quiet s (.one t) else none
   | none =>
    match qxq ts with
    | some k=>if qaV k ts then some { quiet s (.one (.vint k (.c2 (.xint 0) (T.row ts) j))) with needs:=[qa0 j,qs .lss j (.lit (n:Int))] } else none
    | none=>if qiP ts then some { quiet s (.one (.vbool (.c2 (.xbool 0) (T.row ts) j))) with needs:=[qa0 j,qs .lss j (.lit (n:Int))] } else none
  else none
 | _,_=>none
def qdS:T->Bool
 | .c0 (.vstr _)=>true
 | .c1 .vbytes _=>true
 | .c1 .sval _=>true
 | .c2 .sapp _ _=>true
 | .c3 .ssub _ _ _=>true
 | _=>false
def qbG:T->T
 | .c0 (.vstr l)=>.lit (l.length:Int)
 | .c1 .vbytes d=>qaw d
 | .c2 .sapp a b=>qaI (qbG a) (qbG b)
 | t=>.c1 .slen t
def qqA (a b:T):T :=
 match a,b with
 | .c0 (.vstr []),b=>b
 | a,.c0 (.vstr [])=>a
 | a,b=>.c2 .sapp a b
def qsC (op:BinOp) (P:Program) (ty:TypeId) (s:S) (x y:SV):Option R1 :=
 match x,y with
 | .one (.c1 (.vint k) a),.one (.c1 (.vint k') b) =>
  match op with
  | .shl | .shr=>some { quiet s (.one (.vint k (qeX op k a b))) with needs:=[qs .geq b (.lit 0)] }
  | .quo | .rem=>if k = k' then some { quiet s (.one (.vint k (qeX op k a b))) with needs:=[qs .neq b (.lit 0)] } else none
  | .add | .sub | .mul | .and | .or | .xor | .andNot=>if k = k' then some (quiet s (.one (.vint k (qeX op k a b)))) else none
  | .eql | .neq | .lss | .leq | .gtr | .geq=>if k = k' then some (quiet s (.one (.vbool (qs op a b)))) else none
 | .one (.c1 .vbool a),.one (.c1 .vbool b) =>
  match op,P.underlying ty with
  | .eql,some .bool=>some (quiet s (.one (.vbool (qk3 a b))))
  | .neq,some .bool=>some (quiet s (.one (.vbool (qgO (qk3 a b)))))
  | _,_=>none
 | .one (.c1 (.vptr r _ _) _),.one (.c0 .vnilp) =>
  match op,P.underlying ty with
  | .eql,some (.pointer _)=>some (quiet s (.one (.vbool (qnT s r))))
  | .neq,some (.pointer _)=>some (quiet s (.one (.vbool (qgO (qnT s r)))))
  | _,_=>none
 | .one (.c0 .vnilp),.one (.c0 .vnilp) =>
  match op,P.underlying ty with
  | .eql,some (.pointer _)=>some (quiet s (.one (.vbool (.bl true))))
  | .neq,some (.pointer _)=>some (quiet s (.one (.vbool (.bl false))))
  | _,_=>none
 | .one (.c3 (.vslice r _) _ _ _),.one (.c0 .vnils) =>
  match op,P.underlying ty with
  | .eql,some (.slice _)=>some (quiet s (.one (.vbool (qnT s r))))
  | .neq,some (.slice _)=>some (quiet s (.one (.vbool (qgO (qnT s r)))))
  | _,_=>none
 | .one (.c0 .vnils),.one (.c0 .vnils) =>
  match op,P.underlying ty with
  | .eql,some (.slice _)=>some (quiet s (.one (.vbool (.bl true))))
  | .neq,some (.slice _)=>some (quiet s (.one (.vbool (.bl false))))
  | _,_=>none
 | .agg cs,.agg ds =>
  match op,qut P ty cs ds with
  | .eql,some c=>some (quiet s (.one (.vbool c)))
  | .neq,some c=>some (quiet s (.one (.vbool (qgO c))))
  | _,_=>none
 | .one a,.one b =>
  if qdS a && qdS b then
   match op with
   | .eql=>some (quiet s (.one (.vbool (.c2 .veq a b))))
   | .neq=>some (quiet s (.one (.vbool (qgO (.c2 .veq a b)))))
   | .lss=>some (quiet s (.one (.vbool (.c2 .slt a b))))
   | .add=>some { quiet s (.one (qqA a b)) with needs:=[qs .leq (qaI (qbG a) (qbG b)) (.lit 9223372036854775807)] }
   | _=>none
  else none
 | _,_=>none
def qdp (P:Program) (t:TypeId):Option Nat:=(P.info? t).map (·.bytes)
def qe1 (pat:List CK) (p:Nat):Nat->List T->Option T
 | 0,[]=>some .dnil
 | 0,_ :: _=>none
 | n + 1,cs =>
  if Nat.ble p cs.length && qdP pat (cs.take p) then
   match qe1 pat p n (cs.drop p) with
   | some r=>some (match n with | 0=>T.row (cs.take p) | _=>.dapp (T.row (cs.take p)) r)
   | none=>none
  else none
def qhK (off:T):Option (Nat × T × List T) :=
 match off with
 | .c0 (.lit z)=>if 0 <= z then some (z.toNat,.lit 0,[]) else none
 | .c2 .plus (.c0 (.lit z)) l=>if 0 <= z then some (z.toNat,l,[]) else none
 | .ife a b _ (.c2 .plus (.c0 (.lit z)) l)=>if 0 <= z then some (z.toNat,l,[qs .neq a b]) else none
 | .var n=>some (0,.var n,[])
 | _=>none
def qfp:SH->Option (List CK × T)
 | .cells _ _ cs=>some (cs.map qaP,T.row cs)
 | .arr _ _ pat d _=>some (pat,d)
 | .abs _ _=>none
def qeU (k:CK) (pat:List CK) (z:Nat) (l len d:T) (ns:List T):List T:=ns ++ [qa0 l,qa0 len,qs .leq (qaI l len) (.lit (qbL k (pat.drop z):Nat)),qs .lss (.lit 0) (qaw d)]
structure Src where
 d:T
 len:T
 needs:List T
 deriving Inhabited
def qlO (pat:List CK) (y:SH) (off len:T):Option Src :=
 match qfp y,qhK off,pat with
 | some (pat',d),some (z,l,ns),[.int k]=>if Nat.ble z pat'.length then some ⟨.c3 .xrows d off len,len,qeU (.int k) pat' z l len d ns⟩ else none
 | _,_,_=>none
def qfk (s:S) (pat:List CK) (x:SV):Option Src :=
 match x with
 | .one (.c0 .vnils)=>some ⟨.dnil,.lit 0,[]⟩
 | .one (.c3 (.vslice r p) off len _) =>
  if !(Nat.beq p pat.length) then none else
  match s.look r with
  | some (_,.cells rr ty cs) =>
   match off.isLit,len.isLit with
   | some 0,some n =>
    if 0 <= n/\n.toNat * p <= cs.length then (qe1 pat p n.toNat (cs.take (n.toNat * p))).map fun d=>⟨d,len,[]⟩ else none
   | _,_=>qlO pat (.cells rr ty cs) off len
  | some (_,.arr rr ty pat' d cap) =>
   if !(decide (pat' = pat)) then qlO pat (.arr rr ty pat' d cap) off len else
   match off.isLit with
   | some 0=>if len.same (qaw d) then some ⟨d,len,[]⟩ else some ⟨.dtake d len,len,[qa0 len,qs .leq len (qaw d)]⟩
   | _=>some ⟨.dtake (.ddrop d off) len,len,[qa0 off,qa0 len,qs .leq (qaI off len) (qaw d)]⟩
  | _=>none
 | _=>none
def qtI (s:S) (ty:TypeId) (pat:List CK) (x:SV):Option (T × T × Option Nat × List T) :=
 match x with
 | .one (.c0 .vnils)=>some (.dnil,.lit 0,none,[])
 | .one (.c3 (.vslice r p) off len cap) =>
  if !(Nat.beq p pat.length) then none else
  match off.isLit,qa4 r s.heap with
  | some 0,some (k,.arr _ ty' pat' d cap') =>
   if Nat.beq ty ty' && decide (pat' = pat) then some (d,len,some k,[qs .eql len (qaw d),qs .eql cap cap']) else none
  | some 0,some (k,.cells _ ty' []) =>
   if Nat.beq ty ty' then some (.dnil,.lit 0,some k,[qs .eql len (.lit 0),qs .eql cap (.lit 0)]) else none
  | some 0,some (k,.cells _ ty' (c :: cs)) =>
   match len.isLit with
   | some n =>
    match qe1 pat p n.toNat (c :: cs) with
    | some d=>if Nat.beq ty ty' && decide (0 <= n) && Nat.beq (c :: cs).length (n.toNat * p) then some (d,len,some k,[qs .eql cap len]) else none
    | none=>none
   | none=>none
  | _,_=>none
 | _=>none
def T.inB (n:Nat):T->Bool
 | .var m=>Nat.blt m n
 | .c0 (.isnil r)=>Nat.blt r n
 | .c0 _=>true
 | .c1 (.vptr r _ _) a=>Nat.blt r n && a.inB n
 | .c1 _ a=>a.inB n
 | .c2 _ a b=>a.inB n && b.inB n
 | .c3 (.vslice r _) a b c=>Nat.blt r n && a.inB n && b.inB n && c.inB n
 | .c3 _ a b c=>a.inB n && b.inB n && c.inB n
 | .ife a b x y=>a.inB n && b.inB n && x.inB n && y.inB n
def SH.inNx0 (n:Nat):SH->Bool
 | .cells r _ cs=>Nat.blt r n && cs.all (T.inB n)
 | .arr r _ _ d cap=>Nat.blt r n && d.inB n && cap.inB n
 | .abs m _=>Nat.blt m n
def qgU (a b:T):T :=
 match a with
 | .c0 .dnil=>b
 | a=>.dapp a b
def qrt (l:List SH):Option Nat->List SH
 | none=>l
 | some k=>l.eraseIdx k
def qiD (P:Program) (s:S) (t:TypeId) (x y:SV):Option R1 :=
 match P.underlying t with
 | some (.slice el) =>
  match qbA P el,qao P el,qdp P el with
  | some z,some n,some bz =>
   if Nat.beq z.length n && Nat.blt 0 n && Nat.blt 0 bz then
    match qtI s el (z.map qaP) x,qfk s (z.map qaP) y with
    | some (d,len,k,n1),some src=>if !((qgU d src.d).inB s.nx && (qaI len src.len).inB s.nx) then none else some { needs:=n1 ++ src.needs ++ [qs .leq (.tims (.lit bz) (qaI len src.len)) (.lit 140737488355328)],fresh:=2,heap:=.arr s.nx el (z.map qaP) (qgU d src.d) (.var (s.nx + 1)) :: qrt s.heap k,val:=some (.one (.vslice s.nx (.lit 0) (qaI len src.len) (.var (s.nx + 1)) n)) }
    | _,_=>none
   else none
  | _,_,_=>none
 | _=>none
def qlF (P:Program) (s:S) (t:TypeId) (l c:SV):Option R1 :=
 match P.underlying t,l,c with
 | some (.slice el),.one (.c1 (.vint _) l),.one (.c1 (.vint _) c) =>
  match qbA P el,qao P el,qdp P el with
  | some z,some n,some bz =>
   if Nat.beq z.length n && Nat.blt 0 n && Nat.blt 0 bz then
    some { needs:=[qa0 l,qs .leq l c,qs .leq (.tims (.lit bz) c) (.lit 281474976710656)],fresh:=1,heap:=.arr s.nx el (z.map qaP) (.drep l (T.row z)) c :: s.heap,val:=some (.one (.vslice s.nx (.lit 0) l c n)) }
   else none
  | _,_,_=>none
 | _,_,_=>none
def qhb (P:Program) (s:S) (t:TypeId) (l:T):Option R1 :=
 match P.underlying t with
 | some (.slice el) =>
  match qbA P el,qao P el,qdp P el with
  | some z,some n,some bz =>
   if Nat.beq z.length n && Nat.blt 0 n && Nat.blt 0 bz && l.inB s.nx then
    some { needs:=[qa0 l,qs .leq (.tims (.lit bz) l) (.lit 140737488355328)],fresh:=2,heap:=.arr s.nx el (z.map qaP) (.drep l (T.row z)) (.var (s.nx + 1)) :: s.heap,val:=some (.one (.vslice s.nx (.lit 0) l (.var (s.nx + 1)) n)) }
   else none
  | _,_,_=>none
 | _=>none
def qbM (s:S) (dflt:T):Option Operand->Option T
 | none=>some dflt
 | some x=>match opd s x with
  | some (.one (.c1 (.vint _) t))=>some t
  | _=>none
def qqP (l m off:T):T :=
 match l.isLit with
 | some 0=>off
 | _=>qd7 m l off (qaI off l)
def qnC (l m:T) (c:Nat):T :=
 match l.isLit with
 | some 0=>.lit (c:Int)
 | _=>qd7 m l (.lit (c:Int)) (.plus (.lit (c:Int)) l)
def qob (P:Program) (s:S) (t:TypeId) (x:SV) (lo hi mx:Option Operand):Option R1 :=
 match P.underlying t,x with
 | some (.slice el),.one (.c0 .vnils) =>
  match qao P el,qbM s (.lit 0) lo,qbM s (.lit 0) hi,qbM s (.lit 0) mx with
  | some _,some (.c0 (.lit 0)),some (.c0 (.lit 0)),some (.c0 (.lit 0))=>if mx.isNone || hi.isSome then some (quiet s (.one .vnils)) else none
  | _,_,_,_=>none
 | some (.slice el),.one (.c3 (.vslice r p) off len cap) =>
  match qao P el,qbM s (.lit 0) lo,qbM s len hi,qbM s cap mx with
  | some n,some l,some h,some m =>
   if Nat.beq n p && (mx.isNone || hi.isSome) then
    some { quiet s (.one (.vslice r (qqP l m off) (qgj h l) (qgj m l) p)) with
     needs:=[qa0 off,qa0 len,qa0 cap,qa0 l,qs .leq l h,qs .leq h m,qs .leq m cap] }
   else none
  | _,_,_,_=>none
 | some (.array n el),.one (.c1 (.vptr r _ c) e) =>
  match qao P el,e.isLit,qbM s (.lit 0) lo,qbM s (.lit (n:Int)) hi,qbM s (.lit (n:Int)) mx with
  | some 1,some 0,some l,some h,some m =>
   if mx.isNone || hi.isSome then
    some { quiet s (.one (.vslice r (qnC l m c) (qgj h l) (qgj m l) 1)) with
     needs:=[qa0 l,qs .leq l h,qs .leq h m,qs .leq m (.lit (n:Int))] ++ qfS s r e }
   else none
  | _,_,_,_,_=>none
 | some .string,.one a =>
  if qdS a && mx.isNone then
   match qbM s (.lit 0) lo,qbM s (qbG a) hi with
   | some l,some h=>some { quiet s (.one (.c3 .ssub a l h)) with needs:=[qa0 l,qs .leq l h,qs .leq h (qbG a)] }
   | _,_=>none
  else none
 | _,_=>none
def qq (P:Program) (s:S) (o:Oper):Option R1 :=
 match o.op with
 | .call { callee:=.builtin .append,args,argTypes } =>
  match args.toList,argTypes.toList with
  | [x,y],[t,t2] =>
   if Nat.beq t t2 then
    match opd s x,opd s y with
    | some a,some b=>qiD P s t a b
    | _,_=>none
   else
    match P.underlying t2,opd s x,opd s y with
    | some (.int _),some (.one (.c0 .vnils)),some (.one (.c1 (.vint _) l))=>qhb P s t l
    | _,_,_=>none
  | _,_=>none
 | .makeSlice t l c =>
  match opd s l,opd s c with
  | some a,some b=>qlF P s t a b
  | _,_=>none
 | .slice t x lo hi mx =>
  match opd s x with
  | some a=>qob P s t a lo hi mx
  | none=>none
 | .move x | .assign x=>(opd s x).map (quiet s)
 | .pick c a b =>
  match opd s c with
  | some (.one (.c1 .vbool t)) =>
   match qfs t s.pc with
   | some true=>(opd s a).map (quiet s)
   | some false=>(opd s b).map (quiet s)
   | none=>none
  | _=>none
 | .box ty x =>
  match (opd s x).bind SV.cells with
  | some cs=>some { needs:=[],fresh:=1,heap:=.cells s.nx ty cs :: s.heap,val:=some (.one (.vptr s.nx (.lit 0) 0 0)) }
  | none=>none
 | .alloc ty =>
  match qbA P ty with
  | some cs=>some { needs:=[],fresh:=1,heap:=.cells s.nx ty cs :: s.heap,val:=some (.one (.vptr s.nx (.lit 0) 0 0)) }
  | none=>none
 | .build t parts =>
  match qbA P t,qv4 P t,qeM s parts.toList with
  | some z,some pl,some ps=>(qfN pl z ps).map fun cs=>quiet s (.agg cs)
  | _,_,_=>none
 | .buildSlice t len parts =>
  match P.underlying t with
  | some (.slice el) =>
   match qbA P el,qao P el,qeM s parts.toList with
   | some z,some n,some ps =>
    if Nat.beq z.length n && Nat.blt 0 n && Nat.ble (len * n) 16777216 then
     match qfN (fun i=>some (i * n,n)) (qb7 z len) ps with
     | some cs=>some { needs:=[],fresh:=1,heap:=.cells s.nx el cs :: s.heap,val:=some (.one (.vslice s.nx (.lit 0) (.lit len) (.lit len) n)) }
     | none=>none
    else none
   | _,_,_=>none
  | _=>none
 | .load t a =>
  match opd s a,qcB P t,qao P t with
  | some (.one (.c1 (.vptr r p c) e)),some ag,some n =>
   match s.look r with
   | some (_,x) =>
    match qpC x e p c n with
    | some (cs,needs)=>if ag then some { quiet s (.agg cs) with needs } else
     match cs with
     | [t]=>some { quiet s (.one t) with needs }
     | _=>none
    | none=>none
   | none=>none
  | _,_,_=>none
 | .store t a v =>
  match opd s a,(opd s v).bind SV.cells,qao P t with
  | some (.one (.c1 (.vptr r p c) e)),some vs,some n =>
   if Nat.beq vs.length n then
    match qa4 r s.heap with
    | some (k,x)=>(qhA x e p c vs).map fun (x',needs)=>{ needs,fresh:=0,heap:=s.heap.set k x',val:=none }
    | none=>none
   else none
  | _,_,_=>none
 | .nilCheck x =>
  match opd s x with
  | some (.one (.c1 (.vptr r p c) e))=>some { quiet s (.one (.vptr r e p c)) with needs:=qfS s r e }
  | _=>none
 | .binOp op ty x y _ =>
  match opd s x,opd s y with
  | some a,some b=>qsC op P ty s a b
  | _,_=>none
 | .unOp op _ x =>
  match op,opd s x with
  | .not,some (.one (.c1 .vbool t))=>some (quiet s (.one (.vbool (qgO t))))
  | .neg,some (.one (.c1 (.vint k) t))=>some (quiet s (.one (.vint k (qeX .sub k (.lit 0) t))))
  | .xor,some (.one (.c1 (.vint k) t))=>some (quiet s (.one (.vint k (qeX .xor k (.lit (if k.signed then -1 else k.max)) t))))
  | _,_=>none
 | .convert src dst x =>
  match P.underlying src,P.underlying dst,opd s x with
  | some _,some (.int k),some (.one (.c1 (.vint _) t))=>some (quiet s (.one (.vint k (qqe k t))))
  | some (.slice e),some .string,some v =>
   match P.underlying e,qfk s [.int .u8] v with
   | some (.int .u8),some src=>some { quiet s (.one (.c1 .vbytes src.d)) with needs:=src.needs }
   | _,_=>none
  | _,_,_=>none
 | .fieldAddr t x f =>
  match opd s x,qmk P t f with
  | some (.one (.c1 (.vptr r p c) e)),some (off,_)=>some { quiet s (.one (.vptr r e p (c + off))) with needs:=qfS s r e }
  | _,_=>none
 | .field t x f =>
  match opd s x,qmk P t f with
  | some (.agg cs),some (off,u) =>
   match qcB P u,qao P u with
   | some true,some n=>if Nat.ble (off + n) cs.length then some (quiet s (.agg ((cs.drop off).take n))) else none
   | some false,_=>(cs[off]?).map fun t=>quiet s (.one t)
   | _,_=>none
  | _,_=>none
 | .indexAddr t x i =>
  match P.underlying t,opd s x,opd s i with
  | some (.slice el),some (.one (.c3 (.vslice r p) off len _)),some (.one (.c1 (.vint _) j)) =>
   match qao P el with
   | some n=>if Nat.beq n p then some { quiet s (.one (.vptr r (qaI off j) p 0)) with
     needs:=[qa0 j,qs .lss j len,qa0 off] ++ qfS s r (qaI off j) } else none
   | none=>none
  | some (.array m el),some (.one (.c1 (.vptr r p c) e)),some (.one (.c1 (.vint _) j)) =>
   match qao P el,j.isLit with
   | some n,some z=>if 0 <= z/\z < m then some { quiet s (.one (.vptr r e p (c + z.toNat * n))) with needs:=qfS s r e } else none
   | some n,none=>if e.isLit = some 0 then some { quiet s (.one (.vptr r j n c)) with needs:=qa0 j :: qs .lss j (.lit (m:Int)) :: qfS s r e } else none
   | _,_=>none
  | _,_,_=>none
 | .extract x i =>
  match opd s x with
  | some (.tup vs) =>
   match vs[i]? with
   | some (true,ts)=>some (quiet s (.agg ts))
   | some (false,[t])=>some (quiet s (.one t))
   | _=>none
  | _=>none
 | .makeFunc fn first captured =>
  match (opds s first.toList).bind qcR,(opds s captured.toList).bind qcR with
  | some a,some b=>some (quiet s (.fn fn a b))
  | _,_=>none
 | .call { callee:=.builtin .len,args,argTypes } =>
  match (argTypes[0]?).bind P.underlying,args.toList with
  | some (.slice _),[x] =>
   match opd s x with
   | some (.one (.c3 (.vslice _ _) _ len _))=>some { quiet s (.one (.vint .i64 len)) with needs:=[qa0 len] }
   | some (.one (.c0 .vnils))=>some (quiet s (.one (.vint .i64 (.lit 0))))
   | _=>none
  | some .string,[x] =>
   match opd s x with
   | some (.one t)=>if qdS t then some (quiet s (.one (.vint .i64 (qbG t)))) else none
   | _=>none
  | _,_=>none
 | .call { callee:=.builtin .cap,args,argTypes } =>
  match (argTypes[0]?).bind P.underlying,args.toList with
  | some (.slice _),[x] =>
   match opd s x with
   | some (.one (.c3 (.vslice _ _) _ _ cap))=>some { quiet s (.one (.vint .i64 cap)) with needs:=[qa0 cap] }
   | some (.one (.c0 .vnils))=>some (quiet s (.one (.vint .i64 (.lit 0))))
   | _=>none
  | _,_=>none
 | .index t x i =>
  match P.underlying t,opd s x,opd s i with
  | some .string,some (.one a),some (.one (.c1 (.vint _) j)) =>
   if qdS a then some { quiet s (.one (.vint .u8 (.c2 .sat a j))) with needs:=[qa0 j,qs .lss j (qbG a)] } else none
  | some (.array n el),some (.agg ts),some (.one (.c1 (.vint _) j))=>qql P s n el ts j
  | _,_,_=>none
 | .call { callee:=.builtin .min,args,.. } =>
  match opds s args.toList with
  | some [.one (.c1 (.vint k) a),.one (.c1 (.vint _) b)]=>some (quiet s (.one (.vint k (qts a b))))
  | _=>none
 | .call { callee:=.builtin .max,args,.. } =>
  match opds s args.toList with
  | some [.one (.c1 (.vint k) a),.one (.c1 (.vint _) b)]=>some (quiet s (.one (.vint k (quM a b))))
  | _=>none
 | _=>none
def qlK (P:Program) (s:S) (t:TypeId) (x y:SV):Option R1 :=
 match P.underlying t,x with
 | some (.slice el),.one (.c3 (.vslice r p) off len cap) =>
  match qbA P el,qao P el,qdp P el with
  | some z,some n,some _ =>
   if Nat.beq z.length n && Nat.blt 0 n && Nat.beq n p then
    match off.isLit,qa4 r s.heap,qfk s (z.map qaP) y with
    | some 0,some (k,.arr rr ty pat d capA),some src =>
     match slen src.d,qaq src.d 0 with
     | some 1,some ts =>
      if Nat.beq ts.length n && decide (pat = z.map qaP) then
       match qhA (.arr rr ty pat d capA) len n 0 ts with
       | some (x',ns) =>
        if (s.heap.set k x').all (SH.inNx0 s.nx) && (qaI len (.lit 1)).inB s.nx && cap.inB s.nx && Nat.blt r s.nx then
         some { needs:=qs .leq (qaI len (.lit 1)) cap :: qs .eql src.len (.lit 1) :: ns ++ src.needs,fresh:=1,heap:=s.heap.set k x',val:=some (.one (.vslice r (.lit 0) (qaI len (.lit 1)) cap p)) }
        else none
       | none=>none
      else none
     | _,_=>none
    | _,_,_=>none
   else none
  | _,_,_=>none
 | _,_=>none
def qiy (P:Program) (s:S) (t:TypeId) (x y:SV):Option R1 :=
 match P.underlying t,x with
 | some (.slice el),.one (.c3 (.vslice r p) off len cap) =>
  match qbA P el,qao P el,qdp P el with
  | some z,some n,some bz =>
   if Nat.beq z.length n && Nat.blt 0 n && Nat.blt 0 bz then
    match qfk s (z.map qaP) (.one (.c3 (.vslice r p) off len cap)),qfk s (z.map qaP) y with
    | some sx,some sy =>
     if !((qgU sx.d sy.d).inB s.nx && (qaI len sy.len).inB s.nx) then none else
      some { needs:=sx.needs ++ sy.needs ++ [qs .eql len sx.len,qs .eql cap len,qs .leq (.lit 1) sy.len,qs .leq (.tims (.lit bz) (qaI len sy.len)) (.lit 140737488355328)],fresh:=2,heap:=.arr s.nx el (z.map qaP) (qgU sx.d sy.d) (.var (s.nx + 1)) :: s.heap,val:=some (.one (.vslice s.nx (.lit 0) (qaI len sy.len) (.var (s.nx + 1)) n)) }
    | _,_=>none
   else none
  | _,_,_=>none
 | _,_=>none
def qje (P:Program) (s:S) (t:TypeId) (x:SV):Option R1 :=
 match P.underlying t,x with
 | some (.slice el),.one (.c3 (.vslice r p) off len _) =>
  match qbA P el,qao P el with
  | some z,some n =>
   if Nat.beq z.length n && Nat.blt 0 n && Nat.beq n p then
    match qa4 r s.heap with
    | some (k,.arr rr ty pat d capA) =>
     if Nat.beq pat.length p && (s.heap.set k (.arr rr ty pat (.dtake d (qd7 len (.lit 0) (qaw d) off)) capA)).all (SH.inNx0 s.nx) then
      some { needs:=[qa0 off,qa0 len,qs .leq (qaI off len) (qaw d)],fresh:=1,heap:=s.heap.set k (.arr rr ty pat (.dtake d (qd7 len (.lit 0) (qaw d) off)) capA),val:=some (.tup []) }
     else none
    | _=>none
   else none
  | _,_=>none
 | _,_=>none
def qd6 (t:Nat):List (Nat × Nat)->Option Nat
 | []=>none
 | (k,v) :: r=>if Nat.beq t k then some v else qd6 t r
def qp9 (o:Oper) (ip:List (Nat × Nat)) (m:Nat):Bool :=
 match o.dst with
 | some t=>match qd6 t ip with
  | some k=>Nat.beq k m
  | none=>false
 | none=>false
def qfc (ip:List (Nat × Nat)) (s:S) (o:Oper):S :=
 match o.op with
 | .call { callee:=.builtin .append,args,.. } =>
  if qp9 o ip 1 then
   match args.toList with
   | x :: _ =>
    match opd s x with
    | some (.one (.c3 (.vslice r _) _ len _)) =>
     match qa4 r s.heap with
     | some (k,.arr rr ty pat d cap)=>{ s with heap:=s.heap.set k (.arr rr ty pat (.dtake d len) cap) }
     | _=>s
    | _=>s
   | []=>s
  else s
 | _=>s
def qc5 (len:T) (src:Src):T:=if len.same src.len then len else .imin len src.len
def qb5 (len:T) (src:Src):T:=if len.same src.len then src.d else .dtake src.d (.imin len src.len)
def qlw (P:Program) (s:S) (t:TypeId) (x y:SV):Option R1 :=
 match P.underlying t,x with
 | some (.slice el),.one (.c3 (.vslice r p) off len _) =>
  match qbA P el,qao P el with
  | some z,some n =>
   if Nat.beq z.length 1 && Nat.beq n 1 && Nat.beq p 1 then
    match qa4 r s.heap,qfk s (z.map qaP) y with
    | some (k,.arr rr ty pat d capA),some src =>
     if decide (pat = z.map qaP) && (s.heap.set k (.arr rr ty pat (.c3 .dsplice d off (qb5 len src)) capA)).all (SH.inNx0 s.nx) && (qc5 len src).inB s.nx then
      some { needs:=[qa0 off,qa0 len,qs .leq (qaI off len) (qaw d)] ++ src.needs,fresh:=1,heap:=s.heap.set k (.arr rr ty pat (.c3 .dsplice d off (qb5 len src)) capA),val:=some (.one (.vint .i64 (qc5 len src))) }
     else none
    | _,_=>none
   else none
  | _,_=>none
 | _,_=>none
def qjp (P:Program) (s:S) (t:TypeId) (x y:SV):Option R1 :=
 match P.underlying t,x with
 | some (.slice el),.one (.c3 (.vslice r p) off len _) =>
  match qbA P el,qao P el with
  | some [z],some 1 =>
   match qaP z,qa4 r s.heap,qfk s [qaP z] y,qhK off with
   | .int kk,some (k,x),some src,some (zz,l,ns) =>
    match qfp x,x with
    | some (pat,d),.cells rr ty _ =>
     if Nat.beq p 1 && Nat.ble zz pat.length && !(decide (pat = [.int kk])) && (s.heap.set k (.arr rr ty pat (.c3 .xcopy d off (qb5 len src)) (.lit 1))).all (SH.inNx0 s.nx) && (qc5 len src).inB s.nx then
      some { needs:=qeU (.int kk) pat zz l len d ns ++ src.needs,fresh:=1,heap:=s.heap.set k (.arr rr ty pat (.c3 .xcopy d off (qb5 len src)) (.lit 1)),val:=some (.one (.vint .i64 (qc5 len src))) }
     else none
    | some (pat,d),.arr rr ty _ _ cap =>
     if Nat.beq p 1 && Nat.ble zz pat.length && !(decide (pat = [.int kk])) && (s.heap.set k (.arr rr ty pat (.c3 .xcopy d off (qb5 len src)) cap)).all (SH.inNx0 s.nx) && (qc5 len src).inB s.nx then
      some { needs:=qeU (.int kk) pat zz l len d ns ++ src.needs,fresh:=1,heap:=s.heap.set k (.arr rr ty pat (.c3 .xcopy d off (qb5 len src)) cap),val:=some (.one (.vint .i64 (qc5 len src))) }
     else none
    | _,_=>none
   | _,_,_,_=>none
  | _,_=>none
 | _,_=>none
def qmj (P:Program) (ip:List (Nat × Nat)) (s:S) (o:Oper):Option R1 :=
 match o.op with
 | .load t (.global g) =>
  match qd6 (2000 + g) ip,qcB P t,qao P t with
  | some R,some ag,some n =>
   match s.look R with
   | some (_,x) =>
    match qpC x (.lit 0) n 0 n with
    | some (cs,needs)=>if ag then some { quiet s (.agg cs) with needs:=.c1 (.isg g) (.var R) :: needs } else
     match cs with
     | [t]=>some { quiet s (.one t) with needs:=.c1 (.isg g) (.var R) :: needs }
     | _=>none
    | none=>none
   | none=>none
  | _,_,_=>none
 | .indexAddr t (.global g) i =>
  match qd6 (2000 + g) ip,P.underlying t,opd s i with
  | some R,some (.array m el),some (.one (.c1 (.vint _) j)) =>
   match qao P el with
   | some n=>some { quiet s (.one (.vptr R j n 0)) with needs:=[.c1 (.isg g) (.var R),qa0 j,qs .lss j (.lit (m:Int))] }
   | none=>none
  | _,_,_=>none
 | _=>qq P s o
def qtm (P:Program) (ip:List (Nat × Nat)) (s:S) (o:Oper):Option R1 :=
 match o.op with
 | .call { callee:=.builtin .append,args,argTypes } =>
  if qp9 o ip 0 then
   match args.toList,argTypes.toList with
   | [x,y],[t,t2] =>
    if Nat.beq t t2 then
     match opd s x,opd s y with
     | some a,some b=>qlK P s t a b
     | _,_=>none
    else none
   | _,_=>none
  else
   match qmj P ip s o with
   | some r=>some r
   | none =>
    match args.toList,argTypes.toList with
    | [x,y],[t,t2] =>
     if Nat.beq t t2 then
      match opd s x,opd s y with
      | some a,some b=>qiy P s t a b
      | _,_=>none
     else none
    | _,_=>none
 | .call { callee:=.builtin .clear,args,argTypes } =>
  match args.toList,argTypes.toList with
  | [x],[t] =>
   match opd s x with
   | some a=>qje P s t a
   | none=>none
  | _,_=>none
 | .call { callee:=.builtin .copy,args,argTypes } =>
  match args.toList,argTypes.toList with
  | [x,y],[t,t2] =>
   match opd s x,opd s y with
   | some a,some b =>
    match qlw P s t a b with
    | some r=>some r
    | none=>qjp P s t a b
   | _,_=>none
  | _,_=>none
 | _=>qmj P ip s o
structure MT where
 kagg:Bool
 kks:List IntKind
 vagg:Bool
 vpat:List CK
 zero:List T
 deriving Inhabited
structure ME where
 k:List Int
 v:List Value
 born:Nat
def mkV:Bool->List Value->Value
 | true,l=>.agg l.toArray
 | false,l=>l.headD .nilFunc
def qaJ (ks:List IntKind) (l:List Int):List Value:=List.zipWith Value.int ks l
def MT.ent (mt:MT) (x:ME):MapEntry:={ key:=mkV mt.kagg (qaJ mt.kks x.k),val:=mkV mt.vagg x.v,born:=x.born }
def MWf (mt:MT) (l:List ME) (clock:Nat):Prop :=
 (∀ x ∈ l,x.k.length = mt.kks.length/\qX mt.vpat x.v/\x.born < clock)/\l.Pairwise fun x y=>x.born < y.born/\x.k ≠ y.k
def MT.obj (mt:MT) (x:List ME × Nat):Obj:=.map (x.1.map mt.ent).toArray x.2
def qj4 (h:Hp) (b:Nat) (mt:MT) (l:List ME) (clock:Nat):Prop:=h b = some (mt.obj (l,clock))/\MWf mt l clock
def qep (l:List ME) (k:List Int) (z:List Value):List Value :=
 match l.find? (fun x=>x.k == k) with
 | some x=>x.v
 | none=>z
def qdJ (l:List ME) (k:List Int):Bool:=l.any fun x=>x.k == k
def qlE (l:List ME) (k:List Int) (v:List Value) (clock:Nat):List ME × Nat :=
 if qdJ l k then (l.map fun x=>if x.k = k then { x with v:=v } else x,clock) else (l ++ [⟨k,v,clock⟩],clock + 1)
def qju (l:List ME) (k:List Int):List ME:=l.filter fun x=>decide (x.k ≠ k)
inductive MK where
 | new
 | get (x:T) (ks:List T) (mt:MT) (ms:List Nat)
 | put (m:Nat) (x:T) (ks vs:List T) (mt:MT)
 | del (m:Nat) (x:T) (ks:List T) (mt:MT)
 | len (x:T) (mt:MT) (ms:List Nat)
 | isnil (x:T)
 | range (x:T) (mt:MT) (ms:List Nat)
 | next (m:Nat) (x:T) (mt:MT) (ms:List Nat)
 | entry (m:Nat) (x:T) (mt:MT) (ms:List Nat)
 deriving Inhabited
def qbF (Z:Env) (ks:List T):List Int:=ks.map fun t=>(t.den Z).i
def MK.sem (Z:Env) (J1 J2:List U->Prop):MK->Prop
 | .new=>∀ u:U,u.good->∀ v:U,v.good->(∃ b,v.v = .map (some b)/\u.h = Hp.one b (.map #[] 0))->J1 [u,v]
 | .get x ks mt ms=>∃ l:List ME,(((x.den Z).v = .map none/\l = [])∨∃ m ∈ ms,∃ b clock,(x.den Z).v = .map (some b)/\qj4 (Z m).h b mt l clock) /\
   J1 [{ d:=[qep l (qbF Z ks) (qa Z mt.zero)],b:=qdJ l (qbF Z ks) }]
 | .put m x ks vs mt=>∃ b l clock,(x.den Z).v = .map (some b)/\qj4 (Z m).h b mt l clock /\
   ∀ u:U,u.good->u.h = Hp.upd (Z m).h b (mt.obj (qlE l (qbF Z ks) (qa Z vs) clock))->J1 [u]
 | .del m x ks mt=>∃ b l clock,(x.den Z).v = .map (some b)/\qj4 (Z m).h b mt l clock /\
   ∀ u:U,u.good->u.h = Hp.upd (Z m).h b (mt.obj (qju l (qbF Z ks),clock))->J1 [u]
 | .len x mt ms=>∃ l:List ME,(((x.den Z).v = .map none/\l = [])∨∃ m ∈ ms,∃ b clock,(x.den Z).v = .map (some b)/\qj4 (Z m).h b mt l clock)/\J1 [{ i:=(l.length:Int) }]
 | .isnil x=>((x.den Z).v = .map none/\J1 [{ b:=true }])∨((∃ r,(x.den Z).v = .map (some r))/\J1 [{ b:=false }])
 | .range x mt ms=>∃ (mo:Option Nat) (clock:Nat),(((x.den Z).v = .map none/\mo = none/\clock = 0)∨∃ m ∈ ms,∃ b l,(x.den Z).v = .map (some b)/\mo = some b/\qj4 (Z m).h b mt l clock) /\
   ∀ u:U,u.good->∀ v:U,v.good->(∃ b',v.v = .pointer (some ⟨b',0,none⟩)/\u.h = Hp.one b' (.mapIter mo clock #[] clock))->J1 [u,v]
 | .next m x mt ms=>∃ (b' since:Nat) (seen:List Nat) (stepped:Nat) (mo:Option Nat),(x.den Z).v = .pointer (some ⟨b',0,none⟩)/\(Z m).h b' = some (.mapIter mo since seen.toArray stepped) /\
   match mo with
   | none=>J2 []
   | some b=>∃ l clock,(∃ n ∈ ms,qj4 (Z n).h b mt l clock)/\(seen = []∨l = []∨∃ e ∈ l,e.born < stepped) /\
     ((∀ e ∈ l,e.born < since->e.born ∈ seen)->J2 []) /\
     ∀ e ∈ l,e.born ∉ seen->∀ u:U,u.good->u.h = Hp.upd (Z m).h b' (.mapIter (some b) since (seen ++ [e.born]).toArray clock)->J1 [u,{ d:=[qaJ mt.kks e.k] },{ d:=[e.v] }]
 | .entry m x mt ms=>∃ (b' since:Nat) (seen:List Nat) (clock b:Nat) (l:List ME) (e:ME),(x.den Z).v = .pointer (some ⟨b',0,none⟩)/\(Z m).h b' = some (.mapIter (some b) since (seen ++ [e.born]).toArray clock) /\
   (∃ n ∈ ms,qj4 (Z n).h b mt l clock)/\e ∈ l/\J1 [{ d:=[qaJ mt.kks e.k] },{ d:=[e.v] }]
def qcS:List SH->Option (Nat × Nat)
 | []=>none
 | .abs m t :: l=>if Nat.beq t 1003 then some (0,m) else (qcS l).map fun (k,x)=>(k + 1,x)
 | _ :: l=>(qcS l).map fun (k,x)=>(k + 1,x)
def qaF:List SH->List Nat
 | []=>[]
 | .abs m t :: l=>if Nat.beq t 1003 then m :: qaF l else qaF l
 | _ :: l=>qaF l
def qfg:List IntKind->List T->Option (List T)
 | [],[]=>some []
 | k :: ks,.c1 (.vint k') t :: ts=>if k = k' then (qfg ks ts).map (t :: ·) else none
 | _,_=>none
def qb3 (n:Nat):List CK->Nat->List T
 | [],_=>[]
 | .int k :: r,c=>.vint k (.c2 (.xint c) (.var n) (.lit 0)) :: qb3 n r (c + 1)
 | .bool :: r,c=>.vbool (.c2 (.xbool c) (.var n) (.lit 0)) :: qb3 n r (c + 1)
 | .any :: r,c=>.vcell (.var n) (.lit 0) c :: qb3 n r (c + 1)
def qwS:Bool->List T->Option SV
 | true,ts=>some (.agg ts)
 | false,[t]=>some (.one t)
 | _,_=>none
def qef (s:S) (b:Bool) (x:Operand):Option (List T) :=
 match b,opd s x with
 | true,some (.agg ts)=>some ts
 | false,some (.one t)=>some [t]
 | _,_=>none
def qx4 (P:Program) (t:TypeId):Option (Bool × List IntKind) :=
 match P.underlying t with
 | some (.int k)=>some (false,[k])
 | some (.array n el) =>
  match P.underlying el,qao P el,qcB P el with
  | some (.int k),some 1,some false=>some (true,List.replicate n k)
  | _,_,_=>none
 | _=>none
def qyX (P:Program) (t:TypeId):Option Bool :=
 match (P.info? t).bind (·.zero) with
 | some (.agg _)=>some true
 | some _=>some false
 | none=>none
def mtP (P:Program) (t:TypeId):Option MT :=
 match P.underlying t with
 | some (.map k e) =>
  match qx4 P k,qyX P e,qbA P e with
  | some (ka,ks),some va,some z=>if va || Nat.beq z.length 1 then some ⟨ka,ks,va,z.map qaP,z⟩ else none
  | _,_,_=>none
 | _=>none
def qyI (P:Program) (ip:List (Nat × Nat)) (x:Operand):Option MT :=
 match x with
 | .tmp t=>match ip.find? (fun e=>Nat.beq e.1 (5000 + t)) with
  | some (_,ty)=>mtP P ty
  | none=>none
 | _=>none
structure MB where
 fresh:Nat
 heap:List SH
 val:Option SV
 deriving Inhabited
structure MR where
 k:MK
 a:MB
 b:Option MB
 deriving Inhabited
def qkv (s:S):MR:=⟨.new,⟨2,.abs s.nx 1003 :: s.heap,some (.one (.var (s.nx + 1)))⟩,none⟩
def qjj (P:Program) (s:S) (t:TypeId) (x i:Operand) (ck:Bool):Option MR :=
 match mtP P t,opd s x with
 | some mt,some (.one xt) =>
  match (qef s mt.kagg i).bind (qfg mt.kks),qwS mt.vagg (qb3 s.nx mt.vpat 0) with
  | some ks,some v=>some ⟨.get xt ks mt (qaF s.heap ++ qaF s.ro),⟨1,s.heap,some (if ck then .tup [(mt.vagg,qb3 s.nx mt.vpat 0),(false,[.vbool (.var s.nx)])] else v)⟩,none⟩
  | _,_=>none
 | _,_=>none
def qip (P:Program) (s:S) (t:TypeId) (x k v:Operand):Option MR :=
 match mtP P t,opd s x,qcS s.heap with
 | some mt,some (.one xt),some (pos,m) =>
  match (qef s mt.kagg k).bind (qfg mt.kks),qef s mt.vagg v with
  | some ks,some vs=>if qdP mt.vpat vs && Nat.beq vs.length mt.vpat.length then some ⟨.put m xt ks vs mt,⟨1,s.heap.set pos (.abs s.nx 1003),none⟩,none⟩ else none
  | _,_=>none
 | _,_,_=>none
def qj2 (P:Program) (s:S) (t:TypeId) (x k:Operand):Option MR :=
 match mtP P t,opd s x,qcS s.heap with
 | some mt,some (.one xt),some (pos,m) =>
  match (qef s mt.kagg k).bind (qfg mt.kks) with
  | some ks=>some ⟨.del m xt ks mt,⟨1,s.heap.set pos (.abs s.nx 1003),some (.tup [])⟩,none⟩
  | none=>none
 | _,_,_=>none
def qqD (P:Program) (s:S) (t:TypeId) (x:Operand):Option MR :=
 match mtP P t,opd s x with
 | some mt,some (.one xt)=>some ⟨.len xt mt (qaF s.heap ++ qaF s.ro),⟨1,s.heap,some (.one (.vint .i64 (.var s.nx)))⟩,none⟩
 | _,_=>none
def qqp (P:Program) (s:S) (op:BinOp) (t:TypeId) (x y:Operand):Option MR :=
 match P.underlying t,opd s x,opd s y with
 | some (.map _ _),some (.one xt),some (.one (.c0 .vnilm)) =>
  match op with
  | .eql=>some ⟨.isnil xt,⟨1,s.heap,some (.one (.vbool (.var s.nx)))⟩,none⟩
  | .neq=>some ⟨.isnil xt,⟨1,s.heap,some (.one (.vbool (.not (.var s.nx))))⟩,none⟩
  | _=>none
 | _,_,_=>none
def ql0 (P:Program) (s:S) (t:TypeId) (x:Operand):Option MR :=
 match mtP P t,opd s x with
 | some mt,some (.one xt)=>some ⟨.range xt mt (qaF s.heap ++ qaF s.ro),⟨2,.abs s.nx 1003 :: s.heap,some (.one (.var (s.nx + 1)))⟩,none⟩
 | _,_=>none
def mapNext (P:Program) (ip:List (Nat × Nat)) (s:S) (x:Operand):Option MR :=
 match qyI P ip x,opd s x,qcS s.heap with
 | some mt,some (.one xt),some (pos,m) =>
  some ⟨.next m xt mt (qaF s.heap ++ qaF s.ro),⟨3,s.heap.set pos (.abs s.nx 1003),some (.tup [(false,[.vbool (.bl true)]),(mt.kagg,qb3 (s.nx + 1) (mt.kks.map .int) 0),(mt.vagg,qb3 (s.nx + 2) mt.vpat 0)])⟩,
   some ⟨0,s.heap,some (.tup [(false,[.vbool (.bl false)])])⟩⟩
 | _,_,_=>none
def qjE (P:Program) (ip:List (Nat × Nat)) (s:S) (x:Operand):Option MR :=
 match qyI P ip x,opd s x,qcS s.heap with
 | some mt,some (.one xt),some (_,m) =>
  some ⟨.entry m xt mt (qaF s.heap ++ qaF s.ro),⟨2,s.heap,some (.tup [(mt.kagg,qb3 s.nx (mt.kks.map .int) 0),(mt.vagg,qb3 (s.nx + 1) mt.vpat 0)])⟩,none⟩
 | _,_,_=>none
def quD (P:Program) (ip:List (Nat × Nat)) (s:S) (o:Oper):Option MR :=
 match o.op with
 | .makeMap _ none=>some (qkv s)
 | .lookup t x i ck=>qjj P s t x i ck
 | .mapUpdate t x k v=>qip P s t x k v
 | .call { callee:=.builtin .delete,args,argTypes } =>
  match args.toList,argTypes.toList with
  | [x,k],[t,_]=>qj2 P s t x k
  | _,_=>none
 | .call { callee:=.builtin .len,args,argTypes } =>
  match args.toList,argTypes.toList with
  | [x],[t]=>qqD P s t x
  | _,_=>none
 | .binOp op t x y _=>qqp P s op t x y
 | .range t x=>ql0 P s t x
 | .next x false=>mapNext P ip s x
 | .entry x=>qjE P ip s x
 | _=>none
def qyx (P:Program) (o:Oper):Bool :=
 match o.op with
 | .lookup ..=>true
 | .mapUpdate ..=>true
 | .call { callee:=.builtin .delete,.. }=>true
 | .range ..=>true
 | .next _ false=>true
 | .entry _=>true
 | .call { callee:=.builtin .len,argTypes,.. }=>match (argTypes[0]?).bind P.underlying with
  | some (.map _ _)=>true
  | _=>false
 | _=>false
inductive Bd where
 | t (t:T)
 | r (r:Nat)
 | nil
 deriving Inhabited
structure Sg where
 th:Nat
 bd:List (Nat × Bd)
 eqI:List (T × T)     -- to be equal, avs numbers, when all is bound
 eqB:List (T × T)
 eqD:List (T × T)
 deriving Inhabited
abbrev bv (n m:Nat):Nat × Bd:=(n,.t (.var m))
abbrev bt (n:Nat) (t:T):Nat × Bd:=(n,.t t)
abbrev bg (n m:Nat):Nat × Bd:=(n,.r m)
abbrev sg (n:Nat) (l:List (Nat × Bd)):Sg:=⟨n,l,[],[],[]⟩
def Sg.clean (Y:Sg):Sg:=⟨Y.th,Y.bd,[],[],[]⟩
def look (n:Nat):List (Nat × Bd)->Option Bd
 | []=>none
 | (k,b) :: r=>if Nat.beq n k then some b else look n r
def Sg.reg (Y:Sg) (r:Nat):Option Nat :=
 if Nat.blt r Y.th then some r else
 match look r Y.bd with
 | some (.r r')=>some r'
 | _=>none
def Sg.sub (Y:Sg):T->Option T
 | .var n=>if Nat.blt n Y.th then some (.var n) else
  match look n Y.bd with
  | some (.t t)=>some t
  | some (.r m)=>some (.var m)
  | _=>none
 | .c0 (.isnil r) =>
  if Nat.blt r Y.th then some (.isnil r) else
  match look r Y.bd with
  | some (.r r')=>some (.isnil r')
  | some .nil=>some (.bl true)
  | _=>none
 | .c0 o=>some (.c0 o)
 | .c1 (.vptr r p c) a =>
  match Y.reg r,Y.sub a with
  | some r',some a'=>some (.vptr r' a' p c)
  | _,_=>none
 | .c1 o a=>(Y.sub a).map (.c1 o)
 | .c2 o a b =>
  match Y.sub a,Y.sub b with
  | some a',some b'=>some (.c2 o a' b')
  | _,_=>none
 | .c3 (.vslice r p) a b c =>
  match Y.reg r,Y.sub a,Y.sub b,Y.sub c with
  | some r',some a',some b',some c'=>some (.vslice r' a' b' c' p)
  | _,_,_,_=>none
 | .c3 o a b c =>
  match Y.sub a,Y.sub b,Y.sub c with
  | some a',some b',some c'=>some (.c3 o a' b' c')
  | _,_,_=>none
 | .ife a b x y =>
  match Y.sub a,Y.sub b,Y.sub x,Y.sub y with
  | some a',some b',some x',some y'=>some (.ife a' b' x' y')
  | _,_,_,_=>none
def Sg.bind (Y:Sg) (n:Nat) (b:Bd):Sg:={ Y with bd:=(n,b) :: Y.bd }
def mI (p a:T) (Y:Sg):Sg :=
 match p with
 | .var n=>if !(Nat.blt n Y.th) && (look n Y.bd).isNone then Y.bind n (.t a) else { Y with eqI:=(p,a) :: Y.eqI }
 | p=>{ Y with eqI:=(p,a) :: Y.eqI }
def mB (p a:T) (Y:Sg):Sg :=
 match p with
 | .var n=>if !(Nat.blt n Y.th) && (look n Y.bd).isNone then Y.bind n (.t a) else { Y with eqB:=(p,a) :: Y.eqB }
 | p=>{ Y with eqB:=(p,a) :: Y.eqB }
def mR (p a:Nat) (Y:Sg):Option Sg :=
 if Nat.blt p Y.th then (if Nat.beq p a then some Y else none) else
 match look p Y.bd with
 | none=>some (Y.bind p (.r a))
 | some (.r a')=>if Nat.beq a a' then some Y else none
 | _=>none
def qtH (p:Nat) (Y:Sg):Option Sg :=
 if Nat.blt p Y.th then none else
 match look p Y.bd with
 | none=>some (Y.bind p .nil)
 | some .nil=>some Y
 | _=>none
def qpP (x y:T) (Y:Sg):Bool :=
 match x with
 | .c2 (.xint c) (.var n) (.c0 (.lit 0)) =>
  if Nat.blt n Y.th then false else
  match look n Y.bd with
  | some (.t d) =>
   match qbf d with
   | some ts =>
    match ts[c]? with
    | some (.c1 (.vint _) y')=>y'.same y
    | _=>false
   | none=>false
  | _=>false
 | _=>false
def mV (p a:T) (Y:Sg):Option Sg :=
 match p,a with
 | .c1 (.vint k) x,.c1 (.vint k') y=>if k = k' then (if qpP x y Y then some Y else some (mI x y Y)) else none
 | .c1 .vbool x,.c1 .vbool y=>some (mB x y Y)
 | .c1 (.vptr r p c) e,.c1 (.vptr r' p' c') e'=>if p = p'/\c = c' then (mR r r' Y).map (mI e e') else if c = c'/\e.isLit = some 0/\e'.isLit = some 0 then mR r r' Y else none
 | .c3 (.vslice r p) o l c,.c3 (.vslice r' p') o' l' c'=>if p = p' then (mR r r' Y).map fun Y=>mI c c' (mI l l' (mI o o' Y)) else none
 | .c3 (.vslice r _) o l c,.c0 .vnils=>(qtH r Y).map fun Y=>mI c (.lit 0) (mI l (.lit 0) (mI o (.lit 0) Y))
 | .c1 (.vptr r _ _) e,.c0 .vnilp=>(qtH r Y).map fun Y=>mI e (.lit 0) Y
 | .c0 .vnilp,.c0 .vnilp=>some Y
 | .c0 .vnils,.c0 .vnils=>some Y
 | .c0 .vnilm,.c0 .vnilm=>some Y
 | .c1 .sval (.var n),a =>
  if qdS a then
   if !(Nat.blt n Y.th) && (look n Y.bd).isNone then some (Y.bind n (.t a))
   else if Nat.blt n Y.th && (T.c1 .sval (.var n)).same a then some Y else none
  else none
 | .var n,a=>if !(Nat.blt n Y.th) && (look n Y.bd).isNone then some (Y.bind n (.t a)) else if Nat.blt n Y.th && (T.var n).same a then some Y else none
 | _,_=>none
def qlI:List T->List T->Sg->Option Sg
 | [],[],Y=>some Y
 | p :: ps,a :: avs,Y=>(mV p a Y).bind (qlI ps avs)
 | _,_,_=>none
def qqt (n:Nat):Nat->List T->Nat
 | j,.c1 (.vint _) (.c2 (.xint c) (.var m) (.c0 (.lit 0))) :: ps=>if Nat.beq c j && Nat.beq m n then qqt n (j + 1) ps else j
 | j,_=>j
def qfe:List T->List T->Sg->Sg
 | .c1 (.vint k) (.c2 (.xint c) (.var n) (.c0 (.lit 0))) :: ps,a :: avs,Y =>
  if Nat.beq c 0 && !(Nat.blt n Y.th) && (look n Y.bd).isNone then qfe ps avs (Y.bind n (.t (T.row ((a :: avs).take (qqt n 0 (.c1 (.vint k) (.c2 (.xint c) (.var n) (.c0 (.lit 0))) :: ps))))))
  else qfe ps avs Y
 | _ :: ps,_ :: avs,Y=>qfe ps avs Y
 | _,_,Y=>Y
def mVs (ps avs:List T) (Y:Sg):Option Sg:=qlI ps avs (qfe ps avs Y)
def mRw:T->T->Sg->Option Sg
 | .c2 .rcons v r,.c2 .rcons v' r',Y=>(mV v v' Y).bind (mRw r r')
 | .c0 .rnil,.c0 .rnil,Y=>some Y
 | _,_,_=>none
def mD:T->T->Sg->Sg
 | .var n,a,Y=>if !(Nat.blt n Y.th) && (look n Y.bd).isNone then Y.bind n (.t a) else { Y with eqD:=(.var n,a) :: Y.eqD }
 | .c3 (.dput c) d e r,.c3 (.dput c') d' e' r',Y =>
  if c = c' then
   match mRw r r' Y with
   | some Y1=>mI e e' (mD d d' Y1)
   | none=>{ Y with eqD:=(.c3 (.dput c) d e r,.c3 (.dput c') d' e' r') :: Y.eqD }
  else { Y with eqD:=(.c3 (.dput c) d e r,.c3 (.dput c') d' e' r') :: Y.eqD }
 | .c2 .dapp x y,.c2 .dapp x' y',Y=>mD y y' (mD x x' Y)
 | .c2 .rcons v r,a,Y =>
  match mRw (.c2 .rcons v r) a Y with
  | some Y1=>Y1
  | none=>{ Y with eqD:=(.c2 .rcons v r,a) :: Y.eqD }
 | p,a,Y=>{ Y with eqD:=(p,a) :: Y.eqD }
def mSV (p a:SV) (Y:Sg):Option Sg :=
 match p,a with
 | .one p,.one a=>mV p a Y
 | .agg ps,.agg avs=>mVs ps avs Y
 | .fn f a b,.fn f' a' b'=>if f = f' then (mVs a a' Y).bind (mVs b b') else none
 | .tup ps,.tup avs=>mTup ps avs Y
 | _,_=>none
where
 mTup:List (Bool × List T)->List (Bool × List T)->Sg->Option Sg
  | [],[],Y=>some Y
  | (g,p) :: ps,(g',a) :: avs,Y=>if g = g' then (mVs p a Y).bind (mTup ps avs) else none
  | _,_,_=>none
def qhs:List SV->List SV->Sg->Option Sg
 | [],[],Y=>some Y
 | p :: ps,a :: avs,Y=>(mSV p a Y).bind (qhs ps avs)
 | _,_,_=>none
def mH1 (p a:SH) (Y:Sg):Option Sg :=
 match p,a with
 | .cells _ ty ps,.cells _ ty' avs=>if Nat.beq ty ty' then mVs ps avs Y else none
 | .arr _ ty pat d cap,.arr _ ty' pat' d' cap'=>if Nat.beq ty ty' && decide (pat = pat') then some (mI cap cap' (mD d d' Y)) else none
 | .arr _ ty pat d cap,.cells _ ty' avs =>
  if Nat.beq ty ty' && Nat.blt 0 pat.length && Nat.beq (avs.length % pat.length) 0 then
   match qe1 pat pat.length (avs.length / pat.length) avs with
   | some D=>some (mI cap (.lit ((avs.length / pat.length:Nat):Int)) (mD d D Y))
   | none=>none
  else none
 | _,_=>none
def qh5:Option Bd->Bool
 | some .nil=>true
 | _=>false
def SH.isAbs:SH->Option (Nat × Nat)
 | .abs n t=>some (n,t)
 | _=>none
def qft (t:Nat):List SH->Option (Nat × Nat)
 | []=>none
 | .abs m t' :: l=>if Nat.beq t t' then some (0,m) else (qft t l).map fun (k,x)=>(k + 1,x)
 | _ :: l=>(qft t l).map fun (k,x)=>(k + 1,x)
def mHs (own:Bool):List SH->List SH->List SH->Sg->Option (List SH × Sg)
 | [],h,_,Y=>some (h,Y)
 | p :: ps,h,ro,Y =>
  match p.isAbs with
  | some (n,t) =>
   match qft t h with
   | some (k,m)=>(mR n m Y).bind (mHs own ps (if own then h.eraseIdx k else h) ro)
   | none=>if own then none else
    match qft t ro with
    | some (_,m)=>(mR n m Y).bind (mHs own ps h ro)
    | none=>none
  | none =>
  match p.reg with
  | none=>none
  | some r =>
   if !(Nat.blt r Y.th) && qh5 (look r Y.bd) then
    match p with
    | .arr _ _ _ d cap=>mHs own ps h ro (mI cap (.lit 0) (mD d .dnil Y))
    | _=>none
   else
   match Y.reg r with
   | none=>none
   | some r' =>
    match qa4 r' h with
    | some (k,a)=>(mH1 p a Y).bind (mHs own ps (if own then h.eraseIdx k else h) ro)
    | none=>if own then none else
     match qa4 r' ro with
     | some (_,a)=>(mH1 p a Y).bind (mHs own ps h ro)
     | none=>none
def Sg.eqs (Y:Sg) (f:T->T->Option T):List (T × T)->Option (List T)
 | []=>some []
 | (p,a) :: r =>
  match Y.sub p,Y.eqs f r with
  | some p',some cs=>if p'.same a then some cs else
   match f p' a with
   | some c=>some (c :: cs)
   | none=>none
  | _,_=>none
def Sg.left (Y:Sg):Option (List T) :=
 match Y.eqs (fun p a=>some (qs .eql p a)) Y.eqI,Y.eqs (fun p a=>some (qk3 p a)) Y.eqB,Y.eqs (fun _ _=>none) Y.eqD with
 | some a,some b,some c=>some (a ++ b ++ c)
 | _,_,_=>none
def Sg.subs (Y:Sg):List T->Option (List T)
 | []=>some []
 | t :: ts=>match Y.sub t,Y.subs ts with
  | some a,some b=>some (a :: b)
  | _,_=>none
def Sg.subSV (Y:Sg):SV->Option SV
 | .one t=>(Y.sub t).map .one
 | .agg ts=>(Y.subs ts).map .agg
 | .tup vs=>(tup vs).map .tup
 | .fn f a b=>match Y.subs a,Y.subs b with
  | some x,some y=>some (.fn f x y)
  | _,_=>none
where
 tup:List (Bool × List T)->Option (List (Bool × List T))
  | []=>some []
  | (g,ts) :: r=>match Y.subs ts,tup r with
   | some a,some b=>some ((g,a) :: b)
   | _,_=>none
def Sg.subH (Y:Sg):SH->Option SH
 | .cells r ty cs=>match Y.reg r,Y.subs cs with
  | some r',some cs'=>some (.cells r' ty cs')
  | _,_=>none
 | .arr r ty pat d cap=>match Y.reg r,Y.sub d,Y.sub cap with
  | some r',some d',some cap'=>some (.arr r' ty pat d' cap')
  | _,_,_=>none
 | .abs n t=>(Y.reg n).map fun m=>.abs m t
def Sg.subHs (Y:Sg):List SH->Option (List SH)
 | []=>some []
 | x :: r=>match Y.subH x,Y.subHs r with
  | some a,some b=>some (a :: b)
  | _,_=>none
structure Alt where
 k:Nat                 -- how many new variables
 ret:SV
 heap:List SH
 post:Env->Prop
structure Ctr where
 fn:FuncId
 nv:Nat
 args:List SV
 heap:List SH
 ro:List SH
 pre:Env->Prop
 alts:List Alt
 ip:List (Nat × Nat):=[]   -- appends: 0 in place, 1 to what is in the slice alone
 ow:List Nat:=[]           -- temporaries whose slices lie in what is owned
structure Inv where
 key:Nat
 nv:Nat
 env:List (Nat × SV)
 heap:List SH
 inv:Env->Prop
 mu:Env->Nat
def qfG:List (Nat × SV)->List (Nat × SV)->Sg->Option Sg
 | [],_,Y=>some Y
 | (t,p) :: ps,env,Y =>
  match qbg t env with
  | some a=>(mSV p a Y).bind (qfG ps env)
  | none=>none
def qcE (from_ base:Nat):Nat->List (Nat × Bd)
 | 0=>[]
 | k + 1=>(from_ + k,.r (base + k)) :: qcE from_ base k
def Sg.subEnv (Y:Sg):List (Nat × SV)->Option (List (Nat × SV))
 | []=>some []
 | (t,v) :: r=>match Y.subSV v,Y.subEnv r with
  | some a,some b=>some ((t,a) :: b)
  | _,_=>none
def qhE:List T->List T->Bool
 | [],[]=>true
 | a :: l,b :: m=>a.same b && qhE l m
 | _,_=>false
def SH.same:SH->SH->Bool
 | .cells r ty cs,.cells r' ty' cs'=>Nat.beq r r' && Nat.beq ty ty' && qhE cs cs'
 | .arr r ty pat d cap,.arr r' ty' pat' d' cap'=>Nat.beq r r' && Nat.beq ty ty' && decide (pat = pat') && d.same d' && cap.same cap'
 | .abs n t,.abs n' t'=>Nat.beq n n' && Nat.beq t t'
 | _,_=>false
inductive Out where
 | stuck (why:Nat) (a b:Nat)
 | need (c:T) (o:Out)
 | br (c:T) (x y:Out)
 | fresh (n:Nat) (o:Out)
 | both (x y:Out)
 | top
 | pre (ci:Nat) (Y:Sg) (o:Out)
 | post (ci ai:Nat) (Y:Sg) (base:Nat) (o:Out)
 | inv (li:Nat) (base:Nat) (Y:Sg) (o:Out)
 | hyp (li:Nat) (base:Nat) (o:Out)
 | back (li:Nat) (base:Nat) (Y:Sg)
 | cut (li:Nat) (base:Nat) (Y:Sg)
 | ret (ai:Nat) (Y:Sg)
 | pack (l:List SH) (n:Nat) (o:Out)
 | view (x:T) (pat:List CK) (ms:List Nat) (base:Nat) (o:Out)
 | viewL (x:T) (pat:List CK) (ms:List Nat) (base:Nat) (o:Out)
 | know (c:T) (o:Out)
 | take (x:T) (el:Nat) (pat:List CK) (m base:Nat) (o:Out)
 | put (m rg:Nat) (pat:List CK) (d e:T) (c:Nat) (vs:List T) (base:Nat) (o:Out)
 | mop (k:MK) (base:Nat) (o1 o2:Out)
 deriving Inhabited
@[simp] def tv (n:Nat):T:=.var n
@[simp] def tl (n:Int):T:=.lit n
@[simp] def ti (a:T):T:=.vint .i64 a
@[simp] def tu (a:T):T:=.vint .u8 a
@[simp] def tw (a:T):T:=.vint .u32 a
@[simp] def tn (a b:T) (o:Out):Out:=.need (.cmp .leq a b) o
@[simp] def ts (a b:T) (o:Out):Out:=.need (.cmp .lss a b) o
@[simp] def tb (o:Out):Out:=.both o .top
def rr:Nat->T->T->T
 | 0,_,t=>t
 | n + 1,e,t=>.rcons e (rr n e t)
@[simp] theorem qzR (e t:T):rr 0 e t = t:=rfl
@[simp] theorem qzS (n:Nat) (e t:T):rr (n + 1) e t = .rcons e (rr n e t):=rfl
def fr:Nat->Nat->Out->Out
 | _,0,o=>o
 | n,k + 1,o=>.fresh n (fr (n + 1) k o)
@[simp] theorem qzQ (n:Nat) (o:Out):fr n 0 o = o:=rfl
@[simp] theorem qzP (n k:Nat) (o:Out):fr n (k + 1) o = .fresh n (fr (n + 1) k o):=rfl
structure Ctx where
 P:Program
 me:Ctr
 ctrs:List Ctr
 invs:List Inv
inductive KI where
 | code (c:Code)
 | blk (id:Nat)
 | ops (ops:Array Oper) (l:List Nat)
 | lend (li:Nat) (base:Nat)
 | cutE (li:Nat) (base:Nat)
 | any (ops:Array Oper) (listed:Array Bool) (left:Nat) (st:List SH)
 | again (c:Code)
 deriving Inhabited
def qdY (id:Nat):List KI->Option (List KI)
 | []=>none
 | .blk j :: K=>if Nat.beq id j then some K else qdY id K
 | _ :: K=>qdY id K
def qhW (s:S) (c:T):T :=
 match c with
 | .c1 .not (.c0 (.isnil r)) =>
  match s.look r with
  | some (_,.cells ..)=>.bl true
  | some (_,.arr _ _ _ d _)=>qs .lss (.lit 0) (qaw d)
  | _=>c
 | c=>c
def needs (s:S):List T->(S->Out)->Out
 | [],k=>k s
 | c :: cs,k =>
  match qfs (qhW s c) s.pc with
  | some true=>needs s cs k
  | some false=>.stuck 7 0 0
  | none=>.need (qhW s c) (needs { s with pc:=(qhW s c,true) :: s.pc } cs k)
def SV.inB (n:Nat):SV->Bool
 | .one t=>t.inB n
 | .agg ts=>ts.all (T.inB n)
 | .tup vs=>vs.all fun x=>x.2.all (T.inB n)
 | .fn _ a b=>a.all (T.inB n) && b.all (T.inB n)
def SH.inB (n:Nat):SH->Bool
 | .cells r _ cs=>Nat.blt r n && cs.all (T.inB n)
 | .arr r _ _ d cap=>Nat.blt r n && d.inB n && cap.inB n
 | .abs m _=>Nat.blt m n
def T.inS (p:Nat->Bool):T->Bool
 | .var m=>p m
 | .c0 (.isnil r)=>p r
 | .c0 _=>true
 | .c1 (.vptr r _ _) a=>p r && a.inS p
 | .c1 _ a=>a.inS p
 | .c2 _ a b=>a.inS p && b.inS p
 | .c3 (.vslice r _) a b c=>p r && a.inS p && b.inS p && c.inS p
 | .c3 _ a b c=>a.inS p && b.inS p && c.inS p
 | .ife a b x y=>a.inS p && b.inS p && x.inS p && y.inS p
def SV.inS (p:Nat->Bool):SV->Bool
 | .one t=>t.inS p
 | .agg ts=>ts.all (T.inS p)
 | .tup vs=>vs.all fun x=>x.2.all (T.inS p)
 | .fn _ a b=>a.all (T.inS p) && b.all (T.inS p)
def SH.inS (p:Nat->Bool):SH->Bool
 | .cells r _ cs=>p r && cs.all (T.inS p)
 | .arr r _ _ d cap=>p r && d.inS p && cap.inS p
 | .abs m _=>p m
def quI (base nv n:Nat):Bool:=(Nat.blt n base && Nat.blt n 1000) || (Nat.ble 1000 n && Nat.blt n (1000 + nv))
def Inv.fits (I:Inv) (base:Nat):Bool:=I.env.all (fun x=>x.2.inS (quI base I.nv)) && I.heap.all (SH.inS (quI base I.nv))
def S.inNx (s:S):Bool:=s.env.all (fun x=>x.2.inB s.nx) && s.heap.all (SH.inB s.nx) && s.ro.all (SH.inB s.nx) && s.pc.all (fun x=>x.1.inB s.nx) && s.vw.all (fun x=>x.1.all (fun m=>Nat.blt m s.nx) && x.2.inB s.nx)
def S.scopedEH (s:S):Bool:=s.env.all (fun x=>x.2.inB s.nx) && s.heap.all (SH.inB s.nx)
def Bd.inB (n:Nat):Bd->Bool
 | .t x=>x.inB n
 | .r m=>Nat.blt m n
 | .nil=>true
def qvU (Y:Sg) (c:Ctr) (a:Alt) (nx:Nat):Bool :=
 Y.bd.all (fun x=>Nat.blt x.1 c.nv && x.2.inB nx) && a.ret.inS (fun n=>Nat.blt n (c.nv + a.k)) && a.heap.all (SH.inS fun n=>Nat.blt n (c.nv + a.k))
def qet (s:S):Nat->(S->Out)->Out
 | 0,k=>k s
 | n + 1,k=>if s.inNx then .fresh s.nx (qet { s with nx:=s.nx + 1 } n k) else .stuck 30 0 0
def qfd:List SH->List Nat
 | []=>[]
 | .abs _ t :: l=>t :: qfd l
 | _ :: l=>qfd l
def qh7 (l:List SH):List SH:=l.filter fun x=>x.isAbs.isNone
def qgS (t:Nat) (x:SH):Bool :=
 match x with
 | .abs _ t'=>Nat.beq t t'
 | _=>false
def qk7 (x:SH):Bool :=
 match x with
 | .abs _ t=>Nat.ble 1001 t
 | _=>false
def qmy (s:S) (sel:SH->Bool) (t:Nat) (k:S->Out):Out :=
 if s.inNx && (Nat.beq t 1003 || ((s.heap.filter sel).all (fun x=>!(qk7 x)) && Nat.blt t 1001)) then .pack (s.heap.filter sel) s.nx (k { s with heap:=.abs s.nx t :: s.heap.filter (fun x=>!sel x),nx:=s.nx + 1 }) else .stuck 60 t 0
def qk4 (s:S) (sel:SH->Bool) (t:Nat) (k:S->Out):Out :=
 match s.heap.filter sel with
 | [.abs _ t']=>if Nat.beq t t' then k s else qmy s sel t k
 | _=>qmy s sel t k
def qzf (s:S) (t:Nat) (x:SH):Bool:=Nat.blt 500 t && Nat.blt t 1001 && !(s.heap.any (qgS t)) && qgS ((t - 501) % 100) x
def qev (s:S) (left:List SH):List Nat->(S->Out)->Out
 | [],k=>k s
 | t :: ts,k=>qk4 s (fun x=>(qgS t x || (Nat.beq (t % 2) 0 && x.isAbs.isNone) || qzf s t x) && left.any (SH.same x)) t fun s=>qev s left ts k
def qfa (s:S):List Nat->(S->Out)->Out
 | [],k=>k s
 | t :: ts,k =>
  match s.heap.filter (qgS t) with
  | _ :: _ :: _=>qk4 s (qgS t) t fun s=>qfa s ts k
  | _=>qfa s ts k
def qnA:T->Bool
 | .var _=>true
 | .c2 (.vcell _) _ _=>true
 | _=>false
def qaD:List SH->List Nat
 | []=>[]
 | .abs n t :: l=>if Nat.beq t 1003 then qaD l else n :: qaD l
 | _ :: l=>qaD l
def qy7 (ow:List Nat) (t:Nat):Option Nat:=ow.findSome? fun x=>if Nat.ble 100000 x && Nat.beq (x % 10000) t then some (x / 10000 - 10) else none
def qdW (ow:List Nat) (s:S) (t:Nat):List Nat :=
 match qy7 ow t with
 | some g=>qaD (s.heap.filter (qgS g))
 | none=>if ow.any (Nat.beq t) then qaD s.heap else if ow.any (Nat.beq (t + 3000)) then qaD s.ro else qaD s.heap ++ qaD s.ro
def qmq (ow:List Nat) (x:T) (pat:List CK) (ms:List Nat) (base:Nat) (o:Out):Out:=if ow.any (Nat.beq 1003) then .viewL x pat ms base o else .view x pat ms base o
def qu9 (ow:List Nat) (s:S) (t el:Nat) (pat:List CK) (k:S->Out):Out :=
 match qbg t s.env with
 | some (.one x) =>
  if qnA x && !((qdW ow s t).isEmpty) then
   if s.inNx && Nat.blt t s.nt then
    qmq ow x pat (qdW ow s t) s.nx (k { s with
     env:=qfK t (.one (.vslice s.nx (.lit 0) (.dlen (.var (s.nx + 2))) (.var (s.nx + 1)) pat.length)) s.env
     vw:=(qdW ow s t,.arr s.nx el pat (.var (s.nx + 2)) (.var (s.nx + 1))) :: s.vw
     nx:=s.nx + 3 })
   else .stuck 61 t 0
  else k s
 | _=>k s
def qma (ow:List Nat) (s:S):List (Nat × Nat × List CK)->(S->Out)->Out
 | [],k=>k s
 | (t,el,pat) :: l,k=>qu9 ow s t el pat fun s=>qma ow s l k
def qtD (ow:List Nat) (s:S) (t j el:Nat) (pat:List CK) (k:S->Out):Out :=
 match qbg t s.env with
 | some (.agg cs) =>
  match cs[j]? with
  | some x =>
   if qnA x && !((qdW ow s t).isEmpty) then
    if s.inNx && Nat.blt t s.nt then
     qmq ow x pat (qdW ow s t) s.nx (k { s with
      env:=qfK t (.agg (cs.set j (.vslice s.nx (.lit 0) (.dlen (.var (s.nx + 2))) (.var (s.nx + 1)) pat.length))) s.env
      vw:=(qdW ow s t,.arr s.nx el pat (.var (s.nx + 2)) (.var (s.nx + 1))) :: s.vw
      nx:=s.nx + 3 })
    else .stuck 62 t j
   else k s
  | none=>k s
 | _=>k s
def qm3 (ow:List Nat) (s:S):List (Nat × Nat × Nat × List CK)->(S->Out)->Out
 | [],k=>k s
 | (t,j,el,pat) :: l,k=>qtD ow s t j el pat fun s=>qm3 ow s l k
def qyq (P:Program) (t:TypeId):Option (Nat × List CK) :=
 match P.underlying t with
 | some (.slice el)=>match qbA P el with
  | some z=>some (el,z.map qaP)
  | none=>none
 | _=>none
def qcf (P:Program) (t:TypeId) (x:Operand):List (Nat × Nat × List CK) :=
 match x,qyq P t with
 | .tmp k,some (el,pat)=>[(k,el,pat)]
 | _,_=>[]
def qi2 (hs:List SH):List SV->List Operand->List (Nat × Nat × List CK)
 | .one (.c3 (.vslice r _) _ _ _) :: ps,x :: xs =>
  match qa4 r hs,x with
  | some (_,.arr _ ty pat _ _),.tmp k=>(k,ty,pat) :: qi2 hs ps xs
  | _,_=>qi2 hs ps xs
 | _ :: ps,_ :: xs=>qi2 hs ps xs
 | _,_=>[]
def qiu (f:FuncId):List Ctr->Option Ctr
 | []=>none
 | c :: l=>if Nat.beq c.fn f then some c else qiu f l
def qys (P:Program) (ctrs:List Ctr) (s:S) (o:Oper):List (Nat × Nat × List CK) :=
 match o.op with
 | .call { callee:=.builtin .len,args,argTypes } =>
  match args.toList,argTypes.toList with
  | [x],[t]=>qcf P t x
  | _,_=>[]
 | .call { callee:=.builtin .append,args,argTypes } =>
  match args.toList,argTypes.toList with
  | [x,y],[t,t2]=>qcf P t x ++ qcf P t2 y
  | _,_=>[]
 | .call { callee:=.builtin .copy,args,argTypes } =>
  match args.toList,argTypes.toList with
  | [_,y],[_,t2]=>qcf P t2 y
  | _,_=>[]
 | .convert t _ x=>qcf P t x
 | .slice t x _ _ _=>qcf P t x
 | .indexAddr t x _=>qcf P t x
 | .binOp op t x y _ =>
  match op with
  | .eql=>qcf P t x ++ qcf P t y
  | .neq=>qcf P t x ++ qcf P t y
  | _=>[]
 | .call { callee:=.value f,args,.. } =>
  match opd s f with
  | some (.fn (.func fid) [] _)=>match qiu fid ctrs with
   | some c=>qi2 (c.heap ++ c.ro) c.args args.toList
   | none=>[]
  | _=>[]
 | _=>[]
def qgM (hs:List SH) (t:Nat):Nat->List T->List (Nat × Nat × Nat × List CK)
 | j,.c3 (.vslice r _) _ _ _ :: ps =>
  match qa4 r hs with
  | some (_,.arr _ ty pat _ _)=>(t,j,ty,pat) :: qgM hs t (j + 1) ps
  | _=>qgM hs t (j + 1) ps
 | j,_ :: ps=>qgM hs t (j + 1) ps
 | _,[]=>[]
def qlD (hs:List SH):List SV->List Operand->List (Nat × Nat × Nat × List CK)
 | .agg ps :: l,.tmp k :: xs=>qgM hs k 0 ps ++ qlD hs l xs
 | _ :: l,_ :: xs=>qlD hs l xs
 | _,_=>[]
def qwW (ctrs:List Ctr) (s:S) (o:Oper):List (Nat × Nat × Nat × List CK) :=
 match o.op with
 | .call { callee:=.value f,args,.. } =>
  match opd s f with
  | some (.fn (.func fid) [] _)=>match qiu fid ctrs with
   | some c=>qlD (c.heap ++ c.ro) c.args args.toList
   | none=>[]
  | _=>[]
 | _=>[]
def qra (ctrs:List Ctr) (s:S) (o:Oper):List Nat :=
 match o.op with
 | .call { callee:=.value f,.. } =>
  match opd s f with
  | some (.fn (.func fid) _ _)=>match qiu fid ctrs with
   | some c=>qfd c.heap
   | none=>[]
  | _=>[]
 | _=>[]
def qnH (c:T) (b:Bool):T × Bool :=
 match c with
 | .c1 .not a=>(a,!b)
 | c=>(c,b)
def qjv (s:S) (c:T) (k:Bool->S->Out):Out :=
 match qfs c s.pc with
 | some b=>k b s
 | none=>.br c (k true { s with pc:=qnH c true :: s.pc }) (k false { s with pc:=qnH c false :: s.pc })
def qjK (ops:Array Oper) (s:S) (o:Oper):Option (Option (T × Bool)) :=
 match o.guard with
 | none=>some none
 | some (j,want) =>
  match (ops[j]?).bind (·.dst) with
  | some t =>
   match qbg t s.env with
   | some (.one (.c1 .vbool c))=>some (some (c,want))
   | some (.tup [])=>some (some (.bl (!want),want))
   | _=>none
  | none=>none
def qcn (dst:Option Nat) (v:Option SV) (s:S):Option S :=
 match dst,v with
 | none,_=>some s
 | some d,some v=>if Nat.blt d s.nt then some { s with env:=qfK d v s.env } else none
 | some _,none=>none
def qsK (s:S) (cs:List T):Bool:=cs.all fun c=>match qfs (qhW s c) s.pc with
 | some true=>true
 | _=>false
def qjC (P:Program) (s:S):ResultVar->Option SV
 | .tmp t=>qbg t s.env
 | .cell a t =>
  match qbg a s.env,qcB P t,qao P t with
  | some (.one (.c1 (.vptr r p c) e)),some ag,some n =>
   match qa4 r s.heap with
   | some (_,x) =>
    match qpC x e p c n with
    | some (cs,nd)=>if qsK s nd then (if ag then some (.agg cs) else match cs with | [t]=>some (.one t) | _=>none) else none
    | none=>none
   | none=>none
  | _,_,_=>none
def qqy:SV->Option (Bool × List T)
 | .one t=>some (false,[t])
 | .agg ts=>some (true,ts)
 | _=>none
def qjt (P:Program) (s:S):List ResultVar->Option (List (Bool × List T))
 | []=>some []
 | r :: rs=>match (qjC P s r).bind qqy,qjt P s rs with
  | some x,some l=>some (x :: l)
  | _,_=>none
def qih (fn:Func) (s:S) (P:Program):Option SV :=
 match fn.results.toList with
 | [r]=>qjC P s r
 | rs=>(qjt P s rs).map .tup
def qsO (me:Ctr) (s:S) (v:SV) (a:Alt):Option (List SH × Bool) :=
 match (mSV a.ret v { th:=me.nv,bd:=[],eqI:=[],eqB:=[],eqD:=[] }).bind (mHs true (qh7 a.heap) s.heap []) with
 | some (rest,Y) =>
  match Y.left with
  | some cs=>some (rest,cs.isEmpty)
  | none=>none
 | none=>none
def qhJ (me:Ctr) (s:S) (v:SV) (strict:Bool):Nat->List Alt->Out
 | _,[]=>.stuck 9 0 0
 | ai,a :: r =>
  match qsO me s v a with
  | none=>qhJ me s v strict (ai + 1) r
  | some (rest,exact) =>
   if strict && !exact then qhJ me s v strict (ai + 1) r else
   if !(v.inB s.nx) then .stuck 62 ai 0 else
   qev s rest (qfd a.heap) fun s =>
    match (mSV a.ret v { th:=me.nv,bd:=[],eqI:=[],eqB:=[],eqD:=[] }).bind (mHs true a.heap s.heap []) with
    | some (_,Y) =>
     match Y.left with
     | some cs=>needs s cs fun _=>.ret ai Y.clean
     | none=>.stuck 63 ai 0
    | none=>.stuck 64 ai 0
def qwT (me:Ctr) (s:S) (v:SV) (l:List Alt):Bool:=l.any fun a=>match qsO me s v a with
 | some (_,b)=>b
 | none=>false
def qci:Code->Option Nat
 | .region id _ _=>some id
 | .seq a b=>(qci a).orElse fun _=>qci b
 | .cond _ a b=>(qci a).orElse fun _=>qci b
 | .block _ b=>qci b
 | .loop b=>qci b
 | .scope b=>qci b
 | _=>none
def qfb (key:Nat):List Inv->Nat->Option (Nat × Inv)
 | [],_=>none
 | x :: r,n=>if Nat.beq x.key key then some (n,x) else qfb key r (n + 1)
def qyz (s:S) (I:Inv):Bool:=((qfG I.env s.env { th:=1000,bd:=[],eqI:=[],eqB:=[],eqD:=[] }).bind (mHs true (qh7 I.heap) s.heap [])).isSome
def qgK (key:Nat) (s:S):List Inv->Nat->Option (Nat × Inv)
 | [],_=>none
 | x :: r,n=>if Nat.beq x.key key && qyz s x then some (n,x) else qgK key s r (n + 1)
def qn6 (key:Nat) (s:S) (l:List Inv):Option (Nat × Inv) :=
 match qgK key s l 0 with
 | some x=>some x
 | none=>qfb key l 0
def qvW (x:T × T):Bool :=
 match x.1.isLit,x.2.isLit with
 | some a,some b=>decide (a = b)
 | _,_=>true
def qyV:T->Option Bool
 | .c0 (.bl b)=>some b
 | _=>none
def qtG (x:T × T):Bool :=
 match qyV x.1,qyV x.2 with
 | some a,some b=>a == b
 | _,_=>true
def qgi (s:S):List SH:=(s.vw.filter fun x=>x.1.all s.piece).map (·.2)
def qms (mip:List (Nat × Nat)):List (Nat × Nat)->List (Nat × Bd)
 | []=>[]
 | (k,r) :: l=>if Nat.ble 2000 k then match qd6 k mip with
  | some R=>(r,.r R) :: qms mip l
  | none=>qms mip l
  else qms mip l
def qfv (mip:List (Nat × Nat)) (s:S) (f:FuncId) (args:List SV):Nat->List Ctr->Option (Nat × Ctr × List SH × Sg)
 | _,[]=>none
 | n,c :: r =>
  if Nat.beq c.fn f then
   match ((qhs c.args args { th:=0,bd:=qms mip c.ip,eqI:=[],eqB:=[],eqD:=[] }).bind (mHs true c.heap s.heap [])) with
   | some (h,Y) =>
    match mHs false c.ro h (s.ro ++ qgi { s with heap:=h }) Y with
    | some (_,Y)=>if Y.eqI.all qvW && Y.eqB.all qtG then some (n,c,h,Y) else qfv mip s f args (n + 1) r
    | none=>qfv mip s f args (n + 1) r
   | none=>qfv mip s f args (n + 1) r
  else qfv mip s f args (n + 1) r
def qgz (s:S) (c:Call):Option (FuncId × List SV) :=
 match c.callee with
 | .value f =>
  match opd s f,opds s c.args.toList with
  | some (.fn (.func fid) first caps),some avs=>some (fid,(first.map .one) ++ avs ++ (caps.map .one))
  | _,_=>none
 | _=>none
def qq2 (q:Nat):List (Nat × Bd)->Bool
 | []=>false
 | (_,.r m) :: l=>Nat.beq q m || qq2 q l
 | _ :: l=>qq2 q l
def qsH (f:FuncId):List Ctr->Option Ctr
 | []=>none
 | c :: l=>if Nat.beq c.fn f && (match qd6 1004 c.ip with | some k=>Nat.beq k 9 | none=>false) then some c else qsH f l
def qyZ (ctrs:List Ctr) (s:S) (o:Oper):Option (List SH) :=
 match o.op with
 | .call c =>
  match qgz s c with
  | some (fid,avs) =>
   match qsH fid ctrs with
   | some c =>
    match ((qhs c.args avs { th:=0,bd:=[],eqI:=[],eqB:=[],eqD:=[] }).bind (mHs false (qh7 (c.heap ++ c.ro)) s.heap s.ro)) with
    | some (_,Y)=>some (s.heap.filter fun x=>match x.reg with
     | some q=>!(qq2 q Y.bd)
     | none=>true)
    | none=>none
   | none=>none
  | none=>none
 | _=>none
def qnB (ctrs:List Ctr) (s:S) (o:Oper) (k:S->Out):Out :=
 match qyZ ctrs s o with
 | some rest=>qev s rest (qra ctrs s o) k
 | none=>qfa s (qra ctrs s o) k
def qn7 (k:Nat->Alt->Out):Nat->List Alt->Out
 | _,[]=>.top
 | n,a :: r=>.both (k n a) (qn7 k (n + 1) r)
def qkd (r:Nat):List (List Nat × SH)->Option (List Nat × SH)
 | []=>none
 | x :: l=>match x.2.reg with
  | some q=>if Nat.beq q r then some x else qkd r l
  | none=>qkd r l
def qfA (m:Nat):List SH->Nat->Option (Nat × Nat)
 | [],_=>none
 | .abs n t :: l,k=>if Nat.beq n m then some (k,t) else qfA m l (k + 1)
 | _ :: l,k=>qfA m l (k + 1)
structure PutR where
 m:Nat
 rg:Nat
 k:Nat
 tag:Nat
 pat:List CK
 d:T
 e:T
 c:Nat
 vs:List T
def qpE (P:Program) (s:S) (o:Oper):Option PutR :=
 match o.op,o.dst with
 | .store t a v,none =>
  match opd s a,(opd s v).bind SV.cells,qao P t with
  | some (.one (.c1 (.vptr r p c) e)),some vs,some n =>
   match qa4 r s.heap,qkd r s.vw with
   | none,some ([m],.arr r' _ pat d _) =>
    match qfA m s.heap 0 with
    | some (k,tag)=>if Nat.blt tag 1001 && Nat.beq r' r && Nat.beq vs.length n && Nat.beq p pat.length && Nat.ble (c + n) p && Nat.ble 1 p then some ⟨m,r,k,tag,pat,d,e,c,vs⟩ else none
    | none=>none
   | _,_=>none
  | _,_,_=>none
 | _,_=>none
def qtJ (P:Program) (s:S) (o:Oper):Option (Nat × SH × SV) :=
 match o.op with
 | .convert src dst x =>
  if Nat.beq src dst then
   match P.underlying src with
   | some (.slice e) =>
    match P.underlying e,opd s x with
    | some (.int .u8),some (.one (.c3 (.vslice r p) off len cap)) =>
     match qa4 r s.heap with
     | some (k,.cells r' ty cs)=>if Nat.beq r r' then some (k,.cells r' ty cs,.one (.c3 (.vslice r p) off len cap)) else none
     | _=>none
    | _,_=>none
   | _=>none
  else none
 | _=>none
def qk5 (s:S) (i:Nat) (o:Oper) (k:S->Out) (b:MB):Out :=
 match qcn o.dst b.val { s with heap:=b.heap,nx:=s.nx + b.fresh } with
 | some s=>k s
 | none=>.stuck 69 i 0
def qp8 (E:Ctx) (s:S) (i:Nat) (o:Oper) (k:S->Out):Out :=
 match o.op with
 | .call { callee:=.value f,args,argTypes } =>
  match qgz s { callee:=.value f,args,argTypes } with
  | none=>.stuck 10 i 0
  | some (fid,avs) =>
   match qfv E.me.ip s fid avs 0 E.ctrs with
   | none=>.stuck 11 fid i
   | some (ci,c,h,Y) =>
    match Y.left with
    | none=>.stuck 12 fid i
    | some cs=>needs s cs fun s=>.pre ci Y.clean <|
     qn7 (fun ai a=>if !(qvU Y c a s.nx) then .stuck 19 fid i else qet { s with heap:=h } a.k fun s' =>
      match Sg.subSV { Y with bd:=qcE c.nv s.nx a.k ++ Y.bd } a.ret,Sg.subHs { Y with bd:=qcE c.nv s.nx a.k ++ Y.bd } a.heap with
      | some v,some hs =>
       match qcn o.dst (some v) { s' with heap:=hs ++ s'.heap } with
       | some s''=>.post ci ai Y.clean s.nx (k s'')
       | none=>.stuck 13 fid i
      | _,_=>.stuck 14 fid i) 0 c.alts
 | _ =>
  match quD E.P E.me.ip s o with
  | some r=>if s.inNx then .mop r.k s.nx (qk5 s i o k r.a) (match r.b with | some b=>qk5 s i o k b | none=>.top) else .stuck 70 i 0
  | none =>
  match qpE E.P s o with
  | some r=>needs s [qa0 r.e,qs .lss r.e (qaw r.d)] fun s =>
   if s.inNx then .put r.m r.rg r.pat r.d r.e r.c r.vs s.nx (k { s with heap:=s.heap.set r.k (.abs s.nx r.tag),nx:=s.nx + 1 }) else .stuck 66 i 0
  | none =>
  match qtJ E.P s o with
  | some (fk,y,v) =>
   if s.inNx then .fresh s.nx <|
    match qcn o.dst (some v) { s with heap:=.abs s.nx 1001 :: s.heap.eraseIdx fk,vw:=([s.nx],y) :: s.vw,nx:=s.nx + 1 } with
    | some s'=>k s'
    | none=>.stuck 67 i 0
   else .stuck 68 i 0
  | none =>
  match qtm E.P E.me.ip s o with
  | none=>.stuck 15 i 0
  | some r=>needs s r.needs fun s=>qet s r.fresh fun s =>
   match qcn o.dst r.val { s with heap:=r.heap } with
   | some s=>k s
   | none=>.stuck 16 i 0
def qdt (s:S) (t:T):Option T :=
 match t with
 | .c3 (.vslice r _) _ _ _ =>
  match qa4 r s.heap with
  | some (_,.arr _ _ _ d cap)=>some (qs .leq (qaw d) cap)
  | _=>none
 | _=>none
def qnE (s:S) (x:Operand):Option T :=
 match opd s x with
 | some (.agg ts)=>ts.findSome? (qdt s)
 | some (.one (.c1 (.vptr r _ _) _)) =>
  match qa4 r s.heap with
  | some (_,.cells _ _ ts)=>ts.findSome? (qdt s)
  | _=>none
 | _=>none
def qqb (ip:List (Nat × Nat)) (s:S) (o:Oper):Option T :=
 let at_ (x:Operand):Option T :=
  match opd s x with
  | some (.one (.c3 (.vslice r _) _ _ _)) =>
   match qa4 r s.heap with
   | some (_,.arr _ _ _ d cap)=>some (qs .leq (qaw d) cap)
   | _=>none
  | _=>none
 match o.op with
 | .slice _ x _ _ _=>at_ x
 | .call { callee:=.builtin .append,args,.. } =>
  if qp9 o ip 0 then
   match args.toList with
   | x :: _=>at_ x
   | []=>none
  else none
 | .call { callee:=.builtin _,.. }=>none
 | .call { args,.. } =>
  match qd6 1005 ip with
  | some k=>if Nat.beq k 9 then args.toList.findSome? at_ else if Nat.beq k 8 then args.toList.findSome? (qnE s) else none
  | none=>none
 | _=>none
def qlT (ip:List (Nat × Nat)) (s:S) (o:Oper) (k:S->Out):Out :=
 match qqb ip s o with
 | some c=>match qfs c s.pc with
  | some _=>k s
  | none=>.know c (k { s with pc:=(c,true) :: s.pc })
 | none=>k s
def qtd (ip:List (Nat × Nat)) (s:S) (o:Oper) (k:S->Out):Out:=if qp9 o ip 2 then qlT ip s o k else k s
def qlx (s:S) (x:Operand):List T :=
 match opd s x with
 | some (.one (.c1 (.vptr r _ _) _)) =>
  match qa4 r s.heap with
  | some (_,.cells _ _ ts)=>ts.filterMap (qdt s)
  | _=>[]
 | some (.one t)=>[t].filterMap (qdt s)
 | some (.agg ts)=>ts.filterMap (qdt s)
 | _=>[]
def qnS (ip:List (Nat × Nat)) (s:S) (o:Oper):List T :=
 match o.op with
 | .call { args,.. } =>
  match qd6 1005 ip with
  | some k=>if Nat.beq k 7 then args.toList.flatMap (qlx s) else []
  | none=>[]
 | _=>[]
def qko (s:S):List T->(S->Out)->Out
 | [],k=>k s
 | c :: cs,k =>
  match qfs c s.pc with
  | some _=>qko s cs k
  | none=>.know c (qko { s with pc:=(c,true) :: s.pc } cs k)
def qxv (P:Program) (s:S) (o:Oper) (k:S->Out):Out:=if qyx P o then qfa s [1003] k else k s
def qsA (ow:List Nat) (t:Nat):Option Nat:=ow.findSome? fun x=>if Nat.ble 50000000 x && Nat.beq (x % 10000) t then some (x / 10000 - 5000) else none
def qt3 (ow:List Nat) (s:S) (t el:Nat) (pat:List CK) (k:S->Out):Out :=
 match qsA ow t with
 | none=>k s
 | some g =>
  match qbg t s.env with
  | some (.one x) =>
   if qnA x then
    match qft g s.heap with
    | some (j,m) =>
     if s.inNx && Nat.blt t s.nt then
      .take x el pat m s.nx (k { s with
       env:=qfK t (.one (.vslice (s.nx + 1) (.lit 0) (.dlen (.var (s.nx + 3))) (.var (s.nx + 2)) pat.length)) s.env
       heap:=.arr (s.nx + 1) el pat (.var (s.nx + 3)) (.var (s.nx + 2)) :: .abs s.nx g :: s.heap.eraseIdx j
       nx:=s.nx + 4 })
     else .stuck 68 t 0
    | none=>k s
   else k s
  | _=>k s
def qtf (P:Program) (ow:List Nat) (s:S) (o:Oper) (k:S->Out):Out :=
 match o.op with
 | .call { callee:=.builtin .append,args,argTypes } =>
  match args.toList,argTypes.toList with
  | [x,_],[t,_]=>match qcf P t x with
   | [(t,el,pat)]=>qt3 ow s t el pat k
   | _=>k s
  | _,_=>k s
 | _=>k s
def qnK (E:Ctx) (s:S) (i:Nat) (o:Oper) (k:S->Out):Out :=
 qnB E.ctrs s o fun s=>qxv E.P s o fun s=>qtf E.P E.me.ow s o fun s=>qma E.me.ow s (qys E.P E.ctrs s o) fun s=>qm3 E.me.ow s (qwW E.ctrs s o) fun s=>qlT E.me.ip s o fun s=>qko s (qnS E.me.ip s o) fun s=>qp8 E (qfc E.me.ip s o) i o k
def qde:List SH->List SH->Bool
 | [],_=>true
 | _ :: _,[]=>false
 | x :: xs,y :: ys=>if x.same y then qde xs ys else qde (x :: xs) ys
def qyp (md:Region.Mode) (acc:Array Nat) (l:List Edge):Nat:=l.foldl (fun m e=>if Region.binds md e then m ||| 2 ^ e.on ||| acc.getD e.on 0 else m) 0
def qmV (md:Region.Mode):List Oper->Array Nat->Array Nat
 | [],acc=>acc
 | o :: r,acc=>qmV md r (acc.push (qyp md acc o.after.toList))
def qeH (md:Region.Mode) (ops:Array Oper) (A:List Nat) (j:Nat):Bool :=
 match (qmV md ops.toList #[])[j]? with
 | some m=>A.all fun i=>m.testBit i
 | none=>false
def qoE:Op->Bool
 | .store ..=>false
 | .alloc ..=>false
 | .box ..=>false
 | .makeSlice ..=>false
 | .buildSlice ..=>false
 | .call { callee:=.builtin .len,.. }=>true
 | .call { callee:=.builtin .min,.. }=>true
 | .call { callee:=.builtin .max,.. }=>true
 | .call _=>false
 | _=>true
def qni (ops:Array Oper):List Nat:=go ops.toList 0
where
 go:List Oper->Nat->List Nat
  | [],_=>[]
  | o :: r,i=>if qoE o.op then i :: go r (i + 1) else go r (i + 1)
def qvY (ops:Array Oper):List Nat:=go ops.toList 0 []
where
 go:List Oper->Nat->List Nat->List Nat
  | [],_,acc=>acc.reverse
  | o :: r,i,acc=>if qoE o.op && o.after.toList.all (fun e=>!(Region.binds .any e) || acc.contains e.on) then go r (i + 1) (i :: acc) else go r (i + 1) acc
def qyP:Op->Bool
 | .store ..=>true
 | .call { callee:=.builtin .append,.. }=>true
 | _=>false
def qyg (ops:Array Oper) (A:List Nat):Bool:=go ops.toList 0
where
 go:List Oper->Nat->Bool
  | [],_=>true
  | o :: r,i=>(!qyP o.op || qeH .any ops A i) && go r (i + 1)
def qsJ (ops:Array Oper):List Nat:=if qyg ops (qni ops) then qni ops else qvY ops
def qyM (ops:Array Oper) (x:Nat):List Nat:=(qni ops).filter fun i=>match (qmV .any ops.toList #[])[i]? with
 | some m=>!(m.testBit x)
 | none=>false
def qf6 (ip:List (Nat × Nat)) (ops:Array Oper):List Nat :=
 match qd6 (1100 + ops.size) ip,qd6 (1200 + ops.size) ip with
 | some _,_=>qvY ops
 | none,some x=>qyM ops x
 | none,none =>
  match qd6 1001 ip with
  | some k=>if Nat.beq k 9 then qni ops else qsJ ops
  | none=>qsJ ops
def qzw (ip:List (Nat × Nat)) (ops:Array Oper):List Oper:=go ops.toList 0
where
 go:List Oper->Nat->List Oper
  | [],_=>[]
  | o :: r,i=>if qeH .any ops (qf6 ip ops) i then go r (i + 1) else o :: go r (i + 1)
def qzj (ip:List (Nat × Nat)):Bool :=
 match qd6 1000 ip with
 | some k=>Nat.beq k 9
 | none=>false
inductive Pick where
 | br (c:T)
 | take (i:Nat)
 | all
 deriving Inhabited
def qjm (ops:Array Oper) (s:S) (o:Oper):Option (Option Bool) :=
 match qjK ops s o with
 | none=>none
 | some none=>some (some true)
 | some (some (c,want))=>match qfs c s.pc with
  | some b=>some (some (b == want))
  | none=>some none
def qqu (E:Ctx) (s:S) (st:List SH) (o:Oper):Option R1 :=
 match qmj E.P E.me.ip { s with heap:=st } o with
 | some r=>if Nat.beq r.fresh 0 && r.val.isSome then some r else none
 | none=>none
def qno (ops:Array Oper) (s:S):List Nat->Option T
 | []=>none
 | i :: l=>match ops[i]? with
  | none=>qno ops s l
  | some o=>match qjK ops s o with
   | some (some (c,_))=>match qfs c s.pc with
    | none=>some c
    | some _=>qno ops s l
   | _=>qno ops s l
def qib (E:Ctx) (ops:Array Oper) (listed:Array Bool) (s:S) (st:List SH):List Nat->Option Nat
 | []=>none
 | i :: l=>match ops[i]? with
  | none=>qib E ops listed s st l
  | some o =>
   match qjm ops s o with
   | some (some g)=>if (!g || (qqu E s st o).isSome) && (qf6 E.me.ip ops).contains i && Region.free .any ops listed i then some i else qib E ops listed s st l
   | _=>qib E ops listed s st l
def qwR (E:Ctx) (ops:Array Oper) (listed:Array Bool) (s:S) (st:List SH) (R:List Nat):Pick :=
 match qno ops s R with
 | some c=>.br c
 | none =>
  if qde st s.heap then
   match qib E ops listed s st R with
   | some i=>.take i
   | none=>.all
  else .all
def qnU (k:Nat->Out):List Nat->Out
 | []=>.top
 | i :: l=>.both (k i) (qnU k l)
def SH.isCells:SH->Bool
 | .cells ..=>true
 | _=>false
def qw0 (E:Ctx) (s:S) (f:Operand):Bool :=
 match qd6 1002 E.me.ip,opd s f with
 | some k,some (.fn (.func fid) _ _)=>Nat.beq k 9 && E.ctrs.all fun c=>!(Nat.beq c.fn fid) || c.heap.isEmpty
 | _,_=>false
def qr3 (E:Ctx) (s:S) (ops:List Oper):List SH:=go ops s s.heap
where
 go:List Oper->S->List SH->List SH
  | [],_,st=>st
  | o :: r,s,st =>
   match o.op with
   | .call { callee:=.value f,args,argTypes } =>
    match qgz s { callee:=.value f,args,argTypes } with
    | some (fid,avs) =>
     match qfv E.me.ip s fid avs 0 E.ctrs with
     | some (_,_,h,_)=>go r s (st.filter fun x=>h.any fun y=>x.same y)
     | none=>go r s (st.filter SH.isCells)
    | none=>if qw0 E s f then go r s st else go r s (st.filter SH.isCells)
   | _ =>
    match qq E.P s o with
    | some r1=>go r { s with env:=(match r1.val,o.dst with | some v,some d=>qfK d v s.env | _,_=>s.env),heap:=r1.heap,nx:=s.nx + r1.fresh } (st.filter fun x=>r1.heap.any fun y=>x.same y)
    | none =>
     match o.op with
     | .store _ a _=>match opd s a with
      | some (.one (.c1 (.vptr rg _ _) _))=>go r s (st.filter fun x=>!(match x.reg with | some q=>Nat.beq q rg | none=>false))
      | _=>[]
     | .call { callee:=.builtin .append,args,.. }=>match args[0]?.bind (opd s) with
      | some (.one (.c3 (.vslice rg _) _ _ _))=>go r s (st.filter fun x=>!(match x.reg with | some q=>Nat.beq q rg | none=>false))
      | _=>match (args[0]?:Option Operand) with
       | some (.tmp t)=>if (qsA E.me.ow t).isSome then go r s (st.filter fun x=>x.isAbs.isNone) else go r s st
       | _=>go r s st
     | _=>go r s st
def qhQ (E:Ctx) (s:S) (ops:Array Oper):List SH:=(if qzj E.me.ip then qr3 E s ops.toList else qr3 E s (qzw E.me.ip ops)).filter fun x=>!(qgS 1003 x)
def qxN (I:Inv) (li base:Nat) (s:S):Out :=
 match (qfG I.env s.env { th:=1000,bd:=[],eqI:=[],eqB:=[],eqD:=[] }).bind (mHs true I.heap s.heap []) with
 | some (_,Y) =>
  match Y.left with
  | some cs=>needs s cs fun _=>.back li base Y.clean
  | none=>.stuck 2 li 0
 | none=>.stuck 3 li 1
def qxK (I:Inv) (li:Nat) (s:S) (k:S->Out):Out :=
 match (qfG I.env s.env { th:=1000,bd:=[],eqI:=[],eqB:=[],eqD:=[] }).bind (mHs true I.heap s.heap []) with
 | none=>.stuck 23 li 1
 | some (_,Y) =>
  match Y.left with
  | none=>.stuck 24 li 0
  | some cs=>needs s cs fun s=>if !(s.inNx && I.fits s.nx) then .stuck 28 li 0 else .inv li s.nx Y.clean <|
   let Y1:Sg:={ th:=1000,bd:=qcE 1000 s.nx I.nv,eqI:=[],eqB:=[],eqD:=[] }
   match Y1.subEnv I.env,Y1.subHs I.heap with
   | some env,some hs=>qet s I.nv fun s'=>if !({ s' with env:=env,heap:=hs,vw:=[] }:S).inNx then .stuck 29 li 0 else
     .hyp li s.nx (k { s' with env:=env,heap:=hs,vw:=[] })
   | _,_=>.stuck 25 li 0
def qzK (E:Ctx) (b:Code):Option (Nat × Inv):=(qci b).bind fun key=>qfb (key + 1000000) E.invs 0
def qyJ (I:Inv) (li base:Nat) (s:S):Out :=
 match (qfG I.env s.env { th:=1000,bd:=[],eqI:=[],eqB:=[],eqD:=[] }).bind (mHs true I.heap s.heap []) with
 | some (_,Y) =>
  match Y.left with
  | some cs=>needs s cs fun _=>.cut li base Y.clean
  | none=>.stuck 62 li 0
 | none=>.stuck 63 li 1
def qxE (I:Inv) (li:Nat) (s:S) (k:S->Out):Out :=
 if !(s.inNx && I.fits s.nx) then .stuck 64 li 0 else
 let Y1:Sg:={ th:=1000,bd:=qcE 1000 s.nx I.nv,eqI:=[],eqB:=[],eqD:=[] }
 match Y1.subEnv I.env,Y1.subHs I.heap with
 | some env,some hs=>qet s I.nv fun s'=>if !({ s' with env:=env,heap:=hs,vw:=[] }:S).inNx then .stuck 65 li 0 else
   .hyp li s.nx (k { s' with env:=env,heap:=hs,vw:=[] })
 | _,_=>.stuck 66 li 0
def qa3 (E:Ctx) (fn:Func):Nat->List KI->S->Out
 | 0,_,_=>.stuck 0 0 0
 | n + 1,[],s =>
  match qih fn s E.P with
  | some v=>qhJ E.me s v (qwT E.me s v E.me.alts) 0 E.me.alts
  | none=>.stuck 1 0 0
 | n + 1,.blk _ :: K,s=>qa3 E fn n K s
 | n + 1,.again c :: K,s=>qa3 E fn n (.code c :: .again c :: K) s
 | n + 1,.lend li base :: _,s =>
  match E.invs[li]? with
  | some I =>
   match (qfG I.env s.env { th:=1000,bd:=[],eqI:=[],eqB:=[],eqD:=[] }).bind (mHs true (qh7 I.heap) s.heap []) with
   | some (rest,_)=>qev s rest (qfd I.heap) fun s=>qxN I li base s
   | none=>.stuck 3 li 0
  | none=>.stuck 4 li 0
 | n + 1,.cutE li base :: _,s =>
  match E.invs[li]? with
  | some I =>
   match (qfG I.env s.env { th:=1000,bd:=[],eqI:=[],eqB:=[],eqD:=[] }).bind (mHs true (qh7 I.heap) s.heap []) with
   | some (rest,_)=>qev s rest (qfd I.heap) fun s=>qyJ I li base s
   | none=>.stuck 63 li 0
  | none=>.stuck 61 li 0
 | n + 1,.ops _ [] :: K,s=>qa3 E fn n K s
 | n + 1,.ops ops (i :: l) :: K,s =>
  match ops[i]? with
  | none=>qa3 E fn n (.ops ops l :: K) s
  | some o =>
   match qjK ops s o with
   | none=>.stuck 17 i 0
   | some none=>qnK E s i o (fun s=>qa3 E fn n (.ops ops l :: K) s)
   | some (some (c,want))=>qjv s c fun b s=>if b = want then qnK E s i o (fun s=>qa3 E fn n (.ops ops l :: K) s) else
    match qcn o.dst (some (.tup [])) s with
    | some s=>qa3 E fn n (.ops ops l :: K) s
    | none=>.stuck 18 i 0
 | n + 1,.any ops listed left st :: K,s =>
  match Region.ready .any ops listed with
  | []=>qa3 E fn n K s
  | j :: R =>
   match left with
   | 0=>.stuck 41 0 0
   | left + 1 =>
    match qwR E ops listed s st (j :: R) with
    | .br c=>qjv s c fun _ s=>qa3 E fn n (.any ops listed (left + 1) st :: K) s
    | .take i =>
     if !(qde st s.heap && Region.noSelect ops && (qf6 E.me.ip ops).contains i && Region.free .any ops listed i && (j :: R).contains i) then .stuck 42 i 0 else
     match ops[i]? with
     | none=>.stuck 43 i 0
     | some o =>
      match qjm ops s o with
      | some (some false) =>
       match qcn o.dst (some (.tup [])) s with
       | some s=>qa3 E fn n (.any ops (listed.setIfInBounds i true) left st :: K) s
       | none=>.stuck 44 i 0
      | some (some true)=>qtd E.me.ip s o fun s =>
       match qqu E s st o with
       | some r=>needs s r.needs fun s =>
        match qcn o.dst r.val s with
        | some s=>qa3 E fn n (.any ops (listed.setIfInBounds i true) left st :: K) s
        | none=>.stuck 45 i 0
       | none=>.stuck 46 i 0
      | _=>.stuck 47 i 0
    | .all=>qnU (fun i =>
      match ops[i]? with
      | none=>.stuck 43 i 0
      | some o =>
       match qjm ops s o with
       | some (some true)=>qnK E s i o fun s=>if !(qeH .any ops (qf6 E.me.ip ops) i || qde st s.heap) then .stuck 50 i 0 else qa3 E fn n (.any ops (listed.setIfInBounds i true) left st :: K) s
       | some (some false) =>
        if !(qeH .any ops (qf6 E.me.ip ops) i || qde st s.heap) then .stuck 51 i 0 else
        match qcn o.dst (some (.tup [])) s with
        | some s=>qa3 E fn n (.any ops (listed.setIfInBounds i true) left st :: K) s
        | none=>.stuck 48 i 0
       | _=>.stuck 49 i 0) (j :: R)
 | n + 1,.code c :: K,s =>
  match c with
  | .skip=>qa3 E fn n K s
  | .label _=>qa3 E fn n K s
  | .seq a b =>
   match qzK E b with
   | some (li,I)=>.both (qa3 E fn n (.code a :: .cutE li s.nx :: .code b :: K) s) (qxE I li s fun s'=>qa3 E fn n (.code b :: K) s')
   | none=>qa3 E fn n (.code a :: .code b :: K) s
  | .block id b=>qa3 E fn n (.code b :: .blk id :: K) s
  | .exit id =>
   match qdY id K with
   | some K'=>qa3 E fn n K' s
   | none=>.stuck 20 id 0
  | .ret=>qa3 E fn n [] s
  | .cond c a b =>
   match opd s c with
   | some (.one (.c1 .vbool t))=>qjv s t fun x s=>qa3 E fn n (.code (if x then a else b) :: K) s
   | _=>.stuck 21 0 0
  | .region _ ops false=>qa3 E fn n (.ops ops (List.range ops.size) :: K) s
  | .region _ ops true =>
   if E.P.follows .mixedOrders && Region.noSelect ops && s.inNx then
    if (qhQ E s ops).all (SH.inB s.nx) then qa3 E fn n (.any ops (Array.replicate ops.size false) ops.size (qhQ E s ops) :: K) s else .stuck 32 0 0
   else .stuck 31 0 0
  | .loop b =>
   match (qci b).bind fun key=>qn6 key s E.invs with
   | none=>qa3 E fn n (.code b :: .again b :: K) s
   | some (li,I) =>
    match (qfG I.env s.env { th:=1000,bd:=[],eqI:=[],eqB:=[],eqD:=[] }).bind (mHs true (qh7 I.heap) s.heap []) with
    | none=>.stuck 23 li 0
    | some (rest,_)=>qev s rest (qfd I.heap) fun s=>qxK I li s fun s'=>qa3 E fn n (.code b :: .lend li (s'.nx - I.nv) :: K) s'
  | _=>.stuck 26 0 0
theorem qbs {a b:Nat} (h:a < b):Nat.blt a b = true:=by simpa using h
theorem qdv {a b:Nat} (h:¬ a < b):Nat.blt a b = false:=by
 cases h':Nat.blt a b
 ·rfl
 ·exact absurd (by simpa using h') h
theorem T.den_congr {n:Nat} {Z Z':Env} (h:∀ m,m < n->Z m = Z' m):∀ (t:T),t.inB n = true->t.den Z = t.den Z'
 | .var m,hb=>by simp [T.inB] at hb; simpa [T.den] using h m hb
 | .c0 o,hb=>by
  cases o <;> simp_all [T.inB,T.den,O0.den]
 | .c1 o a,hb=>by
  cases o <;> (simp only [T.inB,jad,ja6] at hb) <;>
   first
    | (simp only [T.den]; rw [T.den_congr h a hb]; rfl)
    | (simp only [T.den]; rw [T.den_congr h a hb.2]; simp [O1.den,h _ hb.1])
 | .c2 o a b,hb=>by
  simp only [T.inB,jad] at hb;simp only [T.den]; rw [T.den_congr h a hb.1,T.den_congr h b hb.2]
 | .c3 o a b c,hb=>by
  cases o <;> (simp only [T.inB,jad,ja6] at hb)
  ·simp only [T.den]; rw [T.den_congr h a hb.1.1.2,T.den_congr h b hb.1.2,T.den_congr h c hb.2]; simp [O3.den,h _ hb.1.1.1]
  all_goals (simp only [T.den]; rw [T.den_congr h a hb.1.1,T.den_congr h b hb.1.2,T.den_congr h c hb.2]; rfl)
 | .ife a b x y,hb=>by
  simp only [T.inB,jad] at hb;simp only [T.den]; rw [T.den_congr h a hb.1.1.1,T.den_congr h b hb.1.1.2,T.den_congr h x hb.1.2,T.den_congr h y hb.2]
theorem qbn {n:Nat} {Z Z':Env} (h:∀ m,m < n->Z m = Z' m) (ts:List T) (hb:ts.all (T.inB n) = true):qa Z ts = qa Z' ts:=by
 unfold qa;refine jds fun t ht=>?_
 rw [T.den_congr h t (jao.1 hb t ht)]
theorem SV.den_congr {n:Nat} {Z Z':Env} (h:∀ m,m < n->Z m = Z' m) (v:SV) (hb:v.inB n = true):v.den Z = v.den Z':=by
 cases v with
 | one t=>simp only [SV.inB] at hb; simp only [SV.den]; rw [T.den_congr h t hb]
 | agg ts=>simp only [SV.inB] at hb; simp only [SV.den]; rw [qbn h ts hb]
 | tup vs =>
  simp only [SV.inB] at hb; simp only [SV.den]
  congr 2
  refine jds fun x hx=>?_
  have:=jao.1 hb x hx;obtain ⟨g,ts⟩:=x;cases g <;> simp only [qdM] <;> rw [qbn h ts this]
 | fn f a b =>
  simp only [SV.inB,jad] at hb; simp only [SV.den];rw [qbn h a hb.1,qbn h b hb.2]
theorem SH.den_congr {n:Nat} {Z Z':Env} (h:∀ m,m < n->Z m = Z' m) (x:SH) (hb:x.inB n = true) (hp:Hp):x.den Z hp↔x.den Z' hp:=by
 cases x with
 | cells r ty cs=>simp only [SH.inB,jad,ja6] at hb; simp only [SH.den]; rw [qbn h cs hb.2,h r hb.1]
 | arr r ty pat d cap =>
  simp only [SH.inB,jad,ja6] at hb; simp only [SH.den];rw [T.den_congr h d hb.1.2,T.den_congr h cap hb.2,h r hb.1.1]
 | abs m t=>simp only [SH.inB,ja6] at hb; simp only [SH.den]; rw [h m hb]
theorem SH.roden_congr {n:Nat} {Z Z':Env} (h:∀ m,m < n->Z m = Z' m) (x:SH) (hb:x.inB n = true) (hp:Hp):x.roden Z hp↔x.roden Z' hp:=by
 cases x with
 | cells r ty cs=>simp only [SH.inB,jad,ja6] at hb; simp only [SH.roden]; rw [qbn h cs hb.2,h r hb.1]
 | arr r ty pat d cap =>
  simp only [SH.inB,jad,ja6] at hb; simp only [SH.roden];rw [T.den_congr h d hb.1.2,h r hb.1.1]
 | abs m t=>simp only [SH.inB,ja6] at hb; simp only [SH.roden]; rw [h m hb]
theorem qaS {n:Nat} {Z Z':Env} (h:∀ m,m < n->Z m = Z' m):∀ (l:List SH),l.all (SH.inB n) = true->∀ hp,qD Z l hp->qD Z' l hp
 | [],_,_,_=>trivial
 | x :: xs,hb,hp,⟨h1,h2,hd,hu,hx,hs⟩=>by
  simp only [jc0,jad] at hb;exact ⟨h1,h2,hd,hu,(SH.den_congr h x hb.1 h1).1 hx,qaS h xs hb.2 h2 hs⟩
def Bd.den (Z:Env):Bd->U
 | .t x=>x.den Z
 | .r m=>Z m
 | .nil=>{}
def Sg.env (Y:Sg) (Z:Env):Env:=fun n =>
 if n < Y.th then Z n else
 match look n Y.bd with
 | some b=>b.den Z
 | none=>{}
theorem Sg.env_lt {Y:Sg} {Z:Env} {n:Nat} (h:n < Y.th):Y.env Z n = Z n:=by simp [Sg.env,h]
theorem Sg.env_look {Y:Sg} {Z:Env} {n:Nat} {b:Bd} (h:¬ n < Y.th) (hl:look n Y.bd = some b):Y.env Z n = b.den Z:=by simp [Sg.env,h,hl]
theorem Sg.reg_env {Y:Sg} {Z:Env} {r r':Nat} (h:Y.reg r = some r'):Y.env Z r = Z r':=by
 unfold Sg.reg at h;by_cases hr:r < Y.th
 ·have:=qbs hr
  simp only [this,ja5,jaa] at h;rw [Sg.env_lt hr,h]
 ·have:=qdv hr
  simp only [this,jan,ja3] at h;split at h
  ·rename_i m hl
   simp only [jaa] at h;rw [Sg.env_look hr hl,<- h]; rfl
  ·simp at h
theorem Sg.sub_den {Y:Sg} {Z:Env}:∀ {t t':T},Y.sub t = some t'->t'.den Z = t.den (Y.env Z)
 | .var n,t',h=>by
  simp only [Sg.sub] at h;by_cases hr:n < Y.th
  ·have:=qbs hr
   simp only [this,ja5,jaa] at h;rw [<- h]; simp [T.den,Sg.env_lt hr]
  ·have:=qdv hr
   simp only [this,jan,ja3] at h;split at h
   ·rename_i t hl; simp only [jaa] at h; rw [<- h]; simp [T.den,Sg.env_look hr hl,Bd.den]
   ·rename_i t hl; simp only [jaa] at h; rw [<- h]; simp [T.den,Sg.env_look hr hl,Bd.den]
   ·simp at h
 | .c0 o,t',h=>by
  cases o
  case isnil r =>
   simp only [Sg.sub] at h;by_cases hr:r < Y.th
   ·have:=qbs hr
    simp only [this,ja5,jaa] at h;rw [<- h]; simp [T.den,O0.den,Sg.env_lt hr]
   ·have:=qdv hr
    simp only [this,jan,ja3] at h;split at h
    ·rename_i t hl; simp only [jaa] at h; rw [<- h]; simp [T.den,O0.den,Sg.env_look hr hl,Bd.den]
    ·rename_i hl; simp only [jaa] at h; rw [<- h]; simp [T.den,O0.den,Sg.env_look hr hl,Bd.den]
    ·simp at h
  all_goals (simp only [Sg.sub,jaa] at h; rw [<- h]; rfl)
 | .c1 o a,t',h=>by
  cases o
  case vptr r p c =>
   simp only [Sg.sub] at h;split at h
   ·rename_i r' a' hr ha
    simp only [jaa] at h;rw [<- h]; simp only [T.den,O1.den]; rw [Sg.sub_den ha,Sg.reg_env hr]
   ·simp at h
  all_goals
   simp only [Sg.sub,jah] at h;obtain ⟨a',ha,rfl⟩:=h;simp only [T.den]; rw [Sg.sub_den ha]; rfl
 | .c2 o a b,t',h=>by
  simp only [Sg.sub] at h;split at h
  ·rename_i a' b' ha hb
   simp only [jaa] at h;rw [<- h]; simp only [T.den]; rw [Sg.sub_den ha,Sg.sub_den hb]
  ·simp at h
 | .c3 o a b c,t',h=>by
  cases o
  case vslice r p =>
   simp only [Sg.sub] at h;split at h
   ·rename_i r' a' b' c' hr ha hb hc
    simp only [jaa] at h;rw [<- h]; simp only [T.den,O3.den]; rw [Sg.sub_den ha,Sg.sub_den hb,Sg.sub_den hc,Sg.reg_env hr]
   ·simp at h
  all_goals
   simp only [Sg.sub] at h;split at h
   ·rename_i a' b' c' ha hb hc
    simp only [jaa] at h;rw [<- h]; simp only [T.den,O3.den]; rw [Sg.sub_den ha,Sg.sub_den hb,Sg.sub_den hc]
   ·simp at h
 | .ife a b x y,t',h=>by
  simp only [Sg.sub] at h;split at h
  ·rename_i a' b' x' y' ha hb hx hy
   simp only [jaa] at h;rw [<- h]; simp only [T.den]; rw [Sg.sub_den ha,Sg.sub_den hb,Sg.sub_den hx,Sg.sub_den hy]
  ·simp at h
theorem Sg.subs_den {Y:Sg} {Z:Env}:∀ {ts ts':List T},Y.subs ts = some ts'->qa Z ts' = qa (Y.env Z) ts
 | [],ts',h=>by simp only [Sg.subs,jaa] at h; rw [<- h]; rfl
 | t :: ts,ts',h=>by
  simp only [Sg.subs] at h;split at h
  ·rename_i a b ha hb
   simp only [jaa] at h;rw [<- h];have:=Sg.subs_den (Z:=Z) hb;simp only [qa,jaq] at this ⊢;rw [Sg.sub_den ha,this]
  ·simp at h
theorem Sg.tup_den {Y:Sg} {Z:Env}:∀ {vs vs':List (Bool × List T)},Sg.subSV.tup Y vs = some vs'->vs'.map (qdM Z) = vs.map (qdM (Y.env Z))
 | [],vs',h=>by simp only [Sg.subSV.tup,jaa] at h; rw [<- h]; rfl
 | (g,ts) :: r,vs',h=>by
  simp only [Sg.subSV.tup] at h;split at h
  ·rename_i a b ha hb
   simp only [jaa] at h;rw [<- h];simp only [jaq];rw [Sg.tup_den hb]
   congr 1
   cases g <;> simp only [qdM] <;> rw [Sg.subs_den ha]
  ·simp at h
theorem Sg.subSV_den {Y:Sg} {Z:Env} {v v':SV} (h:Y.subSV v = some v'):v'.den Z = v.den (Y.env Z):=by
 cases v with
 | one t =>
  simp only [Sg.subSV,jah] at h;obtain ⟨a,ha,rfl⟩:=h;simp only [SV.den]; rw [Sg.sub_den ha]
 | agg ts =>
  simp only [Sg.subSV,jah] at h;obtain ⟨a,ha,rfl⟩:=h;simp only [SV.den]; rw [Sg.subs_den ha]
 | tup vs =>
  simp only [Sg.subSV,jah] at h;obtain ⟨a,ha,rfl⟩:=h;simp only [SV.den]; rw [Sg.tup_den ha]
 | fn f a b =>
  simp only [Sg.subSV] at h;split at h
  ·rename_i x y hx hy
   simp only [jaa] at h;rw [<- h]; simp only [SV.den]; rw [Sg.subs_den hx,Sg.subs_den hy]
  ·simp at h
theorem Sg.subH_den {Y:Sg} {Z:Env} {x x':SH} (h:Y.subH x = some x') (hp:Hp):x'.den Z hp↔x.den (Y.env Z) hp:=by
 cases x with
 | cells r ty cs =>
  simp only [Sg.subH] at h;split at h
  ·rename_i r' cs' hr hc
   simp only [jaa] at h;rw [<- h]; simp only [SH.den]; rw [Sg.subs_den hc,Sg.reg_env hr]
  ·simp at h
 | arr r ty pat d cap =>
  simp only [Sg.subH] at h;split at h
  ·rename_i r' d' cap' hr hd hc
   simp only [jaa] at h;rw [<- h]; simp only [SH.den]; rw [Sg.sub_den hd,Sg.sub_den hc,Sg.reg_env hr]
  ·simp at h
 | abs n t =>
  simp only [Sg.subH,jah] at h;obtain ⟨m,hm,rfl⟩:=h;simp only [SH.den]; rw [Sg.reg_env hm]
theorem Sg.subHs_den {Y:Sg} {Z:Env}:∀ {l l':List SH},Y.subHs l = some l'->∀ hp,qD Z l' hp↔qD (Y.env Z) l hp
 | [],l',h,hp=>by simp only [Sg.subHs,jaa] at h; rw [<- h]; rfl
 | x :: r,l',h,hp=>by
  simp only [Sg.subHs] at h;split at h
  ·rename_i a b ha hb
   simp only [jaa] at h;rw [<- h];simp only [qD];constructor
   ·rintro ⟨h1,h2,hd,hu,hx,hs⟩; exact ⟨h1,h2,hd,hu,(Sg.subH_den ha h1).1 hx,(Sg.subHs_den hb h2).1 hs⟩
   ·rintro ⟨h1,h2,hd,hu,hx,hs⟩; exact ⟨h1,h2,hd,hu,(Sg.subH_den ha h1).2 hx,(Sg.subHs_den hb h2).2 hs⟩
  ·simp at h
variable {Z:Env}
theorem qmI {d:List (List Value)} (h:∀ row ∈ d,∀ v ∈ row,v.oneCell' = true) (e:Int) (c:Nat):(qU d e c).oneCell' = true:=by
 unfold qU;cases h1:d[e.toNat]? with
 | none=>simp [Value.oneCell']
 | some row =>
  simp only [jbi];cases h2:row[c]? with
  | none=>simp [Value.oneCell']
  | some v=>exact h row (jas h1) v (jas h2)
theorem qvQ (hg:Z.good) {k:CK} {t:T} (h:qmG k t = true):CK.fits k (t.den Z).v = true:=by
 unfold qmG at h;split at h <;> first
  | (simp only [jaw] at h; subst h; simp [T.den,O1.den,CK.fits]; done)
  | (simp [T.den,O0.den,O1.den,O3.den,CK.fits,Value.oneCell']; done)
  | (rename_i n; exact (hg n).1)
  | (rename_i c n e; exact qmI (hg n).2 _ _)
  | (simp at h; done)
theorem qeK (hg:Z.good):∀ {ks:List CK} {ts:List T},qdP ks ts = true->∀ (j:Nat) (k:CK) (v:Value),ks[j]? = some k->(qa Z ts)[j]? = some v->CK.fits k v = true
 | ks,[],_,j,k,v,_,hv=>by simp [qa] at hv
 | [],t :: ts,h,_,_,_,_,_=>by simp [qdP] at h
 | k :: ks,t :: ts,h,0,k',v,hk,hv=>by
  simp only [qdP,jad] at h;simp only [ja7,jaa] at hk;simp only [qa,jaq,ja7,jaa] at hv;subst hk; subst hv;exact qvQ hg h.1
 | k :: ks,t :: ts,h,j + 1,k',v,hk,hv=>by
  simp only [qdP,jad] at h;simp only [ja1] at hk;simp only [qa,jaq,ja1] at hv;exact qeK hg h.2 j k' v hk hv
theorem qgg:∀ (ts:List T),((T.row ts).den Z).d.headD [] = qa Z ts
 | []=>by simp [T.row,T.den,O0.den,qa]
 | t :: ts=>by
  have:=qgg ts;simp only [T.row,T.den,O2.den,jb5,qa,jaq] at this ⊢;rw [this]
def qp (d:List (List Value)):List Value:=d.flatten
theorem qls {p:Nat}:∀ {d:List (List Value)},(∀ row ∈ d,row.length = p)->∀ (i k:Nat) (row:List Value),d[i]? = some row->k < p->(qp d)[i * p + k]? = row[k]?
 | [],_,i,k,row,h,_=>by simp at h
 | r0 :: d,hp,0,k,row,h,hk=>by
  simp only [ja7,jaa] at h; subst h;have:=hp r0 (jac ..);simp only [qp,jdj,jek,jbb];rw [jbs (by omega)]
 | r0 :: d,hp,i + 1,k,row,h,hk=>by
  simp only [ja1] at h;have h0:=hp r0 (jac ..);have ih:=qls (fun row hr=>hp row (jab _ hr)) i k row h hk;simp only [qp,jdj] at ih ⊢;rw [jbd (by rw [h0,jbq]; omega),h0,show (i + 1) * p + k - p = i * p + k from by rw [jbq]; omega];exact ih
theorem qds {p:Nat}:∀ {d:List (List Value)},(∀ row ∈ d,row.length = p)->(qp d).length = d.length * p
 | [],_=>by simp [qp]
 | r0 :: d,hp=>by
  have h0:=hp r0 (jac ..);have ih:=qds (fun row hr=>hp row (jab _ hr));simp only [qp,jdj,jav,jbh] at ih ⊢;rw [ih,h0,jbq]; omega
theorem qyh {p:Nat} (hp0:0 < p) {d:List (List Value)} (hp:∀ row ∈ d,row.length = p) {j:Nat} {v:Value} (h:(qp d)[j]? = some v):∃ row,d[j / p]? = some row/\row[j % p]? = some v:=by
 have hj:j < (qp d).length:=by
  rcases jbt j (qp d).length with h' | h'
  ·exact h'
  ·rw [jap h'] at h; cases h
 rw [qds hp] at hj;have hi:j / p < d.length:=Nat.div_lt_of_lt_mul (by rw [jdd]; exact hj);refine ⟨d[j / p],jae hi,?_⟩;have:=qls hp (j / p) (j % p) _ (jae hi) (jeg _ hp0);rw [show j / p * p + j % p = j from by rw [jdd]; exact jep j p] at this;rw [<- this]; exact h
theorem qfr {c:Array Value} {o:Nat} {pat:List CK} {d:List (List Value)} (hp:0 < pat.length) (h:qaA c o pat d):∀ (j:Nat) (v:Value),(qp d)[j]? = some v->c[o + j]? = some v:=by
 intro j v hv;obtain ⟨row,h1,h2⟩:=qyh hp (fun row hr=>by
  obtain ⟨i,hi⟩:=jb0 hr;exact (h i row hi).1.1) hv
 have:=(h _ _ h1).2 _ _ h2
 rwa [show o + j / pat.length * pat.length + j % pat.length = o + j from by
  rw [jc9,jdd]; congr 1; exact jep j pat.length] at this
theorem quw {c:Array Value} {o:Nat} {pat:List CK} {d:List (List Value)} (h:qaA c o pat d) (n m:Nat):qaA c (o + n * pat.length) pat ((d.drop n).take m):=by
 intro i row hi;rw [jbe] at hi;split at hi
 ·rw [jbf] at hi
  obtain ⟨h1,h2⟩:=h _ _ hi;refine ⟨h1,fun k v hv=>?_⟩;have:=h2 k v hv
  rwa [show o + (n + i) * pat.length + k = o + n * pat.length + i * pat.length + k from by rw [jbq]; omega] at this
 ·cases hi
theorem qfq (hg:Z.good) {pat:List CK} {p:Nat} (hpp:p = pat.length):∀ {n:Nat} {cs:List T} {d:T},qe1 pat p n cs = some d ->
  (d.den Z).d.length = n/\qp (d.den Z).d = qa Z cs/\∀ row ∈ (d.den Z).d,qX pat row
 | 0,[],d,h=>by simp only [qe1,jaa] at h; subst h; simp [T.den,O0.den,qp,qa]
 | 0,_ :: _,d,h=>by simp [qe1] at h
 | n + 1,cs,d,h=>by
  simp only [qe1] at h;split at h
  ·rename_i hc
   simp only [jad,jdg] at hc;split at h
   ·rename_i r hr
    obtain ⟨h1,h2,h3⟩:=qfq hg hpp hr;have hfit:qX pat (qa Z (cs.take p)):=⟨by simp [qa]; omega,fun c k v hk hv=>qeK hg hc.2 c k v hk hv⟩;have hrow:((T.row (cs.take p)).den Z).d = [qa Z (cs.take p)]:=by
     have hd:=qgg (Z:=Z) (cs.take p);have hl:((T.row (cs.take p)).den Z).d.length = 1:=by
      cases cs.take p with
      | nil=>simp [T.row,T.den,O0.den]
      | cons t ts=>simp [T.row,T.den,O2.den]
     match hx:((T.row (cs.take p)).den Z).d,hl with
     | [x],_=>rw [hx] at hd; simpa using hd
    have hsplit:qa Z cs = qa Z (cs.take p) ++ qa Z (cs.drop p):=by
     simp only [qa,<- jcl,List.take_append_drop]
    simp only [jaa] at h;split at h
    ·subst h
     rw [hrow];have hn:(r.den Z).d = []:=jc2.1 h1;rw [hn] at h2;refine ⟨rfl,?_,fun row hm=>by simp only [jak] at hm; subst hm; exact hfit⟩;rw [hsplit,<- h2]; simp [qp]
    ·subst h
     simp only [T.den,O2.den,hrow];refine ⟨by simp [h1],?_,fun row hm=>?_⟩
     ·rw [hsplit,<- h2]; simp [qp]
     ·rcases jax.1 hm with hm | hm
      ·simp only [jak] at hm; subst hm; exact hfit
      ·exact h3 row hm
   ·simp at h
  ·simp at h
theorem qbV {c:Array Value} {o:Nat} {pat:List CK} {d:List (List Value)} (hf:∀ row ∈ d,qX pat row) (h:∀ (j:Nat) (v:Value),(qp d)[j]? = some v->c[o + j]? = some v):qaA c o pat d:=by
 intro i row hi;have hm:=hf row (jas hi);refine ⟨hm,fun k v hv=>?_⟩;have hk:k < pat.length:=by
  rw [<- hm.1];rcases jbt k row.length with h' | h'
  ·exact h'
  ·rw [jap h'] at hv; cases hv
 have:=qls (fun row hr=>(hf row hr).1) i k row hi hk;rw [hv] at this;have:=h _ _ this
 rwa [<- jc9] at this
theorem qhj (d e:List (List Value)):qp (d ++ e) = qp d ++ qp e:=by simp [qp]
theorem qof {pat:List CK} {d:List (List Value)} (hf:∀ row ∈ d,qX pat row):∀ v ∈ qp d,v.oneCell' = true:=by
 intro v hv;simp only [qp,jd1] at hv;obtain ⟨row,hr,hv⟩:=hv;obtain ⟨k,hk⟩:=jb0 hv;obtain ⟨h1,h2⟩:=hf row hr;have hlt:k < pat.length:=by
  rw [<- h1];rcases jbt k row.length with h' | h'
  ·exact h'
  ·rw [jap h'] at hk; cases hk
 have:=h2 k _ v (jae hlt) hk;unfold CK.fits at this;split at this
 ·rfl
 ·rfl
 ·exact this
 ·cases this
theorem qhw {c:Array Value} {o:Nat} {pat:List CK} {d:List (List Value)} (h:qaA c o pat d):∀ row ∈ d,qX pat row:=fun row hr=>by
 obtain ⟨i,hi⟩:=jb0 hr;exact (h i row hi).1
end Go.Eng
