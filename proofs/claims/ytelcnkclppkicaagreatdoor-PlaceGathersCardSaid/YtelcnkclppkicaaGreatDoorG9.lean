/- Texts PJ, PK, PM, PN, PP, PQ, PT, PU, PV, PY, PZ, QM, QI, QN, QR, RD, TH, TK, PA, PB, PC, PD, PE, P0, P1, PX, PW, QB, QC, QE, QD, QG, QH. -/
import Derived.Test.YtelcnkclppkicaaGreatDoorG8
import Derived.Test.YtelcnkclppkicaaGreatDoorProg
import Derived.Test.YtelcnkclppkicaaGreatDoorG1
import Derived.Test.YtelcnkclppkicaaGreatDoorG7
import Derived.Test.YtelcnkclppkicaaGreatDoorG6
import Derived.Test.YtelcnkclppkicaaGreatDoorG5
import Derived.Test.YtelcnkclppkicaaGreatDoorG4
import Derived.Shelf.SlSortCmp.NoneTotal
import Derived.Deep.QuietTactic
import Derived.BigQuiet
import Derived.Ground.SlsfProg
import Derived.Test.YtelcnkclppkicaaGreatDoorG3
set_option linter.unusedSimpArgs false
set_option linter.unusedVariables false
set_option maxRecDepth 100000
namespace Go.Proofs
open Go Go.Eng
def q74:Out:=(.br (.cmp .geq (tv 0) (tl 0))
 (.ret 0 (sg 1 [bt 1 (.cmp .lss (tv 0) (tl 16))]))
 (.ret 0 (sg 1 [bt 1 (.bl false)])))
theorem qCE:qj Tryz.prog qfW [] [] q74:=qg Tryz.func100 Tryz.call100 (by kernel_rfl)
@[simp] def qb8:T:=.rcons (.vbool (.bcell (tv 7) (tl 0) 0)) (.rcons (.vbool (.bcell (tv 7) (tl 0) 1)) (.rcons (.vbool (.bcell (tv 7) (tl 0) 2)) (.rcons (.vbool (.bcell (tv 7) (tl 0) 3)) (.rcons (.vbool (.bcell (tv 7) (tl 0) 4)) (.rcons (.vbool (.bcell (tv 7) (tl 0) 5)) (.rcons (.vbool (.bcell (tv 7) (tl 0) 6)) (.rcons (.vbool (.bcell (tv 7) (tl 0) 7)) (.rcons (.vbool (.bcell (tv 7) (tl 0) 8)) (.rcons (.vbool (.bcell (tv 7) (tl 0) 9)) (.rcons (.vbool (.bcell (tv 7) (tl 0) 10)) (.rcons (.vbool (.bcell (tv 7) (tl 0) 11)) (.rcons (.vbool (.bcell (tv 7) (tl 0) 12)) (.rcons (.vbool (.bcell (tv 7) (tl 0) 13)) (.rcons (.vbool (.bcell (tv 7) (tl 0) 14)) (.rcons (.vbool (.bcell (tv 7) (tl 0) 15)) .rnil)))))))))))))))
def qqS:Out:=(.fresh 5 (tn (tl 0) (tv 1) (.inv 0 6 (sg 1000 [bt 1001 (rr 16 (.vbool (.bl false)) .rnil),bt 1002 (tl 0),bg 1000 5]) (fr 6 3 (.hyp 0 6 (.br (.cmp .lss (tv 8) (tv 1))
 (tn (tl 0) (tv 8) (ts (tv 8) (.dlen (tv 3)) (.pre 0 (sg 0 [bt 0 (.icell (tv 3) (tv 8) 0)]) (tb (.fresh 9 (.post 0 0 (sg 0 [bt 0 (.icell (tv 3) (tv 8) 0)]) 9 (.br (tv 9)
 (tn (tl 0) (.icell (tv 3) (tv 8) 0) (ts (.icell (tv 3) (tv 8) 0) (tl 16) (ts (tl 0) (.dlen (tv 7)) (.back 0 6 (sg 1000 [bt 1001 (.c3 (.xput 0) (tv 7) (.icell (tv 3) (tv 8) 0) (.vbool (.bl true))),bt 1002 (.arith .add .i64 (tv 8) (tl 1)),bg 1000 6])))))
 (.back 0 6 (sg 1000 [bv 1001 7,bt 1002 (.arith .add .i64 (tv 8) (tl 1)),bg 1000 6])))))))))
 (ts (tl 0) (.dlen (tv 7)) (.ret 0 (sg 5 [bt 20 (.bcell (.dput (tv 7) (tl 0) 0 qb8) (tl 0) 15),bt 19 (.bcell (.dput (tv 7) (tl 0) 0 qb8) (tl 0) 14),bt 18 (.bcell (.dput (tv 7) (tl 0) 0 qb8) (tl 0) 13),bt 17 (.bcell (.dput (tv 7) (tl 0) 0 qb8) (tl 0) 12),bt 16 (.bcell (.dput (tv 7) (tl 0) 0 qb8) (tl 0) 11),bt 15 (.bcell (.dput (tv 7) (tl 0) 0 qb8) (tl 0) 10),bt 14 (.bcell (.dput (tv 7) (tl 0) 0 qb8) (tl 0) 9),bt 13 (.bcell (.dput (tv 7) (tl 0) 0 qb8) (tl 0) 8),bt 12 (.bcell (.dput (tv 7) (tl 0) 0 qb8) (tl 0) 7),bt 11 (.bcell (.dput (tv 7) (tl 0) 0 qb8) (tl 0) 6),bt 10 (.bcell (.dput (tv 7) (tl 0) 0 qb8) (tl 0) 5),bt 9 (.bcell (.dput (tv 7) (tl 0) 0 qb8) (tl 0) 4),bt 8 (.bcell (.dput (tv 7) (tl 0) 0 qb8) (tl 0) 3),bt 7 (.bcell (.dput (tv 7) (tl 0) 0 qb8) (tl 0) 2),bt 6 (.bcell (.dput (tv 7) (tl 0) 0 qb8) (tl 0) 1),bt 5 (.bcell (.dput (tv 7) (tl 0) 0 qb8) (tl 0) 0)])))))))))
theorem qEg:qj Tryz.prog qkq [qfW] [qx5] qqS:=qg Tryz.func82 Tryz.call82 (by kernel_rfl)
@[simp] def qtL:Sg:=sg 0 [bv 7 3,bv 5 8,bt 4 (.dapp (.dapp (.rcons (x8 0 0) .rnil) (.dapp (.rcons (x8 1 0) .rnil) (.dapp (.rcons (x8 2 0) .rnil) (.dapp (.rcons (x8 3 0) .rnil) (.dapp (.rcons (x8 4 0) .rnil) (.dapp (.rcons (x8 5 0) .rnil) (.dapp (.rcons (x8 6 0) .rnil) (.dapp (.rcons (x8 7 0) .rnil) (.dapp (.rcons (x8 8 0) .rnil) (.dapp (.rcons (x8 9 0) .rnil) (.dapp (.rcons (x8 10 0) .rnil) (.dapp (.rcons (x8 11 0) .rnil) (.dapp (.rcons (x8 12 0) .rnil) (.dapp (.rcons (x8 13 0) .rnil) (.dapp (.rcons (x8 14 0) .rnil) (.dapp (.rcons (x8 15 0) .rnil) (.dapp (.rcons (x8 16 0) .rnil) (.dapp (.rcons (x8 17 0) .rnil) (.dapp (.rcons (x8 18 0) .rnil) (.dapp (.rcons (x8 19 0) .rnil) (.dapp (.rcons (x8 20 0) .rnil) (.dapp (.rcons (x8 21 0) .rnil) (.dapp (.rcons (x8 22 0) .rnil) (.dapp (.rcons (x8 23 0) .rnil) (.dapp (.rcons (x8 24 0) .rnil) (.dapp (.rcons (x8 25 0) .rnil) (.dapp (.rcons (x8 26 0) .rnil) (.dapp (.rcons (x8 27 0) .rnil) (.dapp (.rcons (x8 28 0) .rnil) (.dapp (.rcons (x8 29 0) .rnil) (.dapp (.rcons (x8 30 0) .rnil) (.rcons (x8 31 0) .rnil)))))))))))))))))))))))))))))))) (.rcons (tu (.conv .u8 (tv 1))) .rnil)),bv 3 8,bt 2 (tl 33),bt 1 (tl 0),bg 0 7,bg 6 2]
def q2m:Out:=(fr 4 3 (tn (.tims (tl 1) (tl 33)) (tl 140737488355328) (fr 7 2 (.know (.cmp .leq (tl 33) (tv 8)) (.pre 0 qtL (tb (.fresh 9 (.post 0 0 qtL 9 (.ret 0 (sg 4 [bt 4 (r8 9)]))))))))))
theorem qA9:qj Tryz.prog qh6 [qdb] [] q2m:=qg Tryz.func24 Tryz.call24 (by kernel_rfl)
def q7e:Out:=(fr 4 2 (.pre 0 (sg 0 [bv 3 3,bv 1 1,bt 0 (r8 0),bg 2 2]) (tb (.fresh 6 (.post 0 0 (sg 0 [bv 3 3,bv 1 1,bt 0 (r8 0),bg 2 2]) 6 (.ret 0 (sg 4 [bt 4 (r8 6)])))))))
theorem qCO:qj Tryz.prog qlJ [qh6] [] q7e:=qg Tryz.func80 Tryz.call80 (by kernel_rfl)
def qum:Out:=(fr 4 2 (tb (.pre 0 (sg 0 [bt 3 (.rcons (ti (tv 2)) (r8 3)),bt 2 (.rcons (ti (tv 0)) (r8 1)),bg 1 5,bg 0 4]) (tb (.fresh 6 (.post 0 0 (sg 0 [bt 3 (.rcons (ti (tv 2)) (r8 3)),bt 2 (.rcons (ti (tv 0)) (r8 1)),bg 1 5,bg 0 4]) 6 (.br (.cmp .neq (tv 6) (tl 0))
 (.ret 0 (sg 4 [bv 4 6]))
 (.ret 0 (sg 4 [bt 4 (.arith .sub .i64 (tv 0) (tv 2))])))))))))
theorem q3I:qj Tryz.prog qiU [qr1] [] qum:=qg Tryz.func81 Tryz.call81 (by kernel_rfl)
@[simp] def qru:Out:=.fresh 10 (tb (.fresh 11 (tb (tb (.br (.c2 .req (r8 6) (r8 8))
 (.ret 0 (sg 5 [bt 5 (.cmp .lss (tv 1) (tv 2))]))
 (.pre 1 (sg 0 [bv 2 2,bt 3 (r8 8),bv 0 1,bt 1 (r8 6)]) (tb (.fresh 12 (.post 1 0 (sg 0 [bv 2 2,bt 3 (r8 8),bv 0 1,bt 1 (r8 6)]) 12 (.ret 0 (sg 5 [bt 5 (.cmp .lss (tv 12) (tl 0))])))))))))))
@[simp] def qsg:Out:=.fresh 8 (.both (.pre 0 (sg 0 [bv 3 4,bv 1 2,bt 0 (r8 0),bg 2 3]) (tb (fr 9 2 (.post 0 0 (sg 0 [bv 3 4,bv 1 2,bt 0 (r8 0),bg 2 3]) 9 (tb (.fresh 11 (tb (tb (.br (.c2 .req (r8 6) (r8 9))
 (.ret 0 (sg 5 [bt 5 (.cmp .lss (tv 1) (tv 2))]))
 (.pre 1 (sg 0 [bv 2 2,bt 3 (r8 9),bv 0 1,bt 1 (r8 6)]) (tb (.fresh 12 (.post 1 0 (sg 0 [bv 2 2,bt 3 (r8 9),bv 0 1,bt 1 (r8 6)]) 12 (.ret 0 (sg 5 [bt 5 (.cmp .lss (tv 12) (tl 0))]))))))))))))))) (tb (.fresh 9 (tb (.pre 0 (sg 0 [bv 3 4,bv 1 2,bt 0 (r8 0),bg 2 3]) (tb (fr 10 2 (.post 0 0 (sg 0 [bv 3 4,bv 1 2,bt 0 (r8 0),bg 2 3]) 10 (tb (tb (.br (.c2 .req (r8 6) (r8 10))
 (.ret 0 (sg 5 [bt 5 (.cmp .lss (tv 1) (tv 2))]))
 (.pre 1 (sg 0 [bv 2 2,bt 3 (r8 10),bv 0 1,bt 1 (r8 6)]) (tb (.fresh 12 (.post 1 0 (sg 0 [bv 2 2,bt 3 (r8 10),bv 0 1,bt 1 (r8 6)]) 12 (.ret 0 (sg 5 [bt 5 (.cmp .lss (tv 12) (tl 0))])))))))))))))))))
@[simp] def qqD:Out:=.fresh 6 (.both (.pre 0 (sg 0 [bv 3 4,bv 1 1,bt 0 (r8 0),bg 2 3]) (tb (fr 7 2 (.post 0 0 (sg 0 [bv 3 4,bv 1 1,bt 0 (r8 0),bg 2 3]) 7 (.both (.pre 0 (sg 0 [bv 3 4,bv 1 2,bt 0 (r8 0),bg 2 3]) (tb (fr 9 2 (.post 0 0 (sg 0 [bv 3 4,bv 1 2,bt 0 (r8 0),bg 2 3]) 9 (tb (.fresh 11 (tb (tb (.br (.c2 .req (r8 7) (r8 9))
 (.ret 0 (sg 5 [bt 5 (.cmp .lss (tv 1) (tv 2))]))
 (.pre 1 (sg 0 [bv 2 2,bt 3 (r8 9),bv 0 1,bt 1 (r8 7)]) (tb (.fresh 12 (.post 1 0 (sg 0 [bv 2 2,bt 3 (r8 9),bv 0 1,bt 1 (r8 7)]) 12 (.ret 0 (sg 5 [bt 5 (.cmp .lss (tv 12) (tl 0))]))))))))))))))) (tb (.fresh 9 (tb (.pre 0 (sg 0 [bv 3 4,bv 1 2,bt 0 (r8 0),bg 2 3]) (tb (fr 10 2 (.post 0 0 (sg 0 [bv 3 4,bv 1 2,bt 0 (r8 0),bg 2 3]) 10 (tb (tb (.br (.c2 .req (r8 7) (r8 10))
 (.ret 0 (sg 5 [bt 5 (.cmp .lss (tv 1) (tv 2))]))
 (.pre 1 (sg 0 [bv 2 2,bt 3 (r8 10),bv 0 1,bt 1 (r8 7)]) (tb (.fresh 12 (.post 1 0 (sg 0 [bv 2 2,bt 3 (r8 10),bv 0 1,bt 1 (r8 7)]) 12 (.ret 0 (sg 5 [bt 5 (.cmp .lss (tv 12) (tl 0))]))))))))))))))))))))) (tb (.fresh 7 (tb (.pre 0 (sg 0 [bv 3 4,bv 1 1,bt 0 (r8 0),bg 2 3]) (tb (fr 8 2 (.post 0 0 (sg 0 [bv 3 4,bv 1 1,bt 0 (r8 0),bg 2 3]) 8 (tb (.pre 0 (sg 0 [bv 3 4,bv 1 2,bt 0 (r8 0),bg 2 3]) (tb (fr 10 2 (.post 0 0 (sg 0 [bv 3 4,bv 1 2,bt 0 (r8 0),bg 2 3]) 10 (tb (tb (.br (.c2 .req (r8 8) (r8 10))
 (.ret 0 (sg 5 [bt 5 (.cmp .lss (tv 1) (tv 2))]))
 (.pre 1 (sg 0 [bv 2 2,bt 3 (r8 10),bv 0 1,bt 1 (r8 8)]) (tb (.fresh 12 (.post 1 0 (sg 0 [bv 2 2,bt 3 (r8 10),bv 0 1,bt 1 (r8 8)]) 12 (.ret 0 (sg 5 [bt 5 (.cmp .lss (tv 12) (tl 0))]))))))))))))))))))))))
def qwb:Out:=(.fresh 5 (.both (.pre 0 (sg 0 [bv 3 4,bv 1 1,bt 0 (r8 0),bg 2 3]) (tb (fr 6 2 (.post 0 0 (sg 0 [bv 3 4,bv 1 1,bt 0 (r8 0),bg 2 3]) 6 (.both (.pre 0 (sg 0 [bv 3 4,bv 1 2,bt 0 (r8 0),bg 2 3]) (tb (fr 8 2 (.post 0 0 (sg 0 [bv 3 4,bv 1 2,bt 0 (r8 0),bg 2 3]) 8 (.both qru (tb qru)))))) (.both qsg (tb qsg))))))) (.both qqD (tb qqD))))
theorem q7r:qj Tryz.prog qeJ [qlJ,qiU] [] qwb:=qg Tryz.func26 Tryz.call26 (by kernel_rfl)
set_option maxRecDepth 20000
theorem qtm:qfW.ok Tryz.prog:=qCE (by simp) fun Z hg hp=>by
 simp (config:={ maxSteps:=4000000 }) [q74,qfW,qqo];exact ⟨fun h=>by simp [qJ,h],fun h1 h2=>by omega⟩
theorem q4Z (d:qe) (p:Int):(qf d 32).map (fun x=>[Value.int .u8 x]) ++ [[Value.int .u8 (IntKind.u8.wrap p)]] = [[.int .u8 (qa d 0)],[.int .u8 (qa d 1)],[.int .u8 (qa d 2)],[.int .u8 (qa d 3)],[.int .u8 (qa d 4)],[.int .u8 (qa d 5)],[.int .u8 (qa d 6)],[.int .u8 (qa d 7)],[.int .u8 (qa d 8)],[.int .u8 (qa d 9)],[.int .u8 (qa d 10)],[.int .u8 (qa d 11)],[.int .u8 (qa d 12)],[.int .u8 (qa d 13)],[.int .u8 (qa d 14)],[.int .u8 (qa d 15)],[.int .u8 (qa d 16)],[.int .u8 (qa d 17)],[.int .u8 (qa d 18)],[.int .u8 (qa d 19)],[.int .u8 (qa d 20)],[.int .u8 (qa d 21)],[.int .u8 (qa d 22)],[.int .u8 (qa d 23)],[.int .u8 (qa d 24)],[.int .u8 (qa d 25)],[.int .u8 (qa d 26)],[.int .u8 (qa d 27)],[.int .u8 (qa d 28)],[.int .u8 (qa d 29)],[.int .u8 (qa d 30)],[.int .u8 (qa d 31)],[.int .u8 (IntKind.u8.wrap p)]]:=rfl
theorem qxZ (d:qe) (p:Int):bI ((qf d 32).map (fun x=>[Value.int .u8 x]) ++ [[Value.int .u8 (IntKind.u8.wrap p)]]) = qf d 32 ++ [p % 256]:=by
 rw [qgf]
 congr 1
theorem q5d {d:qe} {p:Int} (h:qH (qf d 32)):qk ((qf d 32).map (fun x=>[Value.int .u8 x]) ++ [[Value.int .u8 (IntKind.u8.wrap p)]]):=by
 refine qle ?_;rw [qxZ];intro x hx;rcases jaw.1 hx with hx | hx
 ·exact h x hx
 ·rw [jak.1 hx]; exact ⟨jf0 _ (by decide),Int.emod_lt_of_pos _ (by decide)⟩
theorem qxB:qh6.ok Tryz.prog:=qA9 (by simp [qj8]) fun Z hg hp=>by
 obtain ⟨hO,hGr,hGd⟩:=hp;simp (config:={ maxSteps:=4000000 }) [q2m,qh6,qdb,qkB,gOk,hGr,hGd,hO];rw [<- q4Z];refine fun u _ hu=>⟨⟨by omega,q5d hO⟩,fun v _ hv=>?_⟩
 rw [hv,qjr (by simp [qf]),qxZ]; rfl
theorem q0Z:qlJ.ok Tryz.prog:=qCO (by simp [qxB]) fun Z hg hp=>by
 obtain ⟨hO,hGr,hGd⟩:=hp;simp (config:={ maxSteps:=4000000 }) [q7e,qlJ,qh6,gOk,hGr,hGd,hO]
theorem q2B:qiU.ok Tryz.prog:=q3I (by simp [qC6]) fun Z hg hp=>by
 obtain ⟨h1,h3⟩:=hp;simp (config:={ maxSteps:=4000000 }) [qum,qiU,qr1];refine ⟨⟨⟨_,rfl,rfl⟩,⟨_,rfl,rfl⟩,h1,h3⟩,fun u _ hu=>?_⟩;have hu:u.i = qbE (qf (Z 1).d 32) (qf (Z 3).d 32):=hu;rw [<- hu];exact ⟨fun h=>by simp [h],fun h=>by simp [h]⟩
theorem quK:qeJ.ok Tryz.prog:=q7r (by simp [q0Z,q2B]) fun Z hg hp=>by
 obtain ⟨hO,hGr,hGd⟩:=hp;simp (config:={ maxSteps:=4000000 }) [qwb,qeJ,qlJ,qiU,gOk,hGr,hGd,hO];intro u _ hu u1 _ hu1;rw [hu,hu1];unfold qZ;refine ⟨fun h=>by rw [jah h]; rfl,fun h=>⟨⟨qgI _,qgI _⟩,fun v _ hv=>?_⟩⟩;rw [jaf (fun h'=>h (qfJ.1 h'))] at hv;rw [jaf h,hv]; rfl
theorem qpf {L:List Int}:qdA [List.replicate 16 (.bool false)] L 0:=by
 refine ⟨⟨_,rfl,jaz ..⟩,fun x h0 h1=>⟨fun h=>?_,fun h=>by simp at h⟩⟩;exfalso;have h2:qay [List.replicate 16 (Value.bool false)] x.toNat = false:=by
  unfold qay;rw [jbm,jbf,jah (by omega)]; rfl
 rw [h2] at h; cases h
theorem qe4 {L:List Int} {n:Nat} (hn:n < L.length):L.take (n + 1) = L.take n ++ [L.getD n 0]:=by
 rw [jee,jac hn,jab,jac hn]; rfl
theorem qoO {s:qe} {L:List Int} {n:Nat} {y:Int} (h:qdA s L n) (hn:n < L.length) (hy:y = L.getD n 0) (h0:0 <= y) (h1:y < 16):qdA (qa0 s y.toNat (.bool true)) L (n + 1):=by
 obtain ⟨⟨row,rfl,hr⟩,h2⟩:=h;refine ⟨⟨_,rfl,by rw [jdv]; exact hr⟩,fun x x0 x1=>?_⟩;have hc:qay (qa0 [row] y.toNat (.bool true)) x.toNat = if x = y then true else qay [row] x.toNat:=by
  unfold qay qa0;rw [jbm,jbm,jby];by_cases hxe:x = y
  ·rw [jah (by rw [hxe]),jah (by omega),jah hxe]; rfl
  ·rw [jaf (fun e=>hxe (by omega)),jaf hxe]
 rw [hc,qe4 hn,<- hy,jaw,jak];by_cases hxe:x = y
 ·rw [jah hxe]; exact ⟨fun _=>.inr hxe,fun _=>rfl⟩
 ·rw [jaf hxe,h2 x x0 x1]
  exact ⟨.inl,fun h=>h.resolve_right hxe⟩
theorem qph {s:qe} {L:List Int} {n:Nat} {y:Int} (h:qdA s L n) (hn:n < L.length) (hy:y = L.getD n 0) (hne:¬ (0 <= y/\y < 16)):qdA s L (n + 1):=by
 refine ⟨h.1,fun x x0 x1=>?_⟩;rw [h.2 x x0 x1,qe4 hn,<- hy,jaw,jak];exact ⟨.inl,fun h=>h.resolve_right (fun e=>hne (by omega))⟩
theorem qbF {d:qe} {i:Int} (h0:0 <= i) (h1:i < d.length):qb d i 0 = (qt d).getD i.toNat 0:=by
 have hl:i.toNat < d.length:=by omega
 rw [qt,jab,jaq,jac hl];simp [qb,qC,qbp,jac hl]
theorem q7L:qkq.ok Tryz.prog:=qEg (by simp [qtm]) fun Z hg hp=>by
 obtain ⟨hl,h1,hr⟩:=hp;simp only [Nat.reduceAdd] at hl h1 hr;simp (config:={ maxSteps:=4000000 }) [qqS,qkq,qx5,qfW,hl];have hil:(qt (Z 3).d).length = (Z 3).d.length:=by simp [qt]
 refine ⟨qpf,fun s _ i _ i0 i1 hs=>⟨fun hi=>⟨i0,hi,fun u _ hu=>⟨fun ht=>?_,fun hf=>?_⟩⟩,fun hi=>?_⟩⟩
 ·have hp:0 <= qb (Z 3).d i.i 0/\qb (Z 3).d i.i 0 < 16:=by rw [hu] at ht; exact jbh ht
  have hsl:0 < s.d.length:=by obtain ⟨⟨row,e,_⟩,_⟩:=hs; rw [e]; exact Nat.one_pos
  rw [add64 (x:=i.i) (by omega) (by omega)];refine ⟨hp.1,hp.2,hsl,⟨by omega,by omega,?_⟩,by omega⟩;rw [show (i.i + 1).toNat = i.i.toNat + 1 by omega];exact qoO hs (by omega) (qbF i0 hi) hp.1 hp.2
 ·have hp:¬ (0 <= qb (Z 3).d i.i 0/\qb (Z 3).d i.i 0 < 16):=by rw [hu] at hf; exact jdb hf
  rw [add64 (x:=i.i) (by omega) (by omega)];refine ⟨⟨by omega,by omega,?_⟩,by omega⟩;rw [show (i.i + 1).toNat = i.i.toNat + 1 by omega];exact qph hs (by omega) (qbF i0 hi) hp
 ·obtain ⟨⟨row,hs1,hrl⟩,hs2⟩:=hs
  rw [jap (by omega)] at hs2;rw [hs1] at hs2 ⊢
  match row,hrl with
  | [a0,a1,a2,a3,a4,a5,a6,a7,a8,a9,a10,a11,a12,a13,a14,a15],_ =>
   refine ⟨by simp,?_⟩;have key:qeW ((List.range 16).map (qay [[a0,a1,a2,a3,a4,a5,a6,a7,a8,a9,a10,a11,a12,a13,a14,a15]])) (qt (Z 3).d):=⟨by simp,fun j hj=>by
    rw [jab,jaq,jbp hj];exact hs2 j (by omega) (by omega)⟩
   exact key
set_option maxRecDepth 100000
def qAZ:Out:=(.inv 0 6 (sg 1000 [bt 1000 (tl 0)]) (.fresh 6 (.hyp 0 6 (tn (tl 0) (tv 1) (.br (.cmp .lss (tv 6) (tv 1))
 (tn (tl 0) (tv 6) (ts (tv 6) (.dlen (tv 3)) (.br (.cmp .eql (.icell (tv 3) (tv 6) 0) (tv 5))
 (.ret 0 (sg 6 [bt 6 (.bl true)]))
 (.back 0 6 (sg 1000 [bt 1000 (.arith .add .i64 (tv 6) (tl 1))])))))
 (.ret 0 (sg 6 [bt 6 (.bl false)])))))))
theorem qEo:qj Tryz.prog qwj [] [qD8] qAZ:=qg Tryz.func34 Tryz.call34 (by kernel_rfl)
def q2i:Out:=(tn (tl 0) (tv 1) (tn (tl 0) (tv 6) (.br (.cmp .neq (tv 1) (tv 6))
 (.ret 0 (sg 10 [bt 10 (.bl false)]))
 (.inv 0 10 (sg 1000 [bt 1000 (tl 0)]) (.fresh 10 (.hyp 0 10 (.br (.cmp .lss (tv 10) (tv 1))
 (tn (tl 0) (tv 10) (ts (tv 10) (.dlen (tv 3)) (ts (tv 10) (tv 6) (ts (tv 10) (.dlen (tv 8)) (.br (.cmp .neq (.icell (tv 3) (tv 10) 0) (.icell (tv 8) (tv 10) 0))
 (.ret 0 (sg 10 [bt 10 (.bl false)]))
 (.back 0 10 (sg 1000 [bt 1000 (.arith .add .i64 (tv 10) (tl 1))])))))))
 (.ret 0 (sg 10 [bt 10 (.bl true)])))))))))
theorem q8t:qj Tryz.prog qkP [] [q6R] q2i:=qg Tryz.func28 Tryz.call28 (by kernel_rfl)
set_option maxRecDepth 20000
theorem qbh {d:qe}:(qt d).length = d.length:=by simp [qt]
theorem qEn:qwj.ok Tryz.prog:=qEo (by simp) fun Z hg hp=>by
 obtain ⟨hl,h1,hr⟩:=hp;simp only [Nat.reduceAdd] at hl h1 hr;simp (config:={ maxSteps:=4000000 }) [qAZ,qwj,qD8,hl];have hil:=qbh (d:=(Z 3).d);intro i _ i0 i1 hno;refine ⟨fun hi=>⟨i0,hi,fun he=>?_,fun hne=>?_⟩,fun hi=>?_⟩
 ·rw [qbF i0 hi] at he
  rw [<- he,jab,jac (by omega)];exact jbv _
 ·rw [qbF i0 hi] at hne
  rw [add64 (x:=i.i) (by omega) (by omega)];refine ⟨⟨by omega,by omega,?_⟩,by omega⟩;rw [show (i.i + 1).toNat = i.i.toNat + 1 by omega,qe4 (by omega),jaw,jak];exact fun h=>h.elim hno fun h=>hne h.symm
 ·rw [jap (by omega)] at hno
  exact hno
theorem q8s:qkP.ok Tryz.prog:=q8t (by simp) fun Z hg hp=>by
 obtain ⟨⟨hl,h1,hr⟩,⟨hl2,h12,hr2⟩⟩:=hp;simp only [Nat.reduceAdd] at hl h1 hr hl2 h12 hr2;simp (config:={ maxSteps:=4000000 }) [q2i,qkP,q6R,hl,hl2];have la:=qbh (d:=(Z 3).d);have lb:=qbh (d:=(Z 8).d);refine ⟨fun hne he=>hne (by rw [<- la,<- lb,he]),fun hll i _ i0 i1 ht=>⟨fun hi=>⟨i0,hi,by omega,fun hne he=>?_,fun he=>?_⟩,fun hi=>?_⟩⟩
 ·rw [qbF i0 hi,qbF i0 (by omega),he] at hne
  exact hne rfl
 ·rw [add64 (x:=i.i) (by omega) (by omega)]
  refine ⟨⟨by omega,by omega,?_⟩,by omega⟩;rw [qbF i0 hi,qbF i0 (by omega)] at he;rw [show (i.i + 1).toNat = i.i.toNat + 1 by omega,qe4 (by omega),qe4 (by omega),ht,he]
 ·rw [jap (by omega),jap (by omega)] at ht
  exact ht
set_option maxRecDepth 100000
def q0C:Out:=(tn (tl 0) (tv 1) (.inv 0 6 (sg 1000 [bt 1000 (tl 0)]) (.fresh 6 (.hyp 0 6 (.br (.cmp .lss (tv 6) (tv 1))
 (tn (tl 0) (tv 6) (ts (tv 6) (.dlen (tv 3)) (.br (.cmp .eql (tv 5) (.icell (tv 3) (tv 6) 0))
 (.ret 0 (sg 6 [bv 6 6]))
 (.back 0 6 (sg 1000 [bt 1000 (.arith .add .i64 (tv 6) (tl 1))])))))
 (.ret 0 (sg 6 [bt 6 (.lit (-1))])))))))
theorem q8G:qj Tryz.prog qnP [] [q7a] q0C:=qg Tryz.func121 Tryz.call121 (by kernel_rfl)
def qrU:Out:=(.pre 0 (sg 0 [bv 4 4,bv 3 3,bv 5 5,bv 2 2,bv 1 1,bg 0 0]) (tb (.fresh 6 (.post 0 0 (sg 0 [bv 4 4,bv 3 3,bv 5 5,bv 2 2,bv 1 1,bg 0 0]) 6 (.ret 0 (sg 6 [bt 6 (.cmp .geq (tv 6) (tl 0))]))))))
theorem q00:qj Tryz.prog qev [qnP] [] qrU:=qg Tryz.func84 Tryz.call84 (by kernel_rfl)
set_option maxRecDepth 20000
theorem qei {L:List Int} {n:Nat}:qR L (n + 1) = qR L n ++ (if (n:Int) ∈ L then [(n:Int)] else []):=by
 unfold qR;rw [jd5,jcn,jfr]
 congr 1
 simp only [ja5,jb5,jdn,List.filter_nil,ja8]
theorem qjE {d:qe} {x:Int}:qt (d ++ [[.int .i64 x]]) = qt d ++ [x]:=by simp [qt,qbp,qX]
theorem q9x:qnP.ok Tryz.prog:=q8G (by simp) fun Z hg hp=>by
 obtain ⟨hl,h1,hr⟩:=hp;simp only [Nat.reduceAdd] at hl h1 hr;simp (config:={ maxSteps:=4000000 }) [q0C,qnP,q7a,hl];have hil:=qbh (d:=(Z 3).d);intro i _ i0 i1 hno;refine ⟨fun hi=>⟨i0,hi,fun he=>⟨fun _=>?_,fun _=>i0⟩,fun hne=>?_⟩,fun hi=>?_⟩
 ·rw [he,qbF i0 hi,jab,jac (by omega)]
  exact jbv _
 ·rw [qbF i0 hi] at hne
  rw [add64 (x:=i.i) (by omega) (by omega)];refine ⟨⟨by omega,by omega,?_⟩,by omega⟩;rw [show (i.i + 1).toNat = i.i.toNat + 1 by omega,qe4 (by omega),jaw,jak];exact fun h=>h.elim hno fun h=>hne h
 ·rw [jap (by omega)] at hno
  exact hno
theorem qoC:qev.ok Tryz.prog:=q00 (by simp [q9x]) fun Z hg hp=>by
 obtain ⟨hl,h1,hr⟩:=hp;simp only [Nat.reduceAdd] at hl h1 hr;simp (config:={ maxSteps:=4000000 }) [qrU,qev,qnP,qdm,qbx,hl];refine ⟨⟨by omega,hr⟩,fun u _ hu=>?_⟩
 show decide (u.i ≥ 0) = _
 exact jfz.2 hu
set_option maxRecDepth 100000
def qw0:Out:=(.fresh 9 (.pre 0 (sg 0 [bv 4 5,bv 3 4,bv 2 3,bv 1 2,bg 0 1]) (tb (fr 10 16 (.post 0 0 (sg 0 [bv 4 5,bv 3 4,bv 2 3,bv 1 2,bg 0 1]) 10 (.inv 0 26 (sg 1000 [bt 1005 .dnil,bt 1001 (tl 0),bt 1004 (tl 0),bt 1003 (tl 0),(1002,.nil),bg 1000 9]) (fr 26 6 (.hyp 0 26 (.br (.cmp .lss (tv 27) (tl 16))
 (tn (tl 0) (tv 27) (.br (.c2 (.xbool 0) (.rcons (.vbool (tv 10)) (.rcons (.vbool (tv 11)) (.rcons (.vbool (tv 12)) (.rcons (.vbool (tv 13)) (.rcons (.vbool (tv 14)) (.rcons (.vbool (tv 15)) (.rcons (.vbool (tv 16)) (.rcons (.vbool (tv 17)) (.rcons (.vbool (tv 18)) (.rcons (.vbool (tv 19)) (.rcons (.vbool (tv 20)) (.rcons (.vbool (tv 21)) (.rcons (.vbool (tv 22)) (.rcons (.vbool (tv 23)) (.rcons (.vbool (tv 24)) (.rcons (.vbool (tv 25)) .rnil)))))))))))))))) (tv 27))
 (.pre 1 (sg 0 [bv 3 8,bv 1 27,bt 0 (r8 0),bg 2 7]) (tb (fr 32 2 (.post 1 0 (sg 0 [bv 3 8,bv 1 27,bt 0 (r8 0),bg 2 7]) 32 (.fresh 34 (.need (.cmp .eql (tv 29) (.dlen (tv 31))) (tn (.tims (tl 40) (.plus (tv 29) (tl 1))) (tl 140737488355328) (fr 35 2 (.back 0 26 (sg 1000 [bt 1005 (.dapp (tv 31) (.rcons (ti (tv 27)) (r8 32))),bt 1001 (.arith .add .i64 (tv 27) (tl 1)),bv 1004 36,bt 1003 (.plus (tv 29) (tl 1)),bg 1002 35,bg 1000 26]))))))))))
 (.back 0 26 (sg 1000 [bv 1005 31,bt 1001 (.arith .add .i64 (tv 27) (tl 1)),bv 1004 30,bv 1003 29,bg 1002 28,bg 1000 26]))))
 (.pre 2 (sg 0 [bv 3 31,bv 2 30,bv 1 29,bg 0 28]) (tb (.fresh 32 (.post 2 0 (sg 0 [bv 3 31,bv 2 30,bv 1 29,bg 0 28]) 32 (.fresh 33 (tn (tl 0) (tv 29) (.know (.cmp .leq (.dlen (tv 32)) (tv 30)) (tn (tl 0) (tv 30) (tn (tl 0) (.imin (.imax (tv 6) (tl 0)) (tv 29)) (tn (.imin (.imax (tv 6) (tl 0)) (tv 29)) (tv 30) (.inv 1 34 (sg 1000 [bt 1008 .dnil,bv 1007 32,bt 1006 (tl 0),bt 1005 (tl 0),bg 1004 33,bt 1003 (tl 0),bv 1002 30,bt 1001 (.imin (.imax (tv 6) (tl 0)) (tv 29)),bg 1000 28]) (fr 34 9 (.hyp 1 34 (.br (.cmp .lss (tv 37) (tv 35))
 (tn (tl 0) (tv 37) (ts (tv 37) (.dlen (tv 41)) (fr 43 2 (.need (.cmp .eql (tv 39) (.dlen (tv 42))) (tn (.tims (tl 8) (.plus (tv 39) (tl 1))) (tl 140737488355328) (fr 45 2 (.back 1 34 (sg 1000 [bt 1008 (.dapp (tv 42) (.rcons (ti (.icell (tv 41) (tv 37) 0)) .rnil)),bv 1007 41,bv 1006 46,bt 1005 (.plus (tv 39) (tl 1)),bg 1004 45,bt 1003 (.arith .add .i64 (tv 37) (tl 1)),bv 1002 36,bv 1001 35,bg 1000 34]))))))))
 (.ret 0 (sg 9 [bv 12 42,bv 11 40,bv 10 39,bg 9 38])))))))))))))))))))))))))
theorem q7J:qj Tryz.prog qdM [qkq,qlJ,qga] [q0Y,q1z] qw0:=qg Tryz.func32 Tryz.call32 (by kernel_rfl)
def qu1:Out:=(fr 4 2 (.inv 0 6 (sg 1000 [bt 1004 .dnil,bt 1005 (tl 0),bt 1006 (.imin (.imax (tv 1) (tl 0)) (tl 16)),bt 1003 (tl 0),bt 1002 (tl 0),bg 1001 5,bg 1000 4]) (fr 6 7 (.hyp 0 6 (.br (.cmp .lss (tv 11) (tv 12))
 (.fresh 13 (.need (.cmp .eql (tv 8) (.dlen (tv 10))) (tn (.tims (tl 8) (.plus (tv 8) (tl 1))) (tl 140737488355328) (fr 14 2 (.back 0 6 (sg 1000 [bt 1004 (.dapp (tv 10) (.rcons (ti (tv 11)) .rnil)),bt 1005 (.arith .add .i64 (tv 11) (tl 1)),bv 1006 12,bv 1003 15,bt 1002 (.plus (tv 8) (tl 1)),bg 1001 14,bg 1000 6]))))))
 (.pre 0 (sg 0 [bv 8 3,bv 5 9,bv 4 10,bt 6 (tl 16),bv 3 9,bv 2 8,bg 1 7,bt 0 (r8 0),bg 7 2]) (tb (fr 13 4 (.post 0 0 (sg 0 [bv 8 3,bv 5 9,bv 4 10,bt 6 (tl 16),bv 3 9,bv 2 8,bg 1 7,bt 0 (r8 0),bg 7 2]) 13 (.ret 0 (sg 4 [bv 7 16,bv 6 15,bv 5 14,bg 4 13])))))))))))
theorem q4m:qj Tryz.prog qg8 [qdM] [qzs] qu1:=qg Tryz.func29 Tryz.call29 (by kernel_rfl)
def q6T:Out:=(.fresh 12 (.br (tv 9)
 (.br (tv 8)
 (.ret 0 (sg 12 [bt 12 (tl 3)]))
 (.ret 0 (sg 12 [bt 12 (tl 0)])))
 (.br (.cmp .lss (tv 7) (tl 1))
 (.ret 0 (sg 12 [bt 12 (tl 0)]))
 (.pre 0 (sg 0 [bv 8 11,bv 5 6,bv 4 5,bv 6 7,bv 3 4,bv 2 3,bg 1 2,bt 0 (r8 0),bg 7 10]) (tb (fr 13 4 (.post 0 0 (sg 0 [bv 8 11,bv 5 6,bv 4 5,bv 6 7,bv 3 4,bv 2 3,bg 1 2,bt 0 (r8 0),bg 7 10]) 13 (.pre 1 (sg 0 [bv 4 15,bv 3 16,bv 5 1,bv 2 15,bv 1 14,bg 0 13]) (tb (.fresh 17 (.post 1 0 (sg 0 [bv 4 15,bv 3 16,bv 5 1,bv 2 15,bv 1 14,bg 0 13]) 17 (.br (tv 17)
 (.br (.not (tv 8))
 (.ret 0 (sg 12 [bt 12 (tl 1)]))
 (.ret 0 (sg 12 [bt 12 (tl 0)])))
 (.br (tv 8)
 (tn (tl 0) (tv 14) (.br (.cmp .eql (tv 14) (tv 7))
 (.ret 0 (sg 12 [bt 12 (tl 2)]))
 (.ret 0 (sg 12 [bt 12 (tl 0)]))))
 (.ret 0 (sg 12 [bt 12 (tl 0)])))))))))))))))
theorem qCH:qj Tryz.prog qoh [qdM,qev] [] q6T:=qg Tryz.func35 Tryz.call35 (by kernel_rfl)
variable {o:List Int}
theorem qkC {a b:Int}:(!qZ o b a) = true↔qdy o a b <= 0:=by
 rw [qfN,jbg,decide_eq_false_iff_not,qlM (a:=a) (b:=b)]; omega
theorem qik {l:List Int}:(qa2 o l).Perm l:=List.mergeSort_perm l _
theorem q9n {l:List Int}:(qa2 o l).Pairwise fun a b=>(!qZ o b a) = true:=by
 refine List.pairwise_mergeSort (fun a b c h1 h2=>?_) (fun a b=>?_) l
 ·rw [qkC] at h1 h2 ⊢
  by_cases e1:qdy o a b = 0
  ·rw [qfG.1 e1]; exact h2
  ·by_cases e2:qdy o b c = 0
   ·rw [<- qfG.1 e2]; exact h1
   ·have:=qlU (o:=o) (a:=a) (b:=b) (c:=c) (by omega) (by omega)
    omega
 ·rw [jcy,qkC,qkC,qlM (a:=a) (b:=b)]; omega
theorem qwo {l:List Int} (h:l.Nodup):qos o l (qa2 o l):=by
 refine ⟨qik,?_⟩;have hn:(qa2 o l).Nodup:=qik.nodup_iff.2 h;refine List.Pairwise.imp₂ (fun a b h1 h2=>?_) q9n hn;rcases qtV (o:=o) h2 with h | h
 ·exact h
 ·rw [h] at h1; cases h1
theorem q2M {l m:List Int} (h:qos o l m) (hn:l.Nodup):m = qa2 o l:=q0q h (qwo hn)
theorem q5E {l:List Int} {x:Int}:x ∈ qa2 o l↔x ∈ l:=qik.mem_iff
theorem qjN {l:List Int}:(qa2 o l).length = l.length:=qik.length_eq
theorem qpg {L:List Int} {n:Nat} {x:Int}:x ∈ qR L n↔0 <= x/\x < n/\x ∈ L:=by
 unfold qR;rw [jc7,jbk];constructor
 ·rintro ⟨⟨i,hi,rfl⟩,h⟩
  rw [jb1] at hi;exact ⟨by omega,by omega,jbh h⟩
 ·rintro ⟨h0,h1,h2⟩
  exact ⟨⟨x.toNat,jb1.2 (by omega),by omega⟩,jcl h2⟩
theorem q7q {L:List Int}:qc4 L = qR L 16:=rfl
theorem qpd {p:Int}:qH (qW o p):=qgI _
theorem qln {p:Int}:(qW o p).length = 32:=qBT
theorem qjw {p:Int}:(qI o p).length = 33:=by simp [qI,qln]
theorem qwy {l:List Int}:qt (l.map (qI o)) = l:=by
 unfold qt;rw [jdr]
 conv=>rhs; rw [<- jem l]
 exact jbw fun x _=>rfl
end Go.Proofs
namespace Go.Proofs
open Go Go.Eng
set_option maxRecDepth 20000
theorem q3z {l:List Bool} {i:Nat}:qay [l.map Value.bool] i = l.getD i false:=by
 unfold qay;rw [jbm,jaq,jab];cases l[i]? <;> rfl
theorem qdk {l:List Bool} {L:List Int} {n:Nat} (h:qeW l L) (hn:L.length <= n):qdA [l.map Value.bool] L n:=by
 refine ⟨⟨_,rfl,by rw [ja7]; exact h.1⟩,fun x x0 x1=>?_⟩;rw [q3z,jap hn];have:=h.2 x.toNat (by omega)
 rwa [jay x0] at this
theorem qer {D:qe}:(qt D).length <= D.length:=by simp [qt]
theorem qfq {d:qe} {L:List Int} {n:Nat} {x:Int} (h:qdA d L n) (hn:L.length <= n) (x0:0 <= x) (x1:x < 16):qay d x.toNat = true↔x ∈ L:=by
 have:=h.2 x x0 x1
 rwa [jap hn] at this
theorem qwZ {d:qe} {L:List Int} {n:Nat} (h:qdA d L n):0 < d.length:=by obtain ⟨⟨row,e,_⟩,_⟩:=h; rw [e]; exact Nat.one_pos
theorem qdz {i:Int} (h0:0 <= i) (h1:i < 1000000000000):qc .add .i64 i 1 = i + 1:=add64 (by omega) (by omega)
theorem qmu {d:qe} {L:List Int} {n:Nat} {x:Int} (h:qdA d L n) (hn:L.length <= n) (x0:0 <= x) (x1:x < 16) (hf:qay d x.toNat = false):x ∉ L:=fun hx=>by
 rw [(qfq h hn x0 x1).2 hx] at hf; cases hf
theorem qoe {D:qe} {row:List Value} {v:Value} (hr:row ∈ D∨row = [v]) (h:∀ row,row ∈ D->row.length = 1):row.length = 1:=hr.elim (h row) fun h=>by rw [h]; rfl
theorem qk4 {D:qe} {row:List Value} (hr:row ∈ D) (h:∀ row,row ∈ D->row.length = 1):row.length = 1:=h row hr
theorem qES {b:Bool} {p:Prop} [Decidable p] (h:b = decide p) (hb:b = true):p:=jbh (h ▸ hb)
theorem q5e {b:Bool} {p:Prop} [Decidable p] (h:b = decide p) (hb:b = false):¬ p:=jdb (h ▸ hb)
theorem qqC {L:List Int}:(qc4 L).length <= 16:=by
 rw [q7q]; unfold qR;exact jey (jfe ..) (by simp)
theorem q0g {o L:List Int} {n:Int}:(qb1 o L n).length <= 16:=by
 unfold qb1;rw [jbe,qjN];have:=qqC (L:=L);omega
theorem qz4 {o L:List Int} {n:Int} {D:qe} (h:qt D = qb1 o L n):D.length <= 16:=by
 have h1:=congrArg List.length h;rw [qbh] at h1;have:=q0g (o:=o) (L:=L) (n:=n);omega
theorem qEh {o L:List Int} {self n x:Int} {D:qe} {held buried:Bool} (hD:qt D = qb1 o L n) (hx:x = (D.length:Int)) (hn:1 <= n) (hm:¬ self ∈ qt D) (hh:held = true) (hb:buried = false) (he:x = n):2 = qh2 o self L n held buried:=by
 have h1:((qb1 o L n).length:Int) = n:=by rw [<- hD,qbh]; omega
 rw [hD] at hm;unfold qh2;rw [hh,hb,jaf (by simp),jaf (by omega),jaf hm,jah ⟨rfl,h1⟩]
theorem qDP {o L:List Int} {self n x:Int} {D:qe} {held buried:Bool} (hD:qt D = qb1 o L n) (hx:x = (D.length:Int)) (hn:1 <= n) (hm:¬ self ∈ qt D) (hh:held = true) (hb:buried = false) (he:¬ x = n):0 = qh2 o self L n held buried:=by
 have h1:¬ ((qb1 o L n).length:Int) = n:=by rw [<- hD,qbh]; omega
 rw [hD] at hm;unfold qh2;rw [hh,hb,jaf (by simp),jaf (by omega),jaf hm,jaf (fun h=>h1 h.2)]
theorem qCM (hch:qdM.ok Tryz.prog):qoh.ok Tryz.prog:=qCH (by simp [qoC,hch]) fun Z hg hp=>by
 obtain ⟨hO,⟨hl,h1,hr⟩,hGr,hGd⟩:=hp;simp only [Nat.reduceAdd] at hl h1 hr;simp (config:={ maxSteps:=4000000 }) [q6T,qoh,qdM,qev,qv5,qdm,qbx,qcg,gOk,hl,hO,hGr,hGd]
 repeat' (first | with_reducible apply And.intro | with_reducible intro _)
 all_goals first
  | assumption
  | omega
  | exact qk4 (by assumption) (by assumption)
  | exact (by have:=qz4 (by assumption); omega)
  | (unfold qh2; simp_all [qbh]; done)
  | exact qEh (by assumption) (by assumption) (by assumption) (q5e (by assumption) (by assumption)) (by assumption) (by assumption) (by assumption)
  | exact qDP (by assumption) (by assumption) (by assumption) (q5e (by assumption) (by assumption)) (by assumption) (by assumption) (by assumption)
theorem q8N {n:Int}:(qgS n).length = (min (max n 0) 16).toNat:=by simp [qgS]
theorem q3X {i n:Int} (h:min (max i 0) 16 = min (max n 0) 16):qgS i = qgS n:=by unfold qgS; rw [h]
theorem q6B {i:Int} {D:qe} (hD:qt D = qgS i) (h0:0 <= i) (h1:i < 16):qt (D ++ [[.int .i64 i]]) = qgS (qc .add .i64 i 1):=by
 rw [qdz h0 (by omega),qjE,hD];unfold qgS;rw [show (min (max (i + 1) 0) 16).toNat = (min (max i 0) 16).toNat + 1 by omega,jd5,jcn]
 congr 1
 show [i] = [(((min (max i 0) 16).toNat:Nat):Int)]
 congr 1; omega
theorem q7E {i:Int} {D:qe} (hD:qt D = qgS i):D.length <= 16:=by
 have h1:=congrArg List.length hD;rw [qbh,q8N] at h1;omega
theorem qAd {o:List Int} {i n:Int} {D E:qe} (hE:qt E = qb1 o (qt D) 16) (hD:qt D = qgS i) (h:min (max i 0) 16 = min (max n 0) 16):qt E = qlT o n:=by
 rw [hE,hD,q3X h]; rfl
theorem q4H (hch:qdM.ok Tryz.prog):qg8.ok Tryz.prog:=q4m (by simp [hch]) fun Z hg hp=>by
 obtain ⟨hO,hGr,hGd⟩:=hp;simp (config:={ maxSteps:=4000000 }) [qu1,qg8,qzs,qdM,qv5,qdm,qbx,qcg,gOk,hO,hGr,hGd]
 repeat' (first | with_reducible apply And.intro | with_reducible intro _)
 all_goals first
  | assumption
  | omega
  | exact qk4 (by assumption) (by assumption)
  | exact qoe (by assumption) (by assumption)
  | (rw [qdz (by assumption) (by omega)]; omega)
  | rfl
  | exact (by have:=q7E (by assumption); omega)
  | exact q6B (by assumption) (by assumption) (by omega)
  | exact qAd (by assumption) (by assumption) (by omega)
section
variable {o L:List Int}
theorem qpu {L:List Int} {n:Nat}:(qR L n).length <= n:=by
 unfold qR;exact jey (jfe ..) (by simp)
theorem qEs {D:qe} {i:Int} (h:D = (qR L i.toNat).map (qI o)) (h1:i <= 16):D.length <= 16:=by
 rw [h,ja7];have:=qpu (L:=L) (n:=i.toNat);omega
theorem qDM {D v:qe} {i:Int} {l:List Bool} (hD:D = (qR L i.toNat).map (qI o)) (h0:0 <= i) (h1:i < 16) (hb:qeW l L) (hc:qay [l.map Value.bool] i.toNat = true) (hv:qf v 32 = qW o i) :
  D ++ [Value.int .i64 i :: (qf v 32).map (Value.int .u8)] = (qR L (qc .add .i64 i 1).toNat).map (qI o):=by
 have hm:i ∈ L:=(qfq (qdk hb (ja4 _)) (ja4 _) h0 h1).1 hc;rw [qdz h0 (by omega),show (i + 1).toNat = i.toNat + 1 by omega,qei,jay h0,jah hm,jcn,hD,hv]; rfl
theorem qBF {D:qe} {i:Int} {l:List Bool} (hD:D = (qR L i.toNat).map (qI o)) (h0:0 <= i) (h1:i < 16) (hb:qeW l L) (hc:qay [l.map Value.bool] i.toNat = false) :
  D = (qR L (qc .add .i64 i 1).toNat).map (qI o):=by
 have hm:¬ i ∈ L:=qmu (qdk hb (ja4 _)) (ja4 _) h0 h1 hc;rw [qdz h0 (by omega),show (i + 1).toNat = i.toNat + 1 by omega,qei,jay h0,jaf hm,jc6,hD]
theorem qnN {D E:qe} {i:Int} (hO:qH o) (hD:D = (qR L i.toNat).map (qI o)) (h1:i <= 16) (h2:16 <= i) (h:∀ o L:List Int,qH o->D = L.map (qI o)->(∀ x,x ∈ L->0 <= x/\x < 16)->E = (qa2 o L).map (qI o)):E = (qa2 o (qc4 L)).map (qI o)/\E.length = D.length:=by
 have hi:i.toNat = 16:=by omega
 rw [hi] at hD;have hE:=h o (qR L 16) hO hD (fun x hx=>by have:=qpg.1 hx; omega);exact ⟨hE,by rw [hE,hD,ja7,ja7,qjN]⟩
theorem q9H {D:qe} {n:Nat} (hO:qH o) (hD:D = (qR L n).map (qI o)) (hn:n <= 16):∃ o:List Int,qH o/\∃ x:List Int,D = x.map (qI o)/\∀ y:Int,y ∈ x->0 <= y/\y < 16 :=
 ⟨o,hO,_,hD,fun x hx=>by have:=qpg.1 hx; omega⟩
theorem qEY {M:List Int} {D:qe} {i:Int} (hD:D = M.map (qI o)) (h0:0 <= i) (h1:i < M.length):qb D i 0 = M.getD i.toNat 0:=by
 have hl:i.toNat < M.length:=by omega
 subst hD;rw [jab,jac hl];simp [qb,qC,jac hl,qI,qX]
theorem take_add {M:List Int} {D E:qe} {i:Int} (hE:E = M.map (qI o)) (hD:qt D = M.take i.toNat) (h0:0 <= i) (h1:i < M.length) (hb:i < 1000000):qt (D ++ [[.int .i64 (qb E i 0)]]) = M.take (qc .add .i64 i 1).toNat:=by
 rw [qdz h0 (by omega),show (i + 1).toNat = i.toNat + 1 by omega,qe4 (by omega),qjE,hD,qEY hE h0 h1]
theorem qCR {M:List Int} {D:qe} {i:Nat} (hD:qt D = M.take i):D.length <= i/\D.length <= M.length:=by
 have h1:=congrArg List.length hD;rw [qbh,jbe] at h1;omega
theorem q4v {o L:List Int}:(qa2 o (qc4 L)).length <= 16:=by rw [qjN]; exact qqC
theorem qDK {D:qe} {i n:Int} (hD:qt D = (qa2 o (qc4 L)).take i.toNat) (h:i = min (max n 0) ((qa2 o (qc4 L)).length:Int)):qt D = qb1 o L n:=by
 rw [hD];unfold qb1;by_cases hn:n.toNat <= (qa2 o (qc4 L)).length
 ·rw [show i.toNat = n.toNat by omega]
 ·rw [jap (by omega),jap (by omega)]
end
theorem q7T (hs:qga.ok Tryz.prog):qdM.ok Tryz.prog:=q7J (by simp [hs,q7L,q0Z]) fun Z hg hp=>by
 obtain ⟨hO,⟨hl,h1,hr⟩,hGr,hGd⟩:=hp;simp only [Nat.reduceAdd] at hl h1 hr;simp (config:={ maxSteps:=4000000 }) [qw0,qdM,q0Y,q1z,qkq,qlJ,qga,qv5,qdm,qbx,qcg,gOk,hl,hO,hGr,hGd];have hsl:=q4v (o:=qf (Z 0).d 32) (L:=qt (Z 4).d)
 repeat' (first | with_reducible apply And.intro | with_reducible intro _)
 all_goals first
  | assumption
  | omega
  | exact qk4 (by assumption) (by assumption)
  | exact qoe (by assumption) (by assumption)
  | (rw [qdz (by assumption) (by omega)]; omega)
  | rfl
  | exact (by have:=qEs (by assumption) (by omega); omega)
  | exact qDM (l:=[_,_,_,_,_,_,_,_,_,_,_,_,_,_,_,_]) (by assumption) (by assumption) (by assumption) (by assumption) (by assumption) (by assumption)
  | exact qBF (l:=[_,_,_,_,_,_,_,_,_,_,_,_,_,_,_,_]) (by assumption) (by assumption) (by assumption) (by assumption) (by assumption)
  | exact q9H hO (by assumption) (by omega)
  | exact (qnN hO (by assumption) (by assumption) (by assumption) (by assumption)).1
  | (have h:=qnN hO (by assumption) (by assumption) (by assumption) (by assumption); have h2:=congrArg List.length h.1; rw [ja7] at h2; have h3:=h.2; split <;> split <;> omega)
  | (have h:=qnN hO (by assumption) (by assumption) (by assumption) (by assumption); have h2:=congrArg List.length h.1; rw [ja7] at h2; have h3:=h.2; split <;> omega)
  | exact take_add (by assumption) (by assumption) (by assumption) (by omega) (by omega)
  | exact qDK (by assumption) (by omega)
  | (have h2:=qCR (by assumption); omega)
section
variable {o L:List Int} {D E:qe} {n m k b i:Int}
end
set_option maxRecDepth 100000
def q38:Out:=(.fresh 10 (.pre 0 (sg 0 [bv 4 7,bv 3 6,bv 2 5,bv 1 4,bg 0 3]) (tb (fr 11 16 (.post 0 0 (sg 0 [bv 4 7,bv 3 6,bv 2 5,bv 1 4,bg 0 3]) 11 (.inv 0 27 (sg 1000 [bt 1001 (tl 0),bt 1002 (tl 0),bg 1000 10]) (fr 27 3 (.hyp 0 27 (.br (.cmp .lss (tv 28) (tl 16))
 (tn (tl 0) (tv 28) (.br (.c2 (.xbool 0) (.rcons (.vbool (tv 11)) (.rcons (.vbool (tv 12)) (.rcons (.vbool (tv 13)) (.rcons (.vbool (tv 14)) (.rcons (.vbool (tv 15)) (.rcons (.vbool (tv 16)) (.rcons (.vbool (tv 17)) (.rcons (.vbool (tv 18)) (.rcons (.vbool (tv 19)) (.rcons (.vbool (tv 20)) (.rcons (.vbool (tv 21)) (.rcons (.vbool (tv 22)) (.rcons (.vbool (tv 23)) (.rcons (.vbool (tv 24)) (.rcons (.vbool (tv 25)) (.rcons (.vbool (tv 26)) .rnil)))))))))))))))) (tv 28))
 (.pre 1 (sg 0 [bv 4 9,bv 2 1,bv 1 28,bt 0 (r8 0),bg 3 8]) (tb (.fresh 30 (.post 1 0 (sg 0 [bv 4 9,bv 2 1,bv 1 28,bt 0 (r8 0),bg 3 8]) 30 (.br (tv 30)
 (.back 0 27 (sg 1000 [bt 1001 (.arith .add .i64 (tv 28) (tl 1)),bt 1002 (.arith .add .i64 (tv 29) (tl 1)),bg 1000 27]))
 (.back 0 27 (sg 1000 [bt 1001 (.arith .add .i64 (tv 28) (tl 1)),bv 1002 29,bg 1000 27])))))))
 (.back 0 27 (sg 1000 [bt 1001 (.arith .add .i64 (tv 28) (tl 1)),bv 1002 29,bg 1000 27]))))
 (.br (.cmp .geq (tv 2) (tl 1))
 (.ret 0 (sg 10 [bt 10 (.cmp .geq (tv 29) (tv 2))]))
 (.ret 0 (sg 10 [bt 10 (.bl false)]))))))))))))
section
set_option maxRecDepth 20000
variable {o L:List Int} {i c s:Int} {l:List Bool}
def qgU (o:List Int) (s:Int) (l:List Int):Int:=((l.filter fun i=>qZ o i s).length:Int)
theorem q8V {l:List Int}:0 <= qgU o s l/\qgU o s l <= l.length:=⟨by unfold qgU; omega,by unfold qgU; have:=jfe (fun i=>qZ o i s) l; omega⟩
theorem quu {l:List Int} {x:Int}:qgU o s (l ++ [x]) = qgU o s l + (if qZ o x s = true then 1 else 0):=by
 unfold qgU;rw [jfr,jaj];by_cases h:qZ o x s = true
 ·rw [jah h]; simp [h]
 ·rw [jaf h]; simp [h]
theorem q1J {n:Nat}:0 <= qgU o s (qR L n)/\qgU o s (qR L n) <= n:=by
 have h:=q8V (o:=o) (s:=s) (l:=qR L n);have:=qpu (L:=L) (n:=n);omega
theorem qFe {x:Bool} (hc:c = ((qR L i.toNat).filter fun i=>qZ o i s).length) (h0:0 <= i) (h1:i < 16) (hb:qeW l L) (hx:qay [l.map Value.bool] i.toNat = true) (hu:x = qZ o i s) (ht:x = true):qc .add .i64 c 1 = ((qR L (qc .add .i64 i 1).toNat).filter fun i=>qZ o i s).length:=by
 have hm:i ∈ L:=(qfq (qdk hb (ja4 _)) (ja4 _) h0 h1).1 hx;have h2:=q1J (o:=o) (s:=s) (L:=L) (n:=i.toNat);change c = qgU o s (qR L i.toNat) at hc
 show _ = qgU o s _
 rw [qdz h0 (by omega),qdz (by omega) (by omega),show (i + 1).toNat = i.toNat + 1 by omega,qei,jay h0,jah hm,quu,jah (hu ▸ ht),hc]
theorem qEZ {x:Bool} (hc:c = ((qR L i.toNat).filter fun i=>qZ o i s).length) (h0:0 <= i) (h1:i < 16) (hb:qeW l L) (hx:qay [l.map Value.bool] i.toNat = true) (hu:x = qZ o i s) (ht:x = false):c = ((qR L (qc .add .i64 i 1).toNat).filter fun i=>qZ o i s).length:=by
 have hm:i ∈ L:=(qfq (qdk hb (ja4 _)) (ja4 _) h0 h1).1 hx;have h2:=q1J (o:=o) (s:=s) (L:=L) (n:=i.toNat);change c = qgU o s (qR L i.toNat) at hc
 show _ = qgU o s _
 rw [qdz h0 (by omega),show (i + 1).toNat = i.toNat + 1 by omega,qei,jay h0,jah hm,quu,jaf (by rw [<- hu,ht]; simp),hc,Int.add_zero]
theorem qFl (hc:c = ((qR L i.toNat).filter fun i=>qZ o i s).length) (h0:0 <= i) (h1:i < 16) (hb:qeW l L) (hx:qay [l.map Value.bool] i.toNat = false):c = ((qR L (qc .add .i64 i 1).toNat).filter fun i=>qZ o i s).length:=by
 have hm:¬ i ∈ L:=qmu (qdk hb (ja4 _)) (ja4 _) h0 h1 hx;rw [qdz h0 (by omega),show (i + 1).toNat = i.toNat + 1 by omega,qei,jay h0,jaf hm,jc6,hc]
theorem qCY {n:Int} (hc:c = ((qR L i.toNat).filter fun i=>qZ o i s).length) (h0:i <= 16) (h1:16 <= i) (hn:1 <= n):decide (c ≥ n) = qng o s n L:=by
 rw [show i.toNat = 16 by omega] at hc;unfold qng;rw [jcl hn,jel,hc]; rfl
theorem qwc {n:Int} (hn:n < 1):false = qng o s n L:=by
 unfold qng;rw [jer (by omega),Bool.false_and]
end
end Go.Proofs
namespace Go.Eng
open Go Go.Proofs
def qow (Z:Env) (r:Nat):Prop:=0 <= (Z (r + 1)).i/\(Z (r + 1)).i <= (Z (r + 3)).d.length/\(Z (r + 1)).i <= 1000000000000/\∀ row ∈ (Z (r + 3)).d,row.length = 1
def qhj:Ctr:={ qkq with pre:=fun Z=>qow Z 0,alts:=[
 { k:=16,ret:=b16 5,heap:=[],post:=fun Z=>qeW [(Z 5).b,(Z 6).b,(Z 7).b,(Z 8).b,(Z 9).b,(Z 10).b,(Z 11).b,(Z 12).b,(Z 13).b,(Z 14).b,(Z 15).b,(Z 16).b,(Z 17).b,(Z 18).b,(Z 19).b,(Z 20).b] ((qt (Z 3).d).take (Z 1).i.toNat) }] }
def qhZ:Ctr:={ q9o with pre:=fun Z=>qH (qf (Z 0).d 32)/\qow Z 3/\gOk Z 8 9 gR,alts:=[{ k:=1,ret:=.one (.vbool (.var 10)),heap:=[],post:=fun Z=>(Z 10).b = qng (qf (Z 0).d 32) (Z 1).i (Z 2).i ((qt (Z 6).d).take (Z 4).i.toNat) }] }
def q4I:Inv:={ qD3 with inv:=(fun Z=>0 <= (Z 1001).i/\(Z 1001).i <= 16/\(Z 1002).i = (((qR ((qt (Z 6).d).take (Z 4).i.toNat) (Z 1001).i.toNat).filter fun i=>qZ (qf (Z 0).d 32) i (Z 1).i).length:Int)) }
end Go.Eng
namespace Go.Proofs
open Go Go.Eng
theorem q7H:qkV ⟨Tryz.prog,qhj,[qfW],[qx5]⟩ 100000 Tryz.f82 = qqS:=by kernel_rfl
theorem qDd (hd:∀ c ∈ ([qfW]:List Ctr),c.ok Tryz.prog) (h:∀ Z:Env,Z.good->(qhj).pre Z->qqS.den ⟨Tryz.prog,qhj,[qfW],[qx5]⟩ Z):(qhj).ok Tryz.prog :=
 qis Tryz.func82 (fun a w=>Tryz.call82 a w) hd 100000 (fun Z hg hp=>by rw [q7H]; exact h Z hg hp)
theorem q59:qkV ⟨Tryz.prog,qhZ,[qhj,qeJ],[q4I]⟩ 100000 Tryz.f37 = q38:=by kernel_rfl
theorem qCG (hd:∀ c ∈ ([qhj,qeJ]:List Ctr),c.ok Tryz.prog) (h:∀ Z:Env,Z.good->(qhZ).pre Z->q38.den ⟨Tryz.prog,qhZ,[qhj,qeJ],[q4I]⟩ Z):(qhZ).ok Tryz.prog :=
 qis Tryz.func37 (fun a w=>Tryz.call37 a w) hd 100000 (fun Z hg hp=>by rw [q59]; exact h Z hg hp)
theorem qCK:qhj.ok Tryz.prog:=qDd (by simp [qtm]) fun Z hg hp=>by
 obtain ⟨h0,hl,h1,hr⟩:=hp;simp only [Nat.reduceAdd] at h0 hl h1 hr;simp (config:={ maxSteps:=4000000 }) [qqS,qhj,qkq,qx5,qfW,h0];have hil:(qt (Z 3).d).length = (Z 3).d.length:=by simp [qt]
 refine ⟨qpf,fun s _ i _ i0 i1 hs=>⟨fun hi=>⟨i0,by omega,fun u _ hu=>⟨fun ht=>?_,fun hf=>?_⟩⟩,fun hi=>?_⟩⟩
 ·have hp:0 <= qb (Z 3).d i.i 0/\qb (Z 3).d i.i 0 < 16:=by rw [hu] at ht; exact jbh ht
  have hsl:0 < s.d.length:=by obtain ⟨⟨row,e,_⟩,_⟩:=hs; rw [e]; exact Nat.one_pos
  rw [add64 (x:=i.i) (by omega) (by omega)];refine ⟨hp.1,hp.2,hsl,⟨by omega,by omega,?_⟩,by omega⟩;rw [show (i.i + 1).toNat = i.i.toNat + 1 by omega];exact qoO hs (by omega) (qbF i0 (by omega)) hp.1 hp.2
 ·have hp:¬ (0 <= qb (Z 3).d i.i 0/\qb (Z 3).d i.i 0 < 16):=by rw [hu] at hf; exact jdb hf
  rw [add64 (x:=i.i) (by omega) (by omega)];refine ⟨⟨by omega,by omega,?_⟩,by omega⟩;rw [show (i.i + 1).toNat = i.i.toNat + 1 by omega];exact qph hs (by omega) (qbF i0 (by omega)) hp
 ·obtain ⟨⟨row,hs1,hrl⟩,hs2⟩:=hs
  rw [show i.i.toNat = (Z 1).i.toNat by omega] at hs2;rw [hs1] at hs2 ⊢
  match row,hrl with
  | [a0,a1,a2,a3,a4,a5,a6,a7,a8,a9,a10,a11,a12,a13,a14,a15],_ =>
   refine ⟨by simp,?_⟩;have key:qeW ((List.range 16).map (qay [[a0,a1,a2,a3,a4,a5,a6,a7,a8,a9,a10,a11,a12,a13,a14,a15]])) ((qt (Z 3).d).take (Z 1).i.toNat):=⟨by simp,fun j hj=>by
    rw [jab,jaq,jbp hj];exact hs2 j (by omega) (by omega)⟩
   exact key
theorem qB7:qhZ.ok Tryz.prog:=qCG (by simp [qCK,quK]) fun Z hg hp=>by
 obtain ⟨hO,⟨h0,hl,h1,hr⟩,hGr,hGd⟩:=hp;simp only [Nat.reduceAdd] at h0 hl h1 hr;simp (config:={ maxSteps:=4000000 }) [q38,qhZ,q9o,q4I,qD3,qhj,qkq,qeJ,qdm,qow,gOk,h0,hl,hO,hGr,hGd]
 repeat' (first | with_reducible apply And.intro | with_reducible intro _)
 all_goals first
  | assumption
  | omega
  | rfl
  | exact qk4 (by assumption) (by assumption)
  | (rw [qdz (by assumption) (by omega)]; omega)
  | exact qFe (l:=[_,_,_,_,_,_,_,_,_,_,_,_,_,_,_,_]) (by assumption) (by assumption) (by assumption) (by assumption) (by assumption) (by assumption) (by assumption)
  | exact qEZ (l:=[_,_,_,_,_,_,_,_,_,_,_,_,_,_,_,_]) (by assumption) (by assumption) (by assumption) (by assumption) (by assumption) (by assumption) (by assumption)
  | exact qFl (l:=[_,_,_,_,_,_,_,_,_,_,_,_,_,_,_,_]) (by assumption) (by assumption) (by assumption) (by assumption) (by assumption)
  | exact qCY (by assumption) (by assumption) (by assumption) (by assumption)
  | exact qwc (by assumption)
  | exact (qwc (by assumption)).symm
end Go.Proofs
namespace Go.Eng
open Go Go.Proofs
def qfO:Ctr:={ fn := 31,nv:=2,ow:=[1003,200096],ip:=[gIp 0,(1127,8),(58,2),(1001,9),(1002,9)],args:=[],heap:=[],ro:=[gHp 0 1],pre:=fun Z=>gOk Z 0 1 gR,alts:=[qdE] }
def q1n:Inv:={ key:=1000012,nv:=19,env:=[(4,.one (.vptr 1010 (.lit 0) 37 0)),(5,.one (.vslice 1015 (.lit 0) (.lit 1) (.var 1016) 2)),(6,.one (.vint .i64 (.lit 0))),(9,gaP 1000)],heap:=qip 1000 20 ++ [.cells 1010 27 ([.vint .i64 (.lit 1),.vint .i64 (.lit 1),.vint .i64 (.lit 1),.vint .i64 (.lit 1)] ++ (qN .u8 1011 32 ++ [.vslice 1012 (.lit 0) (.lit 1) (.var 1013) 32])),qaC 1012 1014 1013,qc0 1015 1017 1016,.abs 1018 10],inv:=(fun Z=>gaB Z 1000 none []/\qH (qf (Z 1011).d 32)/\qbJ (Z 1014).d/\(Z 1014).d.length = 1/\(Z 1017).d.length = 1/\qgE (Z 1018).h (Z 1017).d 1/\pcI (Z 1017).d 0 = 0/\qci 1 1 1 1 1 (dgs (Z 1014).d) 0 (pcD (Z 1018).h (Z 1017).d 0) = 0/\qf (Z 1001).d 32 = sha (qan 1 1 1 1 (qf (Z 1011).d 32) ++ (dgs (Z 1014).d).flatten)),mu:=fun _=>0 }
def fP (r:Nat):SV:=.one (.vptr r (.lit 0) 769 0)
def qo3:Ctr:={ fn := 49,nv:=16,args:=[qo5 0,qd6 10],heap:=[],ro:=[qaC 5 8 9,qkU 10],pre:=fun Z=>(Z 6).i = (Z 8).d.length/\(Z 6).i <= 4398046510976/\(Z 12).i = (Z 14).d.length/\(Z 12).i <= 100000000,alts:=[
 { k:=6,ret:=.tup [(true,qbe 0 1 2 3 4 16 6 17),(true,[.vint .i64 (.var 10),.vslice 18 (.lit 0) (.var 12) (.var 19) 1])],heap:=[qaC 16 20 17,bHp 18 21 19],post:=fun Z=>(Z 20).d = (Z 8).d/\(Z 21).d = (Z 14).d }] }
def q2Q:Ctr:={ fn := 52,nv:=10,ip:=[(1001,9)],ow:=[1003],args:=[gaP 0],heap:=[],ro:=qip 0 20,pre:=fun Z=>∃ M L,gaB Z 0 M L,alts:=[
 { k:=10,ret:=.tup [(true,qbe 10 11 12 13 14 15 16 17),(false,[.vbool (.var 19)])],heap:=[qaC 15 18 17],post:=fun Z=>qgw Z 10/\∀ M L,gaB Z 0 M L->((Z 19).b = true/\M = some (qf4 Z 10))∨((Z 19).b = false/\M = none) }] }
def qmt:Ctr:={ qsU with ro:=[qaC 7 10 11,qc0 12 15 16,.abs 17 20,gHp 18 19] }
def qlY:Ctr:={ qtj with ro:=[qaC 7 10 11,qc0 12 15 16,.abs 17 20,gHp 18 19] }
def qyG (r d:Nat):SH:=.arr r 151 qgm (.var d) (.lit 1)
def qk0 (M:Option ManV) (L:PcL) (h:Hp) (P:qe) (e n:Int) (R:qe):Prop:=(qa3 M L = false/\e = 12/\n = 0/\R = [])∨∃ m,M = some m/\qa3 M L = true/\qyY m.ok (qdv (qlN m.k m.n m.t m.s m.D.length m.D h P) (pcI P) P.length m.k) m.s e n ((qob h P m.k.toNat).take m.s.toNat) m.o R
def qiR (M:Option ManV) (L:PcL) (h:Hp) (P:qe) (x e y n:Int) (R:qe):Prop:=(qa3 M L = false/\e = 12/\y = 0/\n = 0/\R = [])∨∃ m,M = some m/\qa3 M L = true/\qkb m.ok (qdv (qlN m.k m.n m.t m.s m.D.length m.D h P) (pcI P) P.length m.k) x m.t e y n (qfj h P m.k.toNat x) (m.D.getD x.toNat []) R
def qiw:Ctr:={ fn := 46,nv:=14,ip:=[gIp 12,(1001,9),(1002,9)],ow:=[1003],args:=[gaP 0,fP 10],heap:=[qyG 10 11],ro:=qip 0 20 ++ [gHp 12 13],pre:=fun Z=>(∃ M L,gaB Z 0 M L)/\ql (Z 11).d/\gOk Z 12 13 gR,alts:=[
 { k:=7,ret:=.tup [(false,[.vslice 14 (.lit 0) (.var 15) (.var 20) 1]),qa7 (.var 18)],heap:=[qyG 10 19,.arr 14 5 kB (.var 17) (.var 16)],post:=fun Z=>ql (Z 19).d/\(Z 15).i <= (Z 20).i/\∀ M L,gaB Z 0 M L->qk0 M L (Z 9).h (Z 8).d (Z 18).i (Z 15).i (Z 17).d }] }
def qiy:Ctr:={ fn := 50,nv:=15,ip:=[gIp 12,(1001,9),(1002,9)],ow:=[1003],args:=[gaP 0,fP 10,iv .i64 (.var 14)],heap:=[qyG 10 11],ro:=qip 0 20 ++ [gHp 12 13],pre:=fun Z=>(∃ M L,gaB Z 0 M L)/\ql (Z 11).d/\gOk Z 12 13 gR/\qa8 (Z 14).i,alts:=[
 { k:=7,ret:=.tup [(true,[.vint .i64 (.var 15),.vslice 16 (.lit 0) (.var 17) (.var 18) 1]),qa7 (.var 20)],heap:=[qyG 10 21,.arr 16 5 kB (.var 19) (.var 18)],post:=fun Z=>ql (Z 21).d/\∀ M L,gaB Z 0 M L->qiR M L (Z 9).h (Z 8).d (Z 14).i (Z 20).i (Z 15).i (Z 17).i (Z 19).d }] }
@[simp] def m8 (v e:Nat):T:=(.rcons (i8 v e 4) (.rcons (i8 v e 5) (.rcons (i8 v e 6) (.rcons (i8 v e 7) (.rcons (i8 v e 8) (.rcons (i8 v e 9) (.rcons (i8 v e 10) (.rcons (i8 v e 11) (.rcons (i8 v e 12) (.rcons (i8 v e 13) (.rcons (i8 v e 14) (.rcons (i8 v e 15) (.rcons (i8 v e 16) (.rcons (i8 v e 17) (.rcons (i8 v e 18) (.rcons (i8 v e 19) (.rcons (i8 v e 20) (.rcons (i8 v e 21) (.rcons (i8 v e 22) (.rcons (i8 v e 23) (.rcons (i8 v e 24) (.rcons (i8 v e 25) (.rcons (i8 v e 26) (.rcons (i8 v e 27) (.rcons (i8 v e 28) (.rcons (i8 v e 29) (.rcons (i8 v e 30) (.rcons (i8 v e 31) (.rcons (i8 v e 32) (.rcons (i8 v e 33) (.rcons (i8 v e 34) (.rcons (i8 v e 35) .rnil))))))))))))))))))))))))))))))))
@[simp] def mq8 (k v e:Nat):T:=.vint .u8 (.c2 (.xint k) (m8 v e) (.lit 0))
@[simp] def ms8 (v e:Nat):T:=(.rcons (mq8 0 v e) (.rcons (mq8 1 v e) (.rcons (mq8 2 v e) (.rcons (mq8 3 v e) (.rcons (mq8 4 v e) (.rcons (mq8 5 v e) (.rcons (mq8 6 v e) (.rcons (mq8 7 v e) (.rcons (mq8 8 v e) (.rcons (mq8 9 v e) (.rcons (mq8 10 v e) (.rcons (mq8 11 v e) (.rcons (mq8 12 v e) (.rcons (mq8 13 v e) (.rcons (mq8 14 v e) (.rcons (mq8 15 v e) (.rcons (mq8 16 v e) (.rcons (mq8 17 v e) (.rcons (mq8 18 v e) (.rcons (mq8 19 v e) (.rcons (mq8 20 v e) (.rcons (mq8 21 v e) (.rcons (mq8 22 v e) (.rcons (mq8 23 v e) (.rcons (mq8 24 v e) (.rcons (mq8 25 v e) (.rcons (mq8 26 v e) (.rcons (mq8 27 v e) (.rcons (mq8 28 v e) (.rcons (mq8 29 v e) (.rcons (mq8 30 v e) (.rcons (mq8 31 v e) .rnil))))))))))))))))))))))))))))))))
def qsZ:List CK:=qsG ++ [.int .i64,.any,.int .i64]
def q1y (h:Hp) (d:qe) (i:Int):Prop:=qa8 (qb d i 0)/\qa8 (qb d i 1)/\qa8 (qb d i 2)/\qa8 (qb d i 3)/\qH ((List.range 32).map fun j=>qb d i (4 + j))/\(∃ D,Rd h k32 (qC d i 36) D/\qbJ D)/\qa8 (qb d i 37)/\(∃ B,Rd h kB (qC d i 38) B/\qk B)/\qa8 (qb d i 39)
def qzf:SV:=.one (.vslice 1 (.lit 0) (.var 2) (.var 3) 40)
def qlD (Z:Env):Prop:=(Z 2).i = (Z 4).d.length/\(Z 2).i <= 17592186043904/\∀ i:Int,0 <= i->i < (Z 2).i->q1y (Z 6).h (Z 4).d i
end Go.Eng
namespace Go.Proofs
open Go Go.Eng
def qzc:Out:=(.pre 0 (sg 0 [bv 1 1,bv 0 0]) (tb (.fresh 9 (.post 0 0 (sg 0 [bv 1 1,bv 0 0]) 9 (.br (.not (tv 9))
 (.ret 0 (sg 9 [bt 9 (tl 2)]))
 (.br (.cmp .lss (tv 2) (tl 0))
 (.ret 0 (sg 9 [bt 9 (tl 2)]))
 (.br (.cmp .gtr (tv 2) (tl 8192))
 (.ret 0 (sg 9 [bt 9 (tl 2)]))
 (.pre 1 (sg 0 [bv 1 2,bv 0 0]) (tb (fr 10 2 (.post 1 0 (sg 0 [bv 1 2,bv 0 0]) 10 (.pre 2 (sg 0 [bg 8 8,bv 7 7,bv 6 6,bv 5 5,bv 4 4,bg 3 3,bv 2 10,bv 1 1,bv 0 0]) (tb (.fresh 12 (.post 2 0 (sg 0 [bg 8 8,bv 7 7,bv 6 6,bv 5 5,bv 4 4,bg 3 3,bv 2 10,bv 1 1,bv 0 0]) 12 (.br (.cmp .neq (tv 12) (tl 0))
 (.ret 0 (sg 9 [bv 9 12]))
 (.fresh 13 (.inv 0 14 (sg 1000 [bt 1003 .dnil,bt 1004 (tl 0),bt 1002 (tl 0),bt 1001 (tl 0),bg 1000 13]) (fr 14 5 (.hyp 0 14 (.br (.cmp .lss (tv 18) (tv 0))
 (.pre 3 (sg 0 [bg 7 8,bv 5 7,bv 4 6,bt 6 (.conv .u8 (tv 18)),bv 3 5,bv 2 4,bg 1 3,bv 0 0]) (tb (fr 19 4 (.post 3 0 (sg 0 [bg 7 8,bv 5 7,bv 4 6,bt 6 (.conv .u8 (tv 18)),bv 3 5,bv 2 4,bg 1 3,bv 0 0]) 19 (.need (.cmp .eql (tv 15) (.dlen (tv 17))) (tn (tl 0) (tv 20) (tn (tv 20) (.dlen (tv 22)) (tn (.tims (tl 1) (.plus (tv 15) (tv 20))) (tl 140737488355328) (fr 23 2 (.back 0 14 (sg 1000 [bt 1003 (.dapp (tv 17) (.dtake (tv 22) (tv 20))),bt 1004 (.arith .add .i64 (tv 18) (tl 1)),bv 1002 24,bt 1001 (.plus (tv 15) (tv 20)),bg 1000 23])))))))))))
 (.know (.cmp .leq (.dlen (tv 17)) (tv 16)) (tn (tl 0) (tv 15) (tn (tl 0) (tv 16) (tn (tl 0) (tv 2) (tn (tv 2) (tv 16) (.ret 1 (sg 9 [bv 11 17,bv 10 16,bg 9 14]))))))))))))))))))))))))))))
theorem q8q:qj Tryz.prog qkH [qfs,qiQ,qfr,qf3] [q1f] qzc:=qg Tryz.func78 Tryz.call78 (by kernel_rfl)
theorem q7l:qkH.ok Tryz.prog:=q8q (by simp [qrg,qyc,qrM,qrv]) fun Z hg hp=>by
 obtain ⟨hpre,hcap⟩:=hp;have hpre':=hpre;obtain ⟨n0,n1,hpc⟩:=hpre';simp (config:={ maxSteps:=4000000 }) [qzc,qkH,q1f,qfs,qbv,qiQ,qbH,qfr,qjO,qf3];refine fun b _ hb=>⟨fun h=>.inl ⟨.inl (by rw [<- hb,h]),rfl⟩,fun h=>⟨fun hi=>.inl ⟨.inr (.inl hi),rfl⟩,fun s0=>⟨fun hi=>.inl ⟨.inr (.inr hi),rfl⟩,fun s1 l _ e0 _ _ hl=>?_⟩⟩⟩
 have hs:qM (Z 0).i (Z 1).i = true:=by rw [<- hb,h]
 obtain ⟨k1,k2,k3⟩:=qbn.1 hs;obtain ⟨hl,_⟩:=qxe k1 (by omega) s0 s1 hl;rw [hl];refine ⟨⟨k3,n0,n1,hpc⟩,fun e _ he=>⟨fun hne=>.inr ⟨hs,s0,s1,he,hne⟩,fun he0=>?_⟩⟩;rw [he0] at he;have hK:qlw (Z 8).h (Z 6).d (Z 0).i (Z 1).i (Z 2).i (Z 4).i:=⟨hs,s0,s1,he⟩;obtain ⟨P,hN⟩:=q22 hpre hK;obtain ⟨hd1,hd2,_,_⟩:=q1i hpre hK s0;obtain ⟨v1,v2,v3,v4,v5⟩:=P.value;have hkn:=P.kn;refine ⟨⟨hK,by omega,fun r hr=>(by cases hr),rfl⟩,fun m _ cp _ d _ i _ _ i0 i1 hm hB hb=>⟨fun hi=>?_,fun hi hcp=>?_⟩⟩
 ·rw [qpM i0 (by omega)]
  refine ⟨⟨k1,by omega,hkn,hcap,n1,v5,v1,v2,v3,v4,⟨i0,by omega⟩⟩,fun a _ x _ ha hx hxB hxe=>?_⟩;have hdl:d.d.length = i.i.toNat * pcN (Z 8).h (Z 6).d 0:=by rw [<- bI_len,hb]; exact qly fun j _=>qoy
  have hdb:i.i.toNat * pcN (Z 8).h (Z 6).d 0 <= 255 * 8192:=Nat.mul_le_mul (by omega) hd2;have e2:qc .add .i64 i.i 1 = i.i + 1:=add64 (by omega) (by omega);have htk:x.d.take a.i.toNat = x.d:=jap (by omega);rw [e2,htk];refine ⟨hm,by omega,by omega,by omega,⟨hK,by omega,by omega,by omega,qee hB hxB,?_⟩,by omega⟩;rw [qgf,hb,hxe,show (i.i + 1).toNat = i.i.toNat + 1 by omega,qcv]
  congr 1
  rw [jay i0];rfl
 ·have he:i.i = (Z 0).i:=by omega
  rw [he] at hb;have hdl:d.d.length = (Z 0).i.toNat * pcN (Z 8).h (Z 6).d 0:=by rw [<- bI_len,hb]; exact qly fun j _=>qoy
  exact ⟨by omega,by omega,s0,by omega,hK,by omega,qjF hB,(by rw [qgQ,hb]; rfl),hB⟩
end Go.Proofs
namespace Go.Eng
open Go Go.Proofs
def qrN:Ctr:={ qdX with pre:=fun Z=>0 <= (Z 1).i/\(Z 1).i <= (Z 3).d.length/\(Z 1).i <= 1000000000000/\qk (Z 3).d/\gOk Z 5 6 gS,alts:=[{ k:=1,ret:=dgV 7,heap:=[],post:=fun Z=>qf (Z 7).d 32 = sha (qaB (Z 3).d 0 (Z 1).i) }] }
def qoz:Ctr:={ fn := 23,nv:=18,ip:=[gIs 16],args:=[qbS,pcS 10 11 12],heap:=[],ro:=[qaC 5 8 9,qc0 10 13 14,.abs 15 6,gHp 16 17],pre:=fun Z=>qgB Z 0/\psP (Z 11).i (Z 13).d (Z 15).h/\(Z 11).i <= (Z 12).i/\gOk Z 16 17 gS,alts:=[
 { k:=6,ret:=.tup [(false,[.vslice 18 (.lit 0) (.var 19) (.var 20) 1]),qa7 (.var 22)],heap:=[bHp 18 21 23],post:=fun Z=>qyY (mOk Z 0) (qhN Z 0 13 15) (Z 3).i (Z 22).i (Z 19).i (qti Z 0 13 15) (qf (Z 4).d 32) (Z 21).d }] }
end Go.Eng
namespace Go.Proofs
open Go Go.Eng
@[simp] def qpO:Sg:=sg 0 [bg 8 15,bv 7 14,bv 6 13,bv 5 12,bv 4 11,bg 3 10,bv 2 3,bv 1 2,bv 0 0]
@[simp] def qxR:Sg:=sg 0 [bv 17 17,bg 15 15,bv 14 14,bv 13 13,bv 9 9,bv 8 8,bv 12 12,bv 11 11,bg 10 10,bv 7 7,bv 6 6,bg 5 5,bv 3 3,bv 2 2,bv 1 1,bv 0 0,bt 4 (r8 4),bg 16 16]
def q7X:Out:=(.fresh 18 (.pre 0 (sg 0 [bv 9 9,bv 8 8,bv 7 7,bv 6 6,bg 5 5,bv 3 3,bv 2 2,bv 1 1,bv 0 0,bt 4 (r8 4)]) (tb (.fresh 19 (.post 0 0 (sg 0 [bv 9 9,bv 8 8,bv 7 7,bv 6 6,bg 5 5,bv 3 3,bv 2 2,bv 1 1,bv 0 0,bt 4 (r8 4)]) 19 (.br (.not (tv 19))
 (.ret 0 (sg 18 [bt 23 (tl 0),bt 21 .dnil,bt 22 (tl 2),bt 20 (tl 0),bt 19 (tl 0),(18,.nil)]))
 (.pre 1 qxR (tb (.fresh 20 (.post 1 0 qxR 20 (.br (.cmp .neq (tv 20) (tl 0))
 (.ret 0 (sg 18 [bt 23 (tl 0),bt 21 .dnil,bv 22 20,bt 20 (tl 0),bt 19 (tl 0),(18,.nil)]))
 (.pre 2 qpO (.both (.fresh 21 (.post 2 0 qpO 21 (tb (.pre 3 (sg 0 [bv 6 17,bt 4 (tl 0),bt 3 .dnil,bt 2 (tl 0),bt 1 (tl 0),(0,.nil),bg 5 16]) (tb (.fresh 22 (.post 3 0 (sg 0 [bv 6 17,bt 4 (tl 0),bt 3 .dnil,bt 2 (tl 0),bt 1 (tl 0),(0,.nil),bg 5 16]) 22 (.br (.not (.c2 .req (r8 22) (r8 4)))
 (.ret 0 (sg 18 [bt 23 (tl 0),bt 21 .dnil,bt 22 (tl 20),bt 20 (tl 0),bt 19 (tl 0),(18,.nil)]))
 (.ret 0 (sg 18 [bt 23 (tl 0),bt 21 .dnil,bt 22 (tl 0),bt 20 (tl 0),bt 19 (tl 0),(18,.nil)])))))))))) (tb (fr 21 3 (.post 2 1 qpO 21 (tb (.pre 3 (sg 0 [bv 6 17,bv 4 22,bv 3 23,bv 2 22,bv 1 3,bg 0 21,bg 5 16]) (tb (.fresh 24 (.post 3 0 (sg 0 [bv 6 17,bv 4 22,bv 3 23,bv 2 22,bv 1 3,bg 0 21,bg 5 16]) 24 (.br (.not (.c2 .req (r8 24) (r8 4)))
 (.ret 0 (sg 18 [bt 23 (tl 0),bt 21 .dnil,bt 22 (tl 20),bt 20 (tl 0),bt 19 (tl 0),(18,.nil)]))
 (.ret 0 (sg 18 [bv 23 22,bv 21 23,bt 22 (tl 0),bv 20 22,bv 19 3,bg 18 21]))))))))))))))))))))))))
theorem qBY:qj Tryz.prog qoz [qe3,qiH,qkH,qrN] [] q7X:=qg Tryz.func23 Tryz.call23 (by kernel_rfl)
theorem q5u {c:Array Value} {o n:Nat} {pat:List CK} {d:qe} (h:qT c o pat d):qT c o pat (d.take n):=fun i row hi=>by
 rw [jbb] at hi;split at hi
 ·exact h i row hi
 ·cases hi
theorem qCq:qrN.ok Tryz.prog:=by
 refine ⟨qok.1,fun Z w hF hO hg hd hw hs hro hp=>?_⟩;obtain ⟨n0,n1,n2,hB,hG⟩:=hp
 let u:U:={ Z 3 with d:=(Z 3).d.take (Z 1).i.toNat }
 have hu:∀ n,n ≠ 3->(Z.set 3 u) n = Z n:=fun n hn=>Env.set_ne Z u hn
 have h3:(Z.set 3 u) 3 = u:=Env.set_same Z 3 u;have hl:((Z 3).d.take (Z 1).i.toNat).length = (Z 1).i.toNat:=by rw [jbe]; omega
 have hgood:(Z.set 3 u).good:=fun n=>by
  by_cases hn:n = 3
  ·subst hn; rw [h3]; exact ⟨(hg 3).1,fun row hr=>(hg 3).2 row (jbx hr)⟩
  ·rw [hu n hn]; exact hg n
 have hro':∀ x ∈ qdX.ro,x.roden (Z.set 3 u) hF:=by
  intro x hx;simp only [qdX,qwz,bHp,gHp,ja9,jco,or_false] at hx;rcases hx with rfl | rfl
  ·rcases hro _ (show SH.arr 0 _ kB (.var 3) (.var 4) ∈ qrN.ro from jae ..) with h | ⟨b,o,c,ty,fr,h1,h2,h3'⟩
   ·left
    show u.d = []
    have h:(Z 3).d = []:=h
    show (Z 3).d.take _ = []
    rw [h,List.take_nil]
   ·exact .inr ⟨b,o,c,ty,fr,h1,h2,q5u h3'⟩
  ·exact hro _ (jad _ (jae ..))
 have hd1:(qdX.args.map (SV.den (Z.set 3 u))).toArray = (qrN.args.map (SV.den Z)).toArray:=rfl;have hp':qdX.pre (Z.set 3 u):=⟨by show (Z 1).i = (((Z 3).d.take (Z 1).i.toNat).length:Int); rw [hl]; omega,n2,qjF hB,hG⟩;have hm:=qok.2 (Z.set 3 u) w hF hO hgood hd hw hs hro' hp';rw [hd1] at hm;refine hm.mono fun e w' h=>?_
 obtain ⟨ai,al,Z',h1,h2,h4,h5,h6,h7⟩:=h
 match ai,h1 with
 | 0,h1 =>
  obtain rfl:=(jax h1).symm;have e3:Z' 3 = u:=(h4 3 (by decide)).trans h3;have en:∀ n,n ≠ 3->(Z'.set 3 (Z 3)) n = Z' n:=fun n hn=>Env.set_ne Z' (Z 3) hn
  refine ⟨0,_,Z'.set 3 (Z 3),rfl,fun n=>?_,fun n hn=>?_,?_,?_,h7⟩
  ·by_cases hn:n = 3
   ·subst hn; rw [Env.set_same]; exact hg 3
   ·rw [en n hn]; exact h2 n
  ·by_cases hn3:n = 3
   ·subst hn3; exact Env.set_same ..
   ·rw [en n hn3,h4 n hn,hu n hn3]
  ·rw [h5]
   congr 1
  ·have h6:qf (Z' 7).d 32 = sha (bI (Z' 3).d):=h6
   show qf (Z' 7).d 32 = sha (qaB (Z 3).d 0 (Z' 1).i)
   rw [h6,e3,h4 1 (by decide),hu 1 (by decide)]
   show sha (bI ((Z 3).d.take (Z 1).i.toNat)) = _
   rw [qgQ]; rfl
 | ai + 1,h1=>simp [qdX] at h1
set_option maxRecDepth 20000
set_option maxHeartbeats 1000000 in
theorem qC0:qoz.ok Tryz.prog:=qBY (by simp [qmq,qxh,q7l,qCq]) fun Z hg hp=>by
 obtain ⟨⟨m0,m1,m2,m3,hl,hD⟩,⟨⟨p0,p1,hpc⟩,hn,h9⟩,hc,⟨hGr,hGd⟩⟩:=hp;simp only [Nat.reduceAdd] at m0 m1 m2 m3 hl hD p0 p1 hpc hn h9;simp (config:={ maxSteps:=4000000 }) [q7X,qoz,qe3,qiH,qep,qi1,qgB,psP,qkH,qrN,qdX,qdV,qbS,qbe,qgc,qN,gOk,mF,qhN,mOk,qti,hGr,hGd,hD,hl,m0,m1,m2,m3,p0,p1,hpc,hc];cases hM:qy (Z 0).i (Z 1).i (Z 2).i (Z 3).i ((Z 8).d.length:Int)
 ·intro u2 _ hu2
  exact ⟨fun _=>qkI (qzk rfl) (by decide),fun h=>(by rw [hu2] at h; cases h)⟩
 ·intro u2 _ hu2
  refine ⟨fun h=>(by rw [hu2] at h; cases h),fun _=>⟨⟨hn,h9⟩,fun u3 _ hC=>⟨fun hne=>qkI (qxk rfl hC hne) hne,fun h0=>?_⟩⟩⟩;rw [h0] at hC;have hK:=qv7 hC hM hn;obtain ⟨k1,k2,k3,k4,s0,s1,htl⟩:=qdj.1 hM;refine ⟨fun u4 _ hE=>(q13 hK hE).elim,fun d _ _ hsz hB hb hBB=>⟨⟨s0,hsz,by omega,hBB⟩,fun u10 _ hs=>?_⟩⟩;have hsg:qaB d.d 0 (Z 3).i = bI (d.d.take (Z 3).i.toNat):=by rw [qgQ]; rfl
  rw [hs,hsg,hb];exact ⟨fun h=>qkI (qxH rfl hC h) (by decide),fun h=>q0K (q1k rfl hC h) s0 hsz hBB hb⟩
theorem q4d {h h':Hp} {D D':qe} {k:Nat} (H:∀ j,j < k->pcI D j = pcI D' j/\pcD h D j = pcD h' D' j):qob h D k = qob h' D' k :=
 qlV fun j hj=>qpp (by omega) H
end Go.Proofs
namespace Go.Proofs
open Go Go.Eng Go.RowKit Go.Lib Go.Sort
def qpJ (W:World) (p q:Int) (xs ys:List Int):World:=(W.alloc (Obj.cells (Value.int .i64 p :: xs.map (Value.int .u8)).toArray 153)).alloc (Obj.cells (Value.int .i64 q :: ys.map (Value.int .u8)).toArray 153)
theorem q2j {W:World} {p q:Int} {xs ys:List Int}:(qpJ W p q xs ys).heap[W.heap.size]? = some (Obj.cells (Value.int .i64 p :: xs.map (Value.int .u8)).toArray 153):=by
 simp only [qpJ,World.alloc];rw [jen,jaf (by simp),jen,jah rfl]
theorem q0P {W:World} {p q:Int} {xs ys:List Int}:(qpJ W p q xs ys).heap[W.heap.size + 1]? = some (Obj.cells (Value.int .i64 q :: ys.map (Value.int .u8)).toArray 153):=by
 simp only [qpJ,World.alloc];rw [jen,jah (by simp)]
theorem q6o {W:World} {b:Nat} {p:Int} {xs:List Int} {ty:TypeId} (h:W.heap[b]? = some (Obj.cells (Value.int .i64 p :: xs.map (Value.int .u8)).toArray ty)) (n j:Nat) (x:Int) (hx:xs[j]? = some x):(W.drewN n).cell? ((⟨b,1,none⟩:Addr).add j) = some (.int .u8 x):=by
 have e:((⟨b,1,none⟩:Addr).add j) = ⟨b,1 + j,none⟩:=by
  unfold Addr.add;by_cases hj0:j = 0
  ·subst hj0; simp
  ·simp [hj0]
 have h':(W.drewN n).heap[b]? = some (Obj.cells (Value.int .i64 p :: xs.map (Value.int .u8)).toArray ty):=h;rw [e];simp only [World.cell?,h'];rw [show 1 + j = j + 1 by omega];simp [hx]
theorem qxz {W:World} {b:Nat} {p:Int} {xs:List Int} {ty:TypeId} (h:W.heap[b]? = some (Obj.cells (Value.int .i64 p :: xs.map (Value.int .u8)).toArray ty)) (n:Nat):(W.drewN n).cell? ⟨b,0,none⟩ = some (.int .i64 p):=by
 have h':(W.drewN n).heap[b]? = some (Obj.cells (Value.int .i64 p :: xs.map (Value.int .u8)).toArray ty):=h;simp only [World.cell?,h'];simp
set_option maxHeartbeats 2000000 in
set_option maxRecDepth 100000 in
theorem q5D (p q:Int) (xs ys:List Int) (hx:xs.length = 32) (hy:ys.length = 32) (W:World) :
  Calls Tryz.prog 81 #[.agg (Value.int .i64 p :: xs.map (Value.int .u8)).toArray,.agg (Value.int .i64 q :: ys.map (Value.int .u8)).toArray] W fun e w' =>
   e = .returned (.int .i64 (if compareBytes (Lib.bytesOf xs) (Lib.bytesOf ys) = 0 then RowKit.wrap64 (p - q) else compareBytes (Lib.bytesOf xs) (Lib.bytesOf ys)))/\∃ n os',w' = grow (W.drewN n) os':=by
 have hc:=fun (a b:Addr) (w:World) h1 h2=>qrd a b xs ys 32 32 w h1 h2
 rw [hx,hy] at hc;have c1:=q6o (q2j (W:=W) (p:=p) (q:=q) (xs:=xs) (ys:=ys));have c2:=q6o (q0P (W:=W) (p:=p) (q:=q) (xs:=xs) (ys:=ys));have c3:=qxz (q2j (W:=W) (p:=p) (q:=q) (xs:=xs) (ys:=ys));have c4:=qxz (q0P (W:=W) (p:=p) (q:=q) (xs:=xs) (ys:=ys));have hg:∀ n,∃ m os',(qpJ W p q xs ys).drewN n = grow (W.drewN m) os':=fun n=>⟨n,_,by rw [qpJ,alloc_eq_grow,alloc_eq_grow,grow_grow]; rfl⟩
 unfold qpJ at c1 c2 c3 c4 hg;generalize compareBytes (Lib.bytesOf xs) (Lib.bytesOf ys) = r at hc ⊢
 go_enter Tryz.func81,Tryz.ntmps81
 go_wp2
 go_quiet ((go_at_call 118; refine Calls.quiet_of_same (hc _ _ _ ?_ ?_); exact c1 _; exact c2 _))
 go_wp2
 all_goals go_ret
 all_goals refine ⟨?_,hg nq⟩
 all_goals simp_all
end Go.Proofs
namespace Go.Proofs
open Go Go.Shelf Go.RowKit Go.Lib Go.Sort
def qzv:Go.Shelf.Ren:=⟨fun | 6=>83 | 15=>120 | 14=>119 | 28=>148 | 29=>149 | 20=>140 | 21=>141 | 22=>142 | 23=>143 | 24=>144 | 25=>145 | 26=>146 | 27=>147 | 46=>172 | 47=>173 | 48=>174 | 49=>175 | 50=>176 | 57=>186 | n=>n,fun | 22=>156 | 24=>153 | 25=>155 | 3=>3 | 39=>187 | 0=>0 | 53=>131 | 55=>113 | 4=>4 | 46=>234 | 45=>233 | 50=>238 | 5=>5 | 9=>9 | 66=>258 | 70=>262 | 76=>271 | 77=>272 | n=>n,fun | n=>n⟩
theorem q2v:SlLaysF0.n6 Tryz.prog qzv:={
 mixed:=by kernel_rfl
 f6:=⟨Tryz.f83.name,by decide,Tryz.func83.trans (congrArg some (by kernel_rfl))⟩
 f14:=⟨Tryz.f119.name,by decide,Tryz.func119.trans (congrArg some (by kernel_rfl))⟩
 f15:=Tryz.func120.trans (congrArg some (by kernel_rfl))
 f20:=⟨Tryz.f140.name,by decide,Tryz.func140.trans (congrArg some (by kernel_rfl))⟩
 f21:=⟨Tryz.f141.name,by decide,Tryz.func141.trans (congrArg some (by kernel_rfl))⟩
 f22:=⟨Tryz.f142.name,by decide,Tryz.func142.trans (congrArg some (by kernel_rfl))⟩
 f23:=⟨Tryz.f143.name,by decide,Tryz.func143.trans (congrArg some (by kernel_rfl))⟩
 f24:=⟨Tryz.f144.name,by decide,Tryz.func144.trans (congrArg some (by kernel_rfl))⟩
 f25:=⟨Tryz.f145.name,by decide,Tryz.func145.trans (congrArg some (by kernel_rfl))⟩
 f26:=⟨Tryz.f146.name,by decide,Tryz.func146.trans (congrArg some (by kernel_rfl))⟩
 f27:=⟨Tryz.f147.name,by decide,Tryz.func147.trans (congrArg some (by kernel_rfl))⟩
 f28:=Tryz.func148.trans (congrArg some (by kernel_rfl))
 f29:=Tryz.func149.trans (congrArg some (by kernel_rfl))
 f46:=⟨Tryz.f172.name,by decide,Tryz.func172.trans (congrArg some (by kernel_rfl))⟩
 f47:=Tryz.func173.trans (congrArg some (by kernel_rfl))
 f48:=Tryz.func174.trans (congrArg some (by kernel_rfl))
 f49:=⟨Tryz.f175.name,by decide,Tryz.func175.trans (congrArg some (by kernel_rfl))⟩
 f50:=⟨Tryz.f176.name,by decide,Tryz.func176.trans (congrArg some (by kernel_rfl))⟩
 f57:=⟨Tryz.f186.name,by decide,Tryz.func186.trans (congrArg some (by kernel_rfl))⟩
 t0:=Tryz.underlying0
 a0:=Tryz.isAgg0
 z0:=Tryz.sizeOf0
 v0:=Tryz.zeroValue0
 t3:=Tryz.underlying3
 a3:=Tryz.isAgg3
 z3:=Tryz.sizeOf3
 v3:=Tryz.zeroValue3
 t4:=Tryz.underlying4
 a4:=Tryz.isAgg4
 z4:=Tryz.sizeOf4
 v4:=Tryz.zeroValue4
 t5:=Tryz.underlying5
 a5:=Tryz.isAgg5
 z5:=Tryz.sizeOf5
 v5:=Tryz.zeroValue5
 t9:=Tryz.underlying9
 a9:=Tryz.isAgg9
 z9:=Tryz.sizeOf9
 v9:=Tryz.zeroValue9
 t22:=Tryz.underlying156
 a22:=Tryz.isAgg156
 z22:=Tryz.sizeOf156
 v22:=Tryz.zeroValue156
 t25:=Tryz.underlying155
 a25:=Tryz.isAgg155
 z25:=Tryz.sizeOf155
 v25:=Tryz.zeroValue155
 t39:=Tryz.underlying187
 a39:=Tryz.isAgg187
 z39:=Tryz.sizeOf187
 v39:=Tryz.zeroValue187
 t45:=Tryz.underlying233
 a45:=Tryz.isAgg233
 z45:=Tryz.sizeOf233
 v45:=Tryz.zeroValue233
 t46:=Tryz.underlying234
 a46:=Tryz.isAgg234
 z46:=Tryz.sizeOf234
 v46:=Tryz.zeroValue234
 t50:=Tryz.underlying238
 a50:=Tryz.isAgg238
 z50:=Tryz.sizeOf238
 v50:=Tryz.zeroValue238
 t53:=Tryz.underlying131
 a53:=Tryz.isAgg131
 z53:=Tryz.sizeOf131
 v53:=Tryz.zeroValue131
 t55:=Tryz.underlying113
 a55:=Tryz.isAgg113
 z55:=Tryz.sizeOf113
 v55:=Tryz.zeroValue113
 t66:=Tryz.underlying258
 a66:=Tryz.isAgg258
 z66:=Tryz.sizeOf258
 v66:=Tryz.zeroValue258
 t70:=Tryz.underlying262
 a70:=Tryz.isAgg262
 z70:=Tryz.sizeOf262
 v70:=Tryz.zeroValue262
 t76:=Tryz.underlying271
 a76:=Tryz.isAgg271
 z76:=Tryz.sizeOf271
 v76:=Tryz.zeroValue271
 t77:=Tryz.underlying272
 a77:=Tryz.isAgg272
 z77:=Tryz.sizeOf272
 v77:=Tryz.zeroValue272 }
end Go.Proofs
namespace Go.Proofs
open Go Go.Eng Go.Shelf Go.RowKit Go.Lib Go.Sort
def qf0 (o:List Int) (p:Fin 16):List Value:=qI o (p.val:Int)
def cfK (o:List Int) (a b:Fin 16):Int:=qdy o (a.val:Int) (b.val:Int)
theorem ltK {o:List Int} {a b:Fin 16}:ltOf (cfK o) a b = qZ o (a.val:Int) (b.val:Int):=by unfold ltOf cfK; rw [qfN]
theorem qF1 (o:List Int):SWO (ltOf (cfK o)) where
 irrefl x:=by rw [ltK]; exact q4x
 trans x y z h1 h2:=by rw [ltK] at *; exact q6F h1 h2
 ntrans x y z h1 h2:=by
  rw [ltK] at *;have e1:(!qZ o (x.val:Int) (y.val:Int)) = true:=by rw [h1]; rfl
  have e2:(!qZ o (y.val:Int) (z.val:Int)) = true:=by rw [h2]; rfl
  rw [qkC] at e1 e2;have e3:(!qZ o (x.val:Int) (z.val:Int)) = true:=by
   rw [qkC];by_cases c1:qdy o (y.val:Int) (x.val:Int) = 0
   ·rw [<- qfG.1 c1]; exact e2
   ·by_cases c2:qdy o (z.val:Int) (y.val:Int) = 0
    ·rw [qfG.1 c2]; exact e1
    ·have:=qlU (o:=o) (a:=(z.val:Int)) (b:=(y.val:Int)) (c:=(x.val:Int)) (by omega) (by omega)
     omega
  simpa using e3
theorem qFq (o:List Int) (x y:Fin 16) (h1:ltOf (cfK o) x y = false) (h2:ltOf (cfK o) y x = false):x = y:=by
 rw [ltK] at h1 h2;by_cases h:x = y
 ·exact h
 ·have hv:(x.val:Int) ≠ (y.val:Int):=fun e=>h (Fin.ext (by omega))
  rcases qtV (o:=o) hv with e | e
  ·rw [e] at h1; cases h1
  ·rw [e] at h2; cases h2
theorem qD5 {o:List Int} {p:Int}:qv kRk (qI o p):=by
 refine ⟨by rw [qjw]; rfl,fun c k v hk hv=>?_⟩;cases c with
 | zero =>
  simp only [kRk,qI,jav,jaa] at hk hv;subst hk hv; rfl
 | succ c =>
  simp only [kRk,qI,ja6] at hk hv;rw [jbf] at hk;split at hk
  ·simp only [jaa] at hk
   rw [jaq] at hv;obtain ⟨z,_,rfl⟩:=jai.1 hv;subst hk; rfl
  ·cases hk
theorem q1l {o:List Int} {p:Int}:∀ v ∈ qI o p,v.oneCell' = true:=fun v hv=>by
 rcases ja9.1 hv with rfl | hv
 ·rfl
 ·obtain ⟨z,_,rfl⟩:=jbk.1 hv; rfl
def toFin (x:Int):Fin 16:=⟨x.toNat % 16,by omega⟩
theorem qtG {x:Int} (h:0 <= x/\x < 16):((toFin x).val:Int) = x:=by simp only [toFin]; omega
theorem q2s {M:List Int} {d:Array (Fin 16)} (h:d.toList.map (fun p=>(p.val:Int)) = M) {i:Nat} (hi:i < d.size):M[i]? = some ((d[i]!).val:Int):=by
 rw [<- h,jaq,jac (by simpa using hi),ja0];rw [jfx d i hi]; rfl
theorem qwl {o:List Int} {M:List Int} {d:Array (Fin 16)} (h:d.toList.map (fun p=>(p.val:Int)) = M) {i k:Nat} {row:List Value} {v:Value} (hr:(M.map (qI o))[i]? = some row) (hv:row[k]? = some v) :
  i < d.size/\k < 33/\(flatK (qf0 o) 33 d)[i * 33 + k]! = v:=by
 rw [jaq] at hr;obtain ⟨x,hx,rfl⟩:=jai.1 hr;have hi:i < d.size:=by
  have:=(jan.1 hx).1;rw [<- h] at this; simpa using this
 have hk:k < 33:=by
  have:=(jan.1 hv).1
  rwa [qjw] at this
 rw [q2s h hi,jaa] at hx;refine ⟨hi,hk,?_⟩;have hlt:i * 33 + k < d.size * 33:=by omega
 rw [get_flatK _ _ _ _ hlt,show (i * 33 + k) / 33 = i by omega,show (i * 33 + k) % 33 = k by omega];unfold qf0;rw [hx,List.getElem!_eq_getElem?_getD,hv]; rfl
theorem qzI {o:List Int} {L:List Int} {d:Array (Fin 16)} (h:d.toList.map (fun p=>(p.val:Int)) = L) {w:World} {b:Nat} {c:Array Value} {ty:TypeId} (hb:w.heap[b]? = some (.cells c ty (0,0))) (hr:qT c 0 kRk (L.map (qI o))):HoldsK (qf0 o) 33 w b 0 d:=by
 intro j hj;rw [size_flatK] at hj;have hi:j / 33 < d.size:=by omega
 have hrow:(L.map (qI o))[j / 33]? = some (qI o ((d[j / 33]!).val:Int)):=by rw [jaq,q2s h hi]; rfl
 have hkl:j % 33 < (qI o ((d[j / 33]!).val:Int)).length:=by rw [qjw]; omega
 have hv:=(hr _ _ hrow).2 (j % 33) _ (jac hkl);have hf:=(qwl h hrow (jac hkl)).2.2;rw [show j / 33 * 33 + j % 33 = j by omega] at hf;have hlen:kRk.length = 33:=rfl;rw [hlen,show 0 + j / 33 * 33 + j % 33 = j by omega] at hv;refine ⟨?_,by simp [World.frozen?,hb]⟩
 show w.cell? ⟨b,0 + j,none⟩ = some (id (flatK (qf0 o) 33 d)[j]!)
 simp only [World.cell?,hb,jbj,id];rw [hf,hv]; rfl
theorem q3a {o:List Int} {w:World} {b n:Nat} {d:Array (Fin 16)} {os:Array Obj} {c:Array Value} {ty:TypeId} (hb:w.heap[b]? = some (.cells c ty (0,0))) :
  (sortWorldK (qf0 o) 33 w b 0 n d os).heap[b]? = some (.cells (putCells id 0 (flatK (qf0 o) 33 d) c) ty (0,0)):=by
 have hlt:b < w.heap.size:=(jcm.1 hb).1;unfold sortWorldK grow putRowK putRow mapBlock;have e:(Go.Sort.ahead w n).heap = w.heap:=rfl;simp only [e];rw [jcw (by simpa using hlt),jb9,jah rfl,hb]; rfl
theorem qz1 {o:List Int} {w:World} {b x n:Nat} {d:Array (Fin 16)} {os:Array Obj} {X:Obj} (hx:w.heap[x]? = some X) (hne:x ≠ b):(sortWorldK (qf0 o) 33 w b 0 n d os).heap[x]? = some X:=by
 have hlt:x < w.heap.size:=(jcm.1 hx).1;unfold sortWorldK grow putRowK putRow mapBlock;have e:(Go.Sort.ahead w n).heap = w.heap:=rfl;simp only [e];rw [jcw (by simpa using hlt),jb9,jaf (Ne.symm hne),hx]
theorem q3B {o:List Int} {M:List Int} {d:Array (Fin 16)} (h:d.toList.map (fun p=>(p.val:Int)) = M) {c:Array Value} (hc:d.size * 33 <= c.size):qT (putCells id 0 (flatK (qf0 o) 33 d) c) 0 kRk (M.map (qI o)):=by
 intro i row hi;have hfit:qv kRk row:=by
  rw [jaq] at hi;obtain ⟨x,_,rfl⟩:=jai.1 hi;exact qD5
 refine ⟨hfit,fun k v hv=>?_⟩;obtain ⟨h1,h2,h3⟩:=qwl h hi hv;have hlen:kRk.length = 33:=rfl;rw [hlen,jbj];have hlt:i * 33 + k < d.size * 33:=by omega
 unfold putCells;rw [Array.getElem?_mapIdx,jcp (by omega),ja0,jah ⟨by omega,by rw [size_flatK]; omega⟩,jei,h3]; rfl
theorem qFm (o:List Int) (ho:qH o) (x y:Fin 16) (W:World):Calls Tryz.prog 81 #[.agg (qf0 o x).toArray,.agg (qf0 o y).toArray] W fun e w'=>e = .returned (.int .i64 (cfK o x y))/\∃ q os',w' = grow (W.drewN q) os':=by
 refine (q5D (x.val:Int) (y.val:Int) (qW o x.val) (qW o y.val) qln qln W).mono fun e w' h=>?_
 obtain ⟨rfl,h⟩:=h;refine ⟨?_,h⟩;rw [qnS qpd qpd];have hx:=x.isLt;have hy:=y.isLt;unfold cfK qdy;by_cases he:qW o (x.val:Int) = qW o (y.val:Int)
 ·rw [jah (qfJ.2 he),jah he]
  have:RowKit.wrap64 ((x.val:Int) - (y.val:Int)) = (x.val:Int) - (y.val:Int):=by unfold RowKit.wrap64; omega
  rw [this]
 ·rw [jaf (fun h=>he (qfJ.1 h)),jaf he]
theorem q6O (o:List Int) (ho:qH o) (b cap:Nat) (d:Array (Fin 16)) (w:World) (hH:HoldsK (qf0 o) 33 w b 0 d) (hb:b < w.heap.size) (hsz:d.size < 4611686018427387904) :
  Calls Tryz.prog 83 #[.slice (some ⟨b,0,none⟩) d.size cap,.func (.func 81) #[] #[]] w fun e w'=>e = .returned (.tuple #[])/\∃ n os,w' = sortWorldK (qf0 o) 33 w b 0 n (d.toList.mergeSort fun x y=>!(ltOf (cfK o)) y x).toArray os :=
 AnyQ.slices_SortFunc_total q2v 33 Tryz.isAgg153 Tryz.sizeOf153 (qf0 o) (fun _=>qjw) (fun _=>q1l) (cfK o) (qF1 o) 81 #[] b 0 cap d w (fun args w=>Tryz.call81 args w) (fun m os dk hs x y=>qFm o ho x y _) hH hb hsz (qFq o)
theorem q4Y (p:Option Addr) (cap:Nat) (fv:Value) (w:World):Calls Tryz.prog 83 #[.slice p 0 cap,fv] w fun e w'=>e = .returned (.tuple #[])/\w' = w:=AnyF.slices_SortFunc_none q2v p cap fv w
theorem q4b {o L:List Int} (hL:∀ x ∈ L,0 <= x/\x < 16):(((L.map toFin).mergeSort fun x y=>!(ltOf (cfK o)) y x).map fun p=>(p.val:Int)) = qa2 o L:=by
 have hv:(L.map toFin).map (fun p=>(p.val:Int)) = L:=by
  rw [jdr]
  conv=>rhs; rw [<- jem L]
  exact jbw fun x hx=>qtG (hL x hx)
 rw [List.map_mergeSort (s:=fun a b=>!qZ o b a) (fun a _ b _=>by rw [ltK]),hv]; rfl
theorem q0o {o o' L:List Int} (h:L.map (qI o) = L.map (qI o')):(qa2 o L).map (qI o) = (qa2 o' L).map (qI o'):=by
 have h1:∀ x ∈ L,qI o x = qI o' x:=List.map_inj_left.1 h;have hsc:∀ x ∈ L,qW o x = qW o' x:=fun x hx=>by
  have h2:=h1 x hx;simp only [qI,jcg,true_and] at h2;have h3:=congrArg (List.map qX) h2;rw [jdr,jdr] at h3;have e:(qX ∘ Value.int IntKind.u8) = id:=rfl
  rwa [e,jem,jem] at h3
 have hs:qa2 o L = qa2 o' L:=by
  have:=List.map_mergeSort (r:=fun a b=>!qZ o b a) (s:=fun a b=>!qZ o' b a) (f:=id) (l:=L) (fun a ha b hb=>by simp only [id,qZ,hsc a ha,hsc b hb])
  rwa [jem,jem] at this
 rw [<- hs];exact jbw fun x hx=>h1 x (q5E.1 hx)
theorem qBD:qga.ok Tryz.prog:=by
 refine ⟨fun args w=>Tryz.call83 args w,fun Z w hF hO hg hd hw hs hro hp=>?_⟩;obtain ⟨hl,hb1,o,L,ho,hD,hL⟩:=hp;obtain ⟨h1,h2,hdis,hu,harr,_⟩:=hs;have huniq:∀ {o' L':List Int},(Z 3).d = L'.map (qI o')->L' = L:=fun {o' L'} h=>by
  have e:=congrArg qt (h.symm.trans hD)
  rwa [qwy,qwy] at e
 have hlen:(Z 1).i = L.length:=by rw [hl,hD,ja7]
 -- the answer, once the rows are qcx
 have key:∀ (w':World) (hO':Hp),Hp.disj hF.h hO'->SH.den (Z.set 4 { d:=(qa2 o L).map (qI o) }) (qxF 0 4 2) hO'->(Hp.union hF.h hO').sub w'->hF.wi w' ->
   ∃ (ai:Nat) (al:Alt) (Z':Env),qga.alts[ai]? = some al/\Z'.good/\(∀ n,n < qga.nv->Z' n = Z n)/\(Ending.returned (.tuple #[]):Ending) = .returned (al.ret.den Z')/\al.post (Z'.upto (qga.nv + al.k))/\qs Z' hF al.heap w':=by
  intro w' hO' a1 a2 a3 a4;have hgood:({ d:=(qa2 o L).map (qI o) }:U).good:=⟨rfl,fun row hr v hv=>by
   obtain ⟨x,_,rfl⟩:=jbk.1 hr;exact q1l v hv⟩
  refine ⟨0,_,Z.set 4 { d:=(qa2 o L).map (qI o) },rfl,fun n=>?_,fun n hn=>Env.set_ne _ _ (by have:n < 4:=hn; omega),rfl,?_,hO',a1,⟨hO',Hp.emp,fun _=>.inr rfl,?_,a2,trivial⟩,a3,a4⟩
  ·by_cases hn:n = 4
   ·subst hn; rw [Env.set_same]; exact hgood
   ·rw [Env.set_ne _ _ hn]; exact hg n
  ·intro o' L' ho' hD' hL'
   have hD2:(Z 3).d = L'.map (qI o'):=hD';obtain rfl:=huniq hD2
   show (qa2 o L').map (qI o) = (qa2 o' L').map (qI o')
   exact q0o (hD.symm.trans hD2)
  ·funext b
   simp only [Hp.union,Hp.emp];cases hO' b <;> rfl
 rcases harr with ⟨hr,hd0,hc0⟩ | ⟨b,c,hr,hb,hcs,hcap,hrows⟩
 ·have hL0:L = []:=by
   have e:(Z 3).d = []:=hd0;rw [hD] at e;exact List.map_eq_nil_iff.1 e
  subst hL0;have hargs:(List.map (SV.den Z) qga.args).toArray = #[.slice none 0 (Z 2).i.toNat,.func (.func 81) #[] #[]]:=by
   have hr':(Z 0).r = none:=hr;simp [qga,rkS,SV.den,qd,T.den,O0.den,O3.den,hr',hlen,qn]
  rw [hargs];refine (q4Y none _ _ w).mono fun e w' h=>?_
  obtain ⟨rfl,rfl⟩:=h;refine key _ hO hd (.inl ⟨?_,?_,?_⟩) hw.1 hw.2
  ·rw [Env.set_ne _ _ (by decide)]; exact hr
  ·show ((Z.set 4 _) 4).d = []
   rw [Env.set_same]; simp [qa2]
  ·show ((Z.set 4 _) 2).i = 0
   rw [Env.set_ne _ _ (by decide)]; exact hc0
 ·have hbO:hO b = some (.cells c 153 (0,0)):=by rw [hu]; simp [Hp.union,hb]
  have hbw:w.heap[b]? = some (.cells c 153 (0,0)):=hw.1 _ _ (by
   unfold Hp.union;rcases hd b with h | h
   ·rw [h]; exact hbO
   ·rw [hbO] at h; cases h)
  have hblt:b < w.heap.size:=(jcm.1 hbw).1;have hrows':qT c 0 kRk (L.map (qI o)):=by
   have h:=hrows;rw [show (T.den Z (.var 3)).d = (Z 3).d from rfl,hD] at h;exact h
  have hcs':c.size = (Z 2).i.toNat * 33:=hcs;have hcap':((Z 3).d.length:Int) <= (Z 2).i:=hcap;rw [hD,ja7] at hcap'
  let d:Array (Fin 16):=(L.map toFin).toArray
  have hdv:d.toList.map (fun p=>(p.val:Int)) = L:=by
   simp only [d,jcj,jdr]
   conv=>rhs; rw [<- jem L]
   exact jbw fun x hx=>qtG (hL x hx)
  have hds:d.size = L.length:=by simp [d]
  have hH:=qzI hdv hbw hrows';have hargs:(List.map (SV.den Z) qga.args).toArray = #[.slice (some ⟨b,0,none⟩) d.size (Z 2).i.toNat,.func (.func 81) #[] #[]]:=by
   have hr':(Z 0).r = some ⟨b,0,none⟩:=hr;simp [qga,rkS,SV.den,qd,T.den,O0.den,O3.den,hr',hlen,qn,hds]
  rw [hargs];refine (q6O o ho b _ d w hH hblt (by omega)).mono fun e w' h=>?_
  obtain ⟨rfl,n,os,rfl⟩:=h;have hsv:((d.toList.mergeSort fun x y=>!(ltOf (cfK o)) y x).toArray:Array (Fin 16)).toList.map (fun p=>(p.val:Int)) = qa2 o L:=by
   simp only [d,jcj];exact q4b hL
  have hsl:((d.toList.mergeSort fun x y=>!(ltOf (cfK o)) y x).toArray:Array (Fin 16)).size * 33 <= c.size:=by
   rw [hcs',je2,List.length_mergeSort];simp only [jfj,hds];omega
  refine key _ (Hp.upd hO b (.cells (putCells id 0 (flatK (qf0 o) 33 (d.toList.mergeSort fun x y=>!(ltOf (cfK o)) y x).toArray) c) 153 (0,0))) (fun x=>?_) (.inr ⟨b,putCells id 0 (flatK (qf0 o) 33 (d.toList.mergeSort fun x y=>!(ltOf (cfK o)) y x).toArray) c,?_,?_,?_,?_,?_⟩) (fun x X hX=>?_) ?_
  ·by_cases hx:x = b
   ·subst hx
    rcases hd x with h | h
    ·exact .inl h
    ·rw [hbO] at h; cases h
   ·unfold Hp.upd; rw [jaf hx]; exact hd x
  ·rw [Env.set_ne _ _ (by decide)]; exact hr
  ·unfold Hp.upd; rw [jah rfl]
  ·show (putCells id 0 _ c).size = ((Z.set 4 _) 2).i.toNat * 33
   rw [Env.set_ne _ _ (by decide),<- hcs'];simp [putCells]
  ·show ((((Z.set 4 { d:=(qa2 o L).map (qI o) }) 4).d.length:Nat):Int) <= ((Z.set 4 _) 2).i
   rw [Env.set_same,Env.set_ne _ _ (by decide),ja7,qjN]; exact hcap'
  ·show qT _ 0 kRk ((Z.set 4 { d:=(qa2 o L).map (qI o) }) 4).d
   rw [Env.set_same];exact q3B hsv hsl
  ·by_cases hx:x = b
   ·subst hx
    have hFn:hF.h x = none:=by
     rcases hd x with h | h
     ·exact h
     ·rw [hbO] at h; cases h
    simp only [Hp.union,hFn,Hp.upd,jbz,jb2,jaa] at hX;rw [<- hX];exact q3a hbw
   ·have hX':Hp.union hF.h hO x = some X:=by
     simpa [Hp.union,Hp.upd,hx] using hX
    exact qz1 (hw.1 _ _ hX') hx
  ·exact hw.2
end Go.Proofs
namespace Go.Proofs
open Go Go.Eng
def qBg:Out:=(.br (.cmp .geq (tv 1) (tv 0))
 (.ret 0 (sg 2 [bt 2 (.cmp .lss (.arith .sub .u64 (tv 1) (tv 0)) (tl 12))]))
 (.ret 0 (sg 2 [bt 2 (.bl false)])))
theorem qDZ:qj Tryz.prog qvC [] [] qBg:=qg Tryz.func101 Tryz.call101 (by kernel_rfl)
def q2l:Out:=(.mop .new 0 (.fresh 2 (.ret 0 (sg 0 [bg 2 0,bv 1 1,bg 0 2]))) .top)
theorem q9O:qj Tryz.prog qk1 [] [] q2l:=qg Tryz.func61 Tryz.call61 (by kernel_rfl)
def q6Y:Out:=(.fresh 6 (.pre 0 (sg 0 [bv 0 2]) (tb (.fresh 7 (.post 0 0 (sg 0 [bv 0 2]) 7 (.br (.not (tv 7))
 (.ret 0 (sg 6 [bg 6 5]))
 (tb (.mop (.get (tv 4) [(.c2 (.xint 0) (tv 1) (tl 0)),(.c2 (.xint 1) (tv 1) (tl 0)),(.c2 (.xint 2) (tv 1) (tl 0)),(.c2 (.xint 3) (tv 1) (tl 0)),(.c2 (.xint 4) (tv 1) (tl 0)),(.c2 (.xint 5) (tv 1) (tl 0)),(.c2 (.xint 6) (tv 1) (tl 0)),(.c2 (.xint 7) (tv 1) (tl 0)),(.c2 (.xint 8) (tv 1) (tl 0)),(.c2 (.xint 9) (tv 1) (tl 0)),(.c2 (.xint 10) (tv 1) (tl 0)),(.c2 (.xint 11) (tv 1) (tl 0)),(.c2 (.xint 12) (tv 1) (tl 0)),(.c2 (.xint 13) (tv 1) (tl 0)),(.c2 (.xint 14) (tv 1) (tl 0)),(.c2 (.xint 15) (tv 1) (tl 0)),(.c2 (.xint 16) (tv 1) (tl 0)),(.c2 (.xint 17) (tv 1) (tl 0)),(.c2 (.xint 18) (tv 1) (tl 0)),(.c2 (.xint 19) (tv 1) (tl 0)),(.c2 (.xint 20) (tv 1) (tl 0)),(.c2 (.xint 21) (tv 1) (tl 0)),(.c2 (.xint 22) (tv 1) (tl 0)),(.c2 (.xint 23) (tv 1) (tl 0)),(.c2 (.xint 24) (tv 1) (tl 0)),(.c2 (.xint 25) (tv 1) (tl 0)),(.c2 (.xint 26) (tv 1) (tl 0)),(.c2 (.xint 27) (tv 1) (tl 0)),(.c2 (.xint 28) (tv 1) (tl 0)),(.c2 (.xint 29) (tv 1) (tl 0)),(.c2 (.xint 30) (tv 1) (tl 0)),(.c2 (.xint 31) (tv 1) (tl 0))] ⟨true,[.u8,.u8,.u8,.u8,.u8,.u8,.u8,.u8,.u8,.u8,.u8,.u8,.u8,.u8,.u8,.u8,.u8,.u8,.u8,.u8,.u8,.u8,.u8,.u8,.u8,.u8,.u8,.u8,.u8,.u8,.u8,.u8],false,[CK.any],[.vnilm]⟩ [5]) 8 (tb (.mop (.isnil (.vcell (tv 8) (tl 0) 0)) 9 (.br (tv 9)
 (tb (.mop .new 10 (tb (.pack [.abs 10 1003,.abs 5 1003] 12 (.mop (.put 12 (tv 4) [(.c2 (.xint 0) (tv 1) (tl 0)),(.c2 (.xint 1) (tv 1) (tl 0)),(.c2 (.xint 2) (tv 1) (tl 0)),(.c2 (.xint 3) (tv 1) (tl 0)),(.c2 (.xint 4) (tv 1) (tl 0)),(.c2 (.xint 5) (tv 1) (tl 0)),(.c2 (.xint 6) (tv 1) (tl 0)),(.c2 (.xint 7) (tv 1) (tl 0)),(.c2 (.xint 8) (tv 1) (tl 0)),(.c2 (.xint 9) (tv 1) (tl 0)),(.c2 (.xint 10) (tv 1) (tl 0)),(.c2 (.xint 11) (tv 1) (tl 0)),(.c2 (.xint 12) (tv 1) (tl 0)),(.c2 (.xint 13) (tv 1) (tl 0)),(.c2 (.xint 14) (tv 1) (tl 0)),(.c2 (.xint 15) (tv 1) (tl 0)),(.c2 (.xint 16) (tv 1) (tl 0)),(.c2 (.xint 17) (tv 1) (tl 0)),(.c2 (.xint 18) (tv 1) (tl 0)),(.c2 (.xint 19) (tv 1) (tl 0)),(.c2 (.xint 20) (tv 1) (tl 0)),(.c2 (.xint 21) (tv 1) (tl 0)),(.c2 (.xint 22) (tv 1) (tl 0)),(.c2 (.xint 23) (tv 1) (tl 0)),(.c2 (.xint 24) (tv 1) (tl 0)),(.c2 (.xint 25) (tv 1) (tl 0)),(.c2 (.xint 26) (tv 1) (tl 0)),(.c2 (.xint 27) (tv 1) (tl 0)),(.c2 (.xint 28) (tv 1) (tl 0)),(.c2 (.xint 29) (tv 1) (tl 0)),(.c2 (.xint 30) (tv 1) (tl 0)),(.c2 (.xint 31) (tv 1) (tl 0))] [(tv 11)] ⟨true,[.u8,.u8,.u8,.u8,.u8,.u8,.u8,.u8,.u8,.u8,.u8,.u8,.u8,.u8,.u8,.u8,.u8,.u8,.u8,.u8,.u8,.u8,.u8,.u8,.u8,.u8,.u8,.u8,.u8,.u8,.u8,.u8],false,[CK.any],[.vnilm]⟩) 13 (tb (.mop (.get (tv 4) [(.c2 (.xint 0) (tv 1) (tl 0)),(.c2 (.xint 1) (tv 1) (tl 0)),(.c2 (.xint 2) (tv 1) (tl 0)),(.c2 (.xint 3) (tv 1) (tl 0)),(.c2 (.xint 4) (tv 1) (tl 0)),(.c2 (.xint 5) (tv 1) (tl 0)),(.c2 (.xint 6) (tv 1) (tl 0)),(.c2 (.xint 7) (tv 1) (tl 0)),(.c2 (.xint 8) (tv 1) (tl 0)),(.c2 (.xint 9) (tv 1) (tl 0)),(.c2 (.xint 10) (tv 1) (tl 0)),(.c2 (.xint 11) (tv 1) (tl 0)),(.c2 (.xint 12) (tv 1) (tl 0)),(.c2 (.xint 13) (tv 1) (tl 0)),(.c2 (.xint 14) (tv 1) (tl 0)),(.c2 (.xint 15) (tv 1) (tl 0)),(.c2 (.xint 16) (tv 1) (tl 0)),(.c2 (.xint 17) (tv 1) (tl 0)),(.c2 (.xint 18) (tv 1) (tl 0)),(.c2 (.xint 19) (tv 1) (tl 0)),(.c2 (.xint 20) (tv 1) (tl 0)),(.c2 (.xint 21) (tv 1) (tl 0)),(.c2 (.xint 22) (tv 1) (tl 0)),(.c2 (.xint 23) (tv 1) (tl 0)),(.c2 (.xint 24) (tv 1) (tl 0)),(.c2 (.xint 25) (tv 1) (tl 0)),(.c2 (.xint 26) (tv 1) (tl 0)),(.c2 (.xint 27) (tv 1) (tl 0)),(.c2 (.xint 28) (tv 1) (tl 0)),(.c2 (.xint 29) (tv 1) (tl 0)),(.c2 (.xint 30) (tv 1) (tl 0)),(.c2 (.xint 31) (tv 1) (tl 0))] ⟨true,[.u8,.u8,.u8,.u8,.u8,.u8,.u8,.u8,.u8,.u8,.u8,.u8,.u8,.u8,.u8,.u8,.u8,.u8,.u8,.u8,.u8,.u8,.u8,.u8,.u8,.u8,.u8,.u8,.u8,.u8,.u8,.u8],false,[CK.any],[.vnilm]⟩ [13]) 14 (tb (.mop (.put 13 (.vcell (tv 14) (tl 0) 0) [(tv 2)] [(.vint .u64 (tv 3))] ⟨false,[.i64],false,[CK.int .u64],[(.vint .u64 (tl 0))]⟩) 15 (.ret 0 (sg 6 [bg 6 15])) .top)) .top)) .top))) .top))
 (tb (.mop (.get (tv 4) [(.c2 (.xint 0) (tv 1) (tl 0)),(.c2 (.xint 1) (tv 1) (tl 0)),(.c2 (.xint 2) (tv 1) (tl 0)),(.c2 (.xint 3) (tv 1) (tl 0)),(.c2 (.xint 4) (tv 1) (tl 0)),(.c2 (.xint 5) (tv 1) (tl 0)),(.c2 (.xint 6) (tv 1) (tl 0)),(.c2 (.xint 7) (tv 1) (tl 0)),(.c2 (.xint 8) (tv 1) (tl 0)),(.c2 (.xint 9) (tv 1) (tl 0)),(.c2 (.xint 10) (tv 1) (tl 0)),(.c2 (.xint 11) (tv 1) (tl 0)),(.c2 (.xint 12) (tv 1) (tl 0)),(.c2 (.xint 13) (tv 1) (tl 0)),(.c2 (.xint 14) (tv 1) (tl 0)),(.c2 (.xint 15) (tv 1) (tl 0)),(.c2 (.xint 16) (tv 1) (tl 0)),(.c2 (.xint 17) (tv 1) (tl 0)),(.c2 (.xint 18) (tv 1) (tl 0)),(.c2 (.xint 19) (tv 1) (tl 0)),(.c2 (.xint 20) (tv 1) (tl 0)),(.c2 (.xint 21) (tv 1) (tl 0)),(.c2 (.xint 22) (tv 1) (tl 0)),(.c2 (.xint 23) (tv 1) (tl 0)),(.c2 (.xint 24) (tv 1) (tl 0)),(.c2 (.xint 25) (tv 1) (tl 0)),(.c2 (.xint 26) (tv 1) (tl 0)),(.c2 (.xint 27) (tv 1) (tl 0)),(.c2 (.xint 28) (tv 1) (tl 0)),(.c2 (.xint 29) (tv 1) (tl 0)),(.c2 (.xint 30) (tv 1) (tl 0)),(.c2 (.xint 31) (tv 1) (tl 0))] ⟨true,[.u8,.u8,.u8,.u8,.u8,.u8,.u8,.u8,.u8,.u8,.u8,.u8,.u8,.u8,.u8,.u8,.u8,.u8,.u8,.u8,.u8,.u8,.u8,.u8,.u8,.u8,.u8,.u8,.u8,.u8,.u8,.u8],false,[CK.any],[.vnilm]⟩ [5]) 10 (tb (.mop (.put 5 (.vcell (tv 10) (tl 0) 0) [(tv 2)] [(.vint .u64 (tv 3))] ⟨false,[.i64],false,[CK.int .u64],[(.vint .u64 (tl 0))]⟩) 11 (.ret 0 (sg 6 [bg 6 11])) .top)) .top))) .top)) .top))))))))
theorem qCa:qj Tryz.prog qo1 [qfW] [] q6Y:=qg Tryz.func62 Tryz.call62 (by kernel_rfl)
@[simp] def qke:Out:=.back 0 57 (sg 1000 [bg 1007 65,bv 1004 61,bv 1002 59,bv 1006 63,bt 1005 (.bl false),bg 1003 60,bg 1001 58,bg 1000 57])
def qug:Out:=(.fresh 18 (.pre 0 (sg 0 [bv 4 15,bv 3 14,bv 2 13,bv 1 12,bg 0 11]) (tb (fr 19 16 (.post 0 0 (sg 0 [bv 4 15,bv 3 14,bv 2 13,bv 1 12,bg 0 11]) 19 (.pre 0 (sg 0 [bv 4 10,bv 3 9,bv 2 8,bv 1 7,bg 0 6]) (tb (fr 35 16 (.post 0 0 (sg 0 [bv 4 10,bv 3 9,bv 2 8,bv 1 7,bg 0 6]) 35 (fr 51 2 (tb (.mop (.get (tv 4) [(.c2 (.xint 0) (tv 1) (tl 0)),(.c2 (.xint 1) (tv 1) (tl 0)),(.c2 (.xint 2) (tv 1) (tl 0)),(.c2 (.xint 3) (tv 1) (tl 0)),(.c2 (.xint 4) (tv 1) (tl 0)),(.c2 (.xint 5) (tv 1) (tl 0)),(.c2 (.xint 6) (tv 1) (tl 0)),(.c2 (.xint 7) (tv 1) (tl 0)),(.c2 (.xint 8) (tv 1) (tl 0)),(.c2 (.xint 9) (tv 1) (tl 0)),(.c2 (.xint 10) (tv 1) (tl 0)),(.c2 (.xint 11) (tv 1) (tl 0)),(.c2 (.xint 12) (tv 1) (tl 0)),(.c2 (.xint 13) (tv 1) (tl 0)),(.c2 (.xint 14) (tv 1) (tl 0)),(.c2 (.xint 15) (tv 1) (tl 0)),(.c2 (.xint 16) (tv 1) (tl 0)),(.c2 (.xint 17) (tv 1) (tl 0)),(.c2 (.xint 18) (tv 1) (tl 0)),(.c2 (.xint 19) (tv 1) (tl 0)),(.c2 (.xint 20) (tv 1) (tl 0)),(.c2 (.xint 21) (tv 1) (tl 0)),(.c2 (.xint 22) (tv 1) (tl 0)),(.c2 (.xint 23) (tv 1) (tl 0)),(.c2 (.xint 24) (tv 1) (tl 0)),(.c2 (.xint 25) (tv 1) (tl 0)),(.c2 (.xint 26) (tv 1) (tl 0)),(.c2 (.xint 27) (tv 1) (tl 0)),(.c2 (.xint 28) (tv 1) (tl 0)),(.c2 (.xint 29) (tv 1) (tl 0)),(.c2 (.xint 30) (tv 1) (tl 0)),(.c2 (.xint 31) (tv 1) (tl 0))] ⟨true,[.u8,.u8,.u8,.u8,.u8,.u8,.u8,.u8,.u8,.u8,.u8,.u8,.u8,.u8,.u8,.u8,.u8,.u8,.u8,.u8,.u8,.u8,.u8,.u8,.u8,.u8,.u8,.u8,.u8,.u8,.u8,.u8],false,[CK.any],[.vnilm]⟩ [5]) 53 (tb (.mop (.range (.vcell (tv 53) (tl 0) 0) ⟨false,[.i64],false,[CK.int .u64],[(.vint .u64 (tl 0))]⟩ [5]) 54 (.pack [.abs 54 1003,.abs 5 1003] 56 (.inv 0 57 (sg 1000 [bg 1007 56,bt 1004 (.rcons (.vbool (tv 35)) (.rcons (.vbool (tv 36)) (.rcons (.vbool (tv 37)) (.rcons (.vbool (tv 38)) (.rcons (.vbool (tv 39)) (.rcons (.vbool (tv 40)) (.rcons (.vbool (tv 41)) (.rcons (.vbool (tv 42)) (.rcons (.vbool (tv 43)) (.rcons (.vbool (tv 44)) (.rcons (.vbool (tv 45)) (.rcons (.vbool (tv 46)) (.rcons (.vbool (tv 47)) (.rcons (.vbool (tv 48)) (.rcons (.vbool (tv 49)) (.rcons (.vbool (tv 50)) .rnil)))))))))))))))),bt 1002 (.rcons (.vbool (tv 19)) (.rcons (.vbool (tv 20)) (.rcons (.vbool (tv 21)) (.rcons (.vbool (tv 22)) (.rcons (.vbool (tv 23)) (.rcons (.vbool (tv 24)) (.rcons (.vbool (tv 25)) (.rcons (.vbool (tv 26)) (.rcons (.vbool (tv 27)) (.rcons (.vbool (tv 28)) (.rcons (.vbool (tv 29)) (.rcons (.vbool (tv 30)) (.rcons (.vbool (tv 31)) (.rcons (.vbool (tv 32)) (.rcons (.vbool (tv 33)) (.rcons (.vbool (tv 34)) .rnil)))))))))))))))),bv 1006 55,bt 1005 (.bl false),bg 1003 52,bg 1001 51,bg 1000 18]) (fr 57 8 (.hyp 0 57 (.mop (.next 64 (tv 63) ⟨false,[.i64],false,[CK.int .u64],[(.vint .u64 (tl 0))]⟩ [64]) 65 (.mop (.entry 65 (tv 63) ⟨false,[.i64],false,[CK.int .u64],[(.vint .u64 (tl 0))]⟩ [65]) 68 (.br (tv 62)
 (.back 0 57 (sg 1000 [bg 1007 65,bv 1004 61,bv 1002 59,bv 1006 63,bt 1005 (.bl true),bg 1003 60,bg 1001 58,bg 1000 57]))
 (.pre 1 (sg 0 [bv 1 3,bt 0 (.c2 (.xint 0) (tv 69) (tl 0))]) (tb (.fresh 70 (.post 1 0 (sg 0 [bv 1 3,bt 0 (.c2 (.xint 0) (tv 69) (tl 0))]) 70 (.br (tv 70)
 (tn (tl 0) (.c2 (.xint 0) (tv 68) (tl 0)) (ts (.c2 (.xint 0) (tv 68) (tl 0)) (tl 16) (ts (tl 0) (.dlen (tv 61)) (.br (.c2 (.xbool 0) (tv 61) (.c2 (.xint 0) (tv 68) (tl 0)))
 (ts (tl 0) (.dlen (tv 59)) (.br (.not (.c2 (.xbool 0) (tv 59) (.c2 (.xint 0) (tv 68) (tl 0))))
 (.pre 2 (sg 0 [bv 4 17,bv 2 2,bt 1 (.c2 (.xint 0) (tv 68) (tl 0)),bt 0 (r8 1),bg 3 16]) (tb (.fresh 71 (.post 2 0 (sg 0 [bv 4 17,bv 2 2,bt 1 (.c2 (.xint 0) (tv 68) (tl 0)),bt 0 (r8 1),bg 3 16]) 71 (.back 0 57 (sg 1000 [bg 1007 65,bv 1004 61,bv 1002 59,bv 1006 63,bv 1005 71,bg 1003 60,bg 1001 58,bg 1000 57]))))))
 qke))
 qke))))
 qke)))))) .top) (.ret 0 (sg 18 [bg 19 64,bv 18 62]))))))) .top)) .top))))))))))))
theorem q5a:qj Tryz.prog qhd [qkq,qvC,qeJ] [qxl] qug:=qg Tryz.func68 Tryz.call68 (by kernel_rfl)
theorem qut:∀ {ks:List IntKind} {a b:List Int},a.length = ks.length->b.length = ks.length->qab ks a = qab ks b->a = b
 | [],[],[],_,_,_=>rfl
 | k :: ks,x :: a,y :: b,h1,h2,h=>by
  simp only [qab,List.zipWith_cons_cons,jcg,Value.int.injEq,true_and] at h;rw [h.1,qut (ks:=ks) (by simpa using h1) (by simpa using h2) h.2]
 | [],_ :: _,_,h,_,_=>by simp at h
 | [],_,_ :: _,_,h,_=>by simp at h
 | _ :: _,[],_,h,_,_=>by simp at h
 | _ :: _,_ :: _,[],_,h,_=>by simp at h
theorem q1N {g:Bool} {a b:List Value} {n:Nat} (ha:a.length = n) (hb:b.length = n) (hg:g = true∨n = 1) (h:mkV g a = mkV g b):a = b:=by
 cases g with
 | true =>
  simp only [mkV,Value.agg.injEq] at h;simpa using congrArg Array.toList h
 | false =>
  obtain rfl:=hg.resolve_left (by simp)
  match a,b,ha,hb with
  | [x],[y],_,_ =>
   simp only [mkV,jbm] at h;rw [h]
theorem qxI {mt:MT} (hk:mt.kagg = true∨mt.kks.length = 1) (hv:mt.vagg = true∨mt.vpat.length = 1):∀ {l l':List ME},(∀ x ∈ l,x.k.length = mt.kks.length/\qv mt.vpat x.v)->(∀ x ∈ l',x.k.length = mt.kks.length/\qv mt.vpat x.v)->l.map mt.ent = l'.map mt.ent->l = l'
 | [],[],_,_,_=>rfl
 | [],_ :: _,_,_,h=>by simp at h
 | _ :: _,[],_,_,h=>by simp at h
 | x :: l,y :: l',h1,h2,h=>by
  simp only [ja5,jcg] at h;obtain ⟨e1,e2⟩:=h;have hx:=h1 x (jae ..);have hy:=h2 y (jae ..);simp only [MT.ent,MapEntry.mk.injEq] at e1;obtain ⟨a1,a2,a3⟩:=e1;have lk:∀ {k:List Int},k.length = mt.kks.length->(qab mt.kks k).length = mt.kks.length:=fun h=>by simp [qab,h]
  have b1:=qut hx.1 hy.1 (q1N (lk hx.1) (lk hy.1) hk a1);have b2:=q1N hx.2.1 hy.2.1 hv a2;obtain ⟨xk,xv,xb⟩:=x;obtain ⟨yk,yv,yb⟩:=y;simp only at b1 b2 a3;subst b1 b2 a3;rw [qxI hk hv (fun z hz=>h1 z (jad _ hz)) (fun z hz=>h2 z (jad _ hz)) e2]
theorem qt4 {h:Hp} {b:Nat} {mt:MT} {l l':List ME} {c c':Nat} (hk:mt.kagg = true∨mt.kks.length = 1) (hv:mt.vagg = true∨mt.vpat.length = 1) (h1:qaX h b mt l c) (h2:qaX h b mt l' c'):l = l'/\c = c':=by
 have e:=h1.1.symm.trans h2.1;simp only [MT.obj,jaa,Obj.map.injEq] at e;exact ⟨qxI hk hv (fun x hx=>⟨(h1.2.1 x hx).1,(h1.2.1 x hx).2.1⟩) (fun x hx=>⟨(h2.2.1 x hx).1,(h2.2.1 x hx).2.1⟩) (by simpa using congrArg Array.toList e.1),e.2⟩
theorem qEJ {h:Hp} {b:Nat} {l l':List ME} {c c':Nat} (h1:qaX h b mtO l c) (h2:qaX h b mtO l' c'):l = l'/\c = c':=qt4 (.inl rfl) (.inr rfl) h1 h2
theorem qB1 {h:Hp} {b:Nat} {l l':List ME} {c c':Nat} (h1:qaX h b mtI l c) (h2:qaX h b mtI l' c'):l = l'/\c = c':=qt4 (.inr rfl) (.inr rfl) h1 h2
theorem qi3 {h:Hp} {v:Value} {cl cl':Cl} (h1:qad h v cl) (h2:qad h v cl'):cl' = cl:=by
 obtain ⟨b,l,c,rfl,hm,hi,_,hn,_⟩:=h1;obtain ⟨b2,l2,c2,e,hm2,hi2,_,hn2,_⟩:=h2;simp only [Value.map.injEq,jaa] at e;subst e;obtain ⟨rfl,rfl⟩:=qEJ hm hm2
 funext o i
 by_cases ho:∃ x ∈ l,x.k = o
 ·obtain ⟨x,hx,rfl⟩:=ho
  obtain ⟨b',m,c',e1,_,e2,e3⟩:=hi x hx;obtain ⟨b2',m2,c2',e1',_,e2',e3'⟩:=hi2 x hx;rw [e1] at e1';simp only [jcg,Value.map.injEq,jaa,and_true] at e1';subst e1';obtain ⟨rfl,_⟩:=qB1 e2 e2';rw [e3,e3']
 ·have:∀ x ∈ l,x.k ≠ o:=fun x hx he=>ho ⟨x,hx,he⟩
  rw [hn o i this,hn2 o i this]
theorem qh7 {h h':Hp} {b:Nat} {mt:MT} {l:List ME} {c:Nat} (hm:qaX h b mt l c) (hl:Hp.le h h'):qaX h' b mt l c:=⟨hl _ _ hm.1,hm.2⟩
theorem q1q {h h':Hp} {v:Value} {cl:Cl} (hc:qad h v cl) (hl:Hp.le h h'):qad h' v cl:=by
 obtain ⟨b,l,c,e,hm,hi,hr⟩:=hc;exact ⟨b,l,c,e,qh7 hm hl,fun x hx=>by
  obtain ⟨b',m,c',e1,e2,e3,e4⟩:=hi x hx;exact ⟨b',m,c',e1,e2,qh7 e3 hl,e4⟩,hr⟩
theorem qzb {l:List ME} {k:List Int}:qaM l k = true↔∃ x ∈ l,x.k = k:=by
 unfold qaM;rw [jd2];exact ⟨fun ⟨x,h1,h2⟩=>⟨x,h1,by simpa using h2⟩,fun ⟨x,h1,h2⟩=>⟨x,h1,by simpa using h2⟩⟩
theorem qlC {l:List ME} {k:List Int} (h:qaM l k = false):∀ x ∈ l,x.k ≠ k:=fun x hx he=>by
 rw [qzb.2 ⟨x,hx,he⟩] at h; cases h
theorem qza {m:List ME} {i i' t:Int} {c:Nat}:qdS (qbg m [i] [.int .u64 t] c).1 i' = if i' = i then some t else qdS m i':=by
 unfold qbg;by_cases h:qaM m [i] = true
 ·rw [jah h]
  unfold qdS;simp only;rw [List.find?_map];have hp:((fun x:ME=>x.k == [i']) ∘ fun x:ME=>if x.k = [i] then { x with v:=[.int .u64 t] } else x) = fun x:ME=>x.k == [i']:=by
   funext x
   simp only [Function.comp];split <;> rfl
  rw [hp,Option.map_map];by_cases hi:i' = i
  ·subst hi
   rw [jah rfl];obtain ⟨x,hx,hk⟩:=qzb.1 h;cases hf:m.find? fun x=>x.k == [i'] with
   | none =>
    rw [jd9] at hf;exact absurd (by simpa using hk) (hf x hx)
   | some y =>
    have hy:=List.find?_some hf;simp only [beq_iff_eq] at hy;simp [hy,qX]
  ·rw [jaf hi]
   cases hf:m.find? fun x=>x.k == [i'] with
   | none=>rfl
   | some y =>
    have hy:=List.find?_some hf;simp only [beq_iff_eq] at hy;have:y.k ≠ [i]:=by rw [hy]; simp [hi]
    simp [this]
 ·rw [jaf h]
  have hn:=qlC (by simpa using h);unfold qdS;simp only;rw [List.find?_append];by_cases hi:i' = i
  ·subst hi
   rw [jah rfl];have:m.find? (fun x=>x.k == [i']) = none:=by
    rw [jd9];intro x hx hk;exact hn x hx (by simpa using hk)
   rw [this]; simp [qX]
  ·rw [jaf hi]
   have:([⟨[i],[.int .u64 t],c⟩]:List ME).find? (fun x=>x.k == [i']) = none:=by
    simp [Ne.symm hi]
   rw [this,jf5]
theorem qjT {i t:Int}:([i]:List Int).length = mtI.kks.length/\qv mtI.vpat [.int .u64 t]:=⟨rfl,rfl,fun c k v hk hv=>by
 cases c with
 | zero=>simp only [mtI,jav,jaa] at hk hv; subst hk hv; rfl
 | succ c=>simp [mtI] at hk⟩
theorem qyf {h:Hp} {b x:Nat} {X:Obj} (hne:x ≠ b):Hp.upd h b X x = h x:=by unfold Hp.upd; rw [jaf hne]
theorem qjp {h:Hp} {b:Nat} {X:Obj}:Hp.upd h b X b = some X:=by unfold Hp.upd; rw [jah rfl]
theorem qdq {h:Hp} {b x:Nat} {X:Obj} {mt:MT} {l:List ME} {c:Nat} (hne:x ≠ b) (hm:qaX h x mt l c):qaX (Hp.upd h b X) x mt l c:=⟨by rw [qyf hne]; exact hm.1,hm.2⟩
theorem qAy {h:Hp} {b b' c c':Nat} {l m:List ME} {x:ME} {cl:Cl} {i t:Int} (hm:qaX h b mtO l c) (hi:∀ x ∈ l,∃ b' m c',x.v = [.map (some b')]/\b' ≠ b/\qaX h b' mtI m c'/\∀ i,cl x.k i = qdS m i) (hd:∀ x ∈ l,∀ y ∈ l,x.k ≠ y.k->x.v ≠ y.v) (hn:∀ o i,(∀ x ∈ l,x.k ≠ o)->cl o i = none)
  (hr:∀ o i t,cl o i = some t->0 <= i/\i < 16/\0 <= t/\t < 18446744073709551616) (hx:x ∈ l) (hb:x.v = [.map (some b')]) (hI:qaX h b' mtI m c') (i0:0 <= i) (i1:i < 16) (t0:0 <= t) (t1:t < 18446744073709551616) :
  qad (Hp.upd h b' (mtI.obj (qbg m [i] [.int .u64 t] c'))) (.map (some b)) (qeA cl x.k i t):=by
 obtain ⟨b2,m2,c2,e1,e2,e3,e4⟩:=hi x hx;rw [hb] at e1;simp only [jcg,Value.map.injEq,jaa,and_true] at e1;subst e1;obtain ⟨rfl,rfl⟩:=qB1 hI e3;have hF:∀ o' i',qeA cl x.k i t o' i' = if o' = x.k/\i' = i then some t else cl o' i':=fun o' i'=>by unfold qeA; rw [jah ⟨i0,i1⟩]
 refine ⟨b,l,c,rfl,qdq (Ne.symm e2) hm,fun y hy=>?_,hd,fun o' i' ho=>?_,fun o' i' t' ht=>?_⟩
 ·by_cases hk:y.k = x.k
  ·have hvv:y.v = [.map (some b')]:=by
    obtain ⟨jx,hjx⟩:=jbi hx;obtain ⟨jy,hjy⟩:=jbi hy;have hj:=qiF hm.2 hjy hjx hk;rw [hj,hjx] at hjy;rw [<- jax hjy]; exact hb
   refine ⟨b',(qbg m [i] [.int .u64 t] c').1,(qbg m [i] [.int .u64 t] c').2,hvv,e2,⟨qjp,qkD hI.2 (qjT (i:=i) (t:=t)).1 (qjT (i:=i) (t:=t)).2⟩,fun i'=>?_⟩;rw [hF,qza,hk,e4];by_cases hii:i' = i
   ·simp [hii]
   ·simp [hii]
  ·obtain ⟨b3,m3,c3,f1,f2,f3,f4⟩:=hi y hy
   have hne:b3 ≠ b':=fun he=>hd y hy x hx hk (by rw [f1,hb,he])
   refine ⟨b3,m3,c3,f1,f2,qdq hne f3,fun i'=>?_⟩;rw [hF,jaf (fun h=>hk h.1),f4]
 ·rw [hF,jaf (fun h=>ho x hx h.1.symm),hn o' i' ho]
 ·rw [hF] at ht
  split at ht
  ·rename_i he
   obtain rfl:=jax ht;exact ⟨by omega,by omega,t0,t1⟩
  ·exact hr _ _ _ ht
theorem q9N {h:Hp} {b b' c:Nat} {l:List ME} {cl:Cl} {o:List Int} {i t:Int} (hm:qaX h b mtO l c) (hi:∀ x ∈ l,∃ b' m c',x.v = [.map (some b')]/\b' ≠ b/\qaX h b' mtI m c'/\∀ i,cl x.k i = qdS m i) (hd:∀ x ∈ l,∀ y ∈ l,x.k ≠ y.k->x.v ≠ y.v) (hn:∀ o i,(∀ x ∈ l,x.k ≠ o)->cl o i = none)
  (hr:∀ o i t,cl o i = some t->0 <= i/\i < 16/\0 <= t/\t < 18446744073709551616) (ho:qaM l o = false) (hol:o.length = 32) (hbb:b' ≠ b) (hfree:∀ x ∈ l,x.v ≠ [.map (some b')]) (i0:0 <= i) (i1:i < 16) (t0:0 <= t) (t1:t < 18446744073709551616) :
  qad (Hp.upd (Hp.upd h b (mtO.obj (qbg l o [.map (some b')] c))) b' (mtI.obj (qbg [] [i] [.int .u64 t] 0))) (.map (some b)) (qeA cl o i t):=by
 have hF:∀ o' i',qeA cl o i t o' i' = if o' = o/\i' = i then some t else cl o' i':=fun o' i'=>by unfold qeA; rw [jah ⟨i0,i1⟩]
 have hput:qbg l o [.map (some b')] c = (l ++ [⟨o,[.map (some b')],c⟩],c + 1):=by unfold qbg; rw [jaf (by rw [ho]; simp)]
 have hfit:qv mtO.vpat [.map (some b')]:=⟨rfl,fun c k v hk hv=>by
  cases c with
  | zero=>simp only [mtO,jav,jaa] at hk hv; subst hk hv; rfl
  | succ c=>simp [mtO] at hk⟩
 have hno:=qlC ho;refine ⟨b,(qbg l o [.map (some b')] c).1,(qbg l o [.map (some b')] c).2,rfl,⟨by rw [qyf (Ne.symm hbb)]; exact qjp,qkD hm.2 (by rw [hol]; rfl) hfit⟩,fun y hy=>?_,fun x hx y hy hk=>?_,fun o' i' ho'=>?_,fun o' i' t' ht=>?_⟩
 ·rw [hput] at hy
  rcases jaw.1 hy with hy | hy
  ·obtain ⟨b3,m3,c3,f1,f2,f3,f4⟩:=hi y hy
   have hne:b3 ≠ b':=fun he=>hfree y hy (by rw [f1,he])
   refine ⟨b3,m3,c3,f1,f2,qdq hne (qdq f2 f3),fun i'=>?_⟩;rw [hF,jaf (fun h=>hno y hy h.1),f4]
  ·rw [jak] at hy
   subst hy;refine ⟨b',(qbg [] [i] [.int .u64 t] 0).1,(qbg [] [i] [.int .u64 t] 0).2,rfl,hbb,⟨qjp,qkD (c:=0) (l:=[]) ⟨fun x hx=>(by cases hx),List.Pairwise.nil⟩ (qjT (i:=i) (t:=t)).1 (qjT (i:=i) (t:=t)).2⟩,fun i'=>?_⟩;rw [hF,qza,hn o i' hno];by_cases hii:i' = i
   ·simp [hii]
   ·simp [hii,qdS]
 ·rw [hput] at hx hy
  rcases jaw.1 hx with hx | hx <;> rcases jaw.1 hy with hy | hy
  ·exact hd x hx y hy hk
  ·rw [jak] at hy; subst hy; exact hfree x hx
  ·rw [jak] at hx; subst hx; exact (hfree y hy).symm
  ·rw [jak] at hx hy; subst hx hy; exact absurd rfl hk
 ·rw [hput] at ho'
  rw [hF,jaf (fun h=>ho' _ (jcs _ (jak.2 rfl)) h.1.symm),hn o' i' fun x hx=>ho' x (jb3 _ hx)]
 ·rw [hF] at ht
  split at ht
  ·obtain rfl:=jax ht
   rename_i he;exact ⟨by omega,by omega,t0,t1⟩
  ·exact hr _ _ _ ht
theorem q11 {m:List ME} {c:Nat} (hM:MWf mtI m c) {e:ME} (he:e ∈ m):∃ z,e.k = [z]:=qlg (hM.1 e he).1
theorem q52 {m:List ME} {i t:Int} (h:qdS m i = some t):∃ e ∈ m,e.k = [i]/\qX (e.v.headD .nilFunc) = t:=by
 unfold qdS at h;obtain ⟨e,he,rfl⟩:=jai.1 h;exact ⟨e,jeu he,by simpa using List.find?_some he,rfl⟩
theorem qyW {m:List ME} {c:Nat} (hM:MWf mtI m c) {e:ME} (he:e ∈ m) {z:Int} (hk:e.k = [z]):qdS m z = some (qX (e.v.headD .nilFunc)):=by
 unfold qdS;cases hf:m.find? fun x=>x.k == [z] with
 | none =>
  rw [jd9] at hf;exact absurd (by simpa using hk) (hf e he)
 | some y =>
  have hy:y.k = [z]:=by simpa using List.find?_some hf
  obtain ⟨j,hj⟩:=jbi he;obtain ⟨j',hj'⟩:=jbi (jeu hf);have hjj:=qiF hM hj hj' (hk.trans hy.symm);rw [hjj,hj'] at hj;rw [jax hj]; rfl
theorem qxp {m:List ME} {c:Nat} {cl:Cl} {o:List Int} {s t:Int} {L Hs:List Int} (hM:MWf mtI m c) (he:∀ i,cl o i = qdS m i) (hr:∀ o i t,cl o i = some t->0 <= i/\i < 16/\0 <= t/\t < 18446744073709551616):m.any (qkf o s t L Hs) = qej cl o s t L Hs:=by
 apply Bool.eq_iff_iff.2;unfold qej;rw [jd2,jd2];constructor
 ·rintro ⟨e,hem,hb⟩
  obtain ⟨z,hz⟩:=q11 hM hem;have hg:=qyW hM hem hz;have hc:=(he z).trans hg;obtain ⟨z0,z1,_⟩:=hr _ _ _ hc;refine ⟨z.toNat,jb1.2 (by omega),?_⟩;rw [jay z0,hc];unfold qkf at hb;rw [hz] at hb;exact hb
 ·rintro ⟨i,hi,hb⟩
  cases hc:cl o i with
  | none=>rw [hc] at hb; cases hb
  | some tt =>
   rw [hc] at hb;obtain ⟨e,hem,hk,hv⟩:=q52 ((he i).symm.trans hc);refine ⟨e,hem,?_⟩;unfold qkf;rw [hk,hv];exact hb
theorem qzz {h:Hp} {v:Value} {cl:Cl} {bi:Nat} {mo:Option Nat} {since st:Nat} {seen:Array Nat} {X:Obj} (hc:qad h v cl) (hb:h bi = some (.mapIter mo since seen st)):qad (Hp.upd h bi X) v cl:=by
 have hne:∀ {b:Nat} {mt:MT} {l:List ME} {c:Nat},qaX h b mt l c->b ≠ bi:=fun hm he=>by
  rw [he] at hm;have:=hm.1.symm.trans hb;simp [MT.obj] at this
 obtain ⟨b,l,c,e,hm,hi,hr⟩:=hc;exact ⟨b,l,c,e,qdq (hne hm) hm,fun x hx=>by
  obtain ⟨b',m,c',e1,e2,e3,e4⟩:=hi x hx;exact ⟨b',m,c',e1,e2,qdq (hne e3) e3,e4⟩,hr⟩
theorem qAK {m:List ME} {c:Nat} (hM:MWf mtI m c) {e:ME} (he:e ∈ m) {seen:List Nat} {p:ME->Bool}:((m.filter fun y=>(seen ++ [e.born]).contains y.born).any p) = ((m.filter fun y=>seen.contains y.born).any p || p e):=by
 apply Bool.eq_iff_iff.2;rw [jcy,jd2,jd2];constructor
 ·rintro ⟨y,hy,hp⟩
  rw [jc7] at hy;obtain ⟨hy1,hy2⟩:=hy;simp only [List.contains_eq_mem,jaw,jak,ja8] at hy2;rcases hy2 with h | h
  ·exact .inl ⟨y,jc7.2 ⟨hy1,by simpa using h⟩,hp⟩
  ·right
   have:y = e:=by
    obtain ⟨i,hi⟩:=jbi hy1;obtain ⟨j,hj⟩:=jbi he;have hij:i = j:=born_get hM hi hj h;rw [hij,hj] at hi;exact (jax hi).symm
   rw [<- this]; exact hp
 ·rintro (⟨y,hy,hp⟩ | hp)
  ·rw [jc7] at hy
   exact ⟨y,jc7.2 ⟨hy.1,by have:=hy.2; simp only [List.contains_eq_mem,ja8] at this; simp [this]⟩,hp⟩
  ·exact ⟨e,jc7.2 ⟨he,by simp⟩,hp⟩
where
 born_get {m:List ME} {c:Nat} (hM:MWf mtI m c) {i j:Nat} {x y:ME} (hi:m[i]? = some x) (hj:m[j]? = some y) (h:x.born = y.born):i = j:=by
  have hp:=jet.1 hM.2;obtain ⟨h1,e1⟩:=jan.1 hi;obtain ⟨h2,e2⟩:=jan.1 hj;rcases jdz i j with hlt | heq | hlt
  ·have:=(hp i j h1 h2 hlt).1; rw [e1,e2] at this; omega
  ·exact heq
  ·have:=(hp j i h2 h1 hlt).1; rw [e1,e2] at this; omega
theorem qoB {h:Hp} {it:Value} {bi b since st c:Nat} {seen:List Nat} {m:List ME} (hit:it = .pointer (some ⟨bi,0,none⟩)) (hb:h bi = some (.mapIter (some b) since seen.toArray st)) (hM:qaX h b mtI m c):qiT h it = (m.filter fun y=>!(seen.contains y.born)).length:=by
 subst hit;unfold qiT;simp only [hb,hM.1,MT.obj,jcj,List.contains_toArray];rw [List.filter_map,ja7];rfl
theorem q7d {m:List ME} {e:ME} (he:e ∈ m) {seen:List Nat} (hn:¬ e.born ∈ seen):(m.filter fun y=>!((seen ++ [e.born]).contains y.born)).length < (m.filter fun y=>!(seen.contains y.born)).length:=by
 have h1:(m.filter fun y=>!((seen ++ [e.born]).contains y.born)) = ((m.filter fun y=>!(seen.contains y.born)).filter fun y=>!((seen ++ [e.born]).contains y.born)):=by
  rw [List.filter_filter];refine List.filter_congr fun y hy=>?_
  by_cases hs:y.born ∈ seen <;> simp [hs]
 rw [h1];refine List.length_filter_lt_length_iff_exists.2 ⟨e,jc7.2 ⟨he,by simp [hn]⟩,by simp⟩
section
variable {h0 H:Hp} {v it:Value} {o:List Int} {s t:Int} {L Hs:List Int} {cl:Cl}
theorem qvm {bi:Nat} (hc:qad h0 v cl) (hno:∀ i,cl o i = none) (hle:Hp.le h0 H) (hit:it = .pointer (some ⟨bi,0,none⟩)) (hb:H bi = some (.mapIter none 0 #[] 0)):qs2 h0 H v it o s t L Hs false:=fun cl' h'=>by
 rw [qi3 hc h'];exact ⟨q1q hc hle,[],[],⟨bi,none,0,0,hit,hb,.inl ⟨rfl,rfl⟩⟩,fun i=>by rw [hno]; rfl,rfl⟩
theorem qve {bi b c:Nat} {m:List ME} (hc:qad h0 v cl) (hm:qaX h0 b mtI m c) (he:∀ i,cl o i = qdS m i) (hle:Hp.le h0 H) (hit:it = .pointer (some ⟨bi,0,none⟩)) (hb:H bi = some (.mapIter (some b) c #[] c)):qs2 h0 H v it o s t L Hs false:=fun cl' h'=>by
 rw [qi3 hc h'];have hmH:=qh7 hm hle;have hne:bi ≠ b:=fun e=>by
  rw [e] at hb;have:=hmH.1.symm.trans hb;simp [MT.obj] at this
 refine ⟨q1q hc hle,m,[],⟨bi,some b,c,c,hit,hb,.inr ⟨b,c,rfl,hne,hmH,ja4 _,.inl rfl,fun n hn=>by cases hn⟩⟩,he,?_⟩;have:(m.filter fun e=>([]:List Nat).contains e.born) = []:=by simp
 rw [this]; rfl
theorem qCs {bi b since st c:Nat} {m:List ME} {seen:List Nat} {e:ME} {x y:Bool} (hc:qad h0 v cl) (hcH:qad H v cl) (hit:it = .pointer (some ⟨bi,0,none⟩)) (hb:H bi = some (.mapIter (some b) since seen.toArray st)) (hne:bi ≠ b) (hm:qaX H b mtI m c) (hcs:c <= since) (hseen:∀ n ∈ seen,∃ e ∈ m,e.born = n)
  (he:∀ i,cl o i = qdS m i) (hem:e ∈ m) (hx:x = (m.filter fun e=>seen.contains e.born).any (qkf o s t L Hs)) (hy:y = (x || qkf o s t L Hs e)):qs2 h0 (Hp.upd H bi (.mapIter (some b) since (seen ++ [e.born]).toArray c)) v it o s t L Hs y:=fun cl' h'=>by
 rw [qi3 hc h'];refine ⟨qzz hcH hb,m,seen ++ [e.born],⟨bi,some b,since,c,hit,qjp,.inr ⟨b,c,rfl,hne,qdq (Ne.symm hne) hm,hcs,.inr (.inr ⟨e,hem,(hm.2.1 e hem).2.2⟩),fun n hn=>?_⟩⟩,he,?_⟩
 ·rcases jaw.1 hn with h | h
  ·exact hseen n h
  ·rw [jak] at h; exact ⟨e,hem,h.symm⟩
 ·rw [qAK hm.2 hem,<- hx,hy]
theorem q7y {since c:Nat} {m:List ME} {seen:List Nat} {x:Bool} (hM:MWf mtI m c) (hc:qad h0 v cl) (hcH:qad H v cl) (hcs:c <= since) (he:∀ i,cl o i = qdS m i) (hx:x = (m.filter fun e=>seen.contains e.born).any (qkf o s t L Hs)) (hall:∀ e ∈ m,e.born < since->e.born ∈ seen) :
  ∀ cl',qad h0 v cl'->qad H v cl'/\x = qej cl' o s t L Hs:=fun cl' h'=>by
 rw [qi3 hc h'];refine ⟨hcH,?_⟩;have hf:(m.filter fun e=>seen.contains e.born) = m:=jeq.2 fun e hem=>by
  have:=hall e hem (by have:=(hM.1 e hem).2.2; omega);simpa using this
 obtain ⟨b,l,c0,rfl,_,_,_,_,hr⟩:=hc;rw [hf] at hx;rw [hx]; exact qxp hM he hr
end
set_option maxRecDepth 20000
theorem qAc:qk1.ok Tryz.prog:=q9O (by simp) fun Z hg hp=>by
 simp (config:={ maxSteps:=4000000 }) [q2l,qk1];intro u _ v _ b hv hu;exact ⟨b,[],0,hv,⟨by rw [hu]; simp [Hp.one,MT.obj],fun x hx=>(by cases hx),List.Pairwise.nil⟩,fun x hx=>(by cases hx),fun x hx=>(by cases hx),fun _ _ _=>rfl,fun _ _ _ h=>(by cases h)⟩
theorem qEm:qvC.ok Tryz.prog:=qDZ (by simp) fun Z hg hp=>by
 obtain ⟨h0,h1,h2,h3⟩:=hp;simp (config:={ maxSteps:=4000000 }) [qBg,qvC];have hu:(Z 0).i <= (Z 1).i->qc .sub .u64 (Z 1).i (Z 0).i = (Z 1).i - (Z 0).i:=fun h=>by
  show IntKind.wrap .u64 _ = _
  rw [qog]; omega
 refine ⟨fun h=>?_,fun h=>?_⟩
 ·rw [hu h]; unfold qmo; rw [jcl h,jel]; rfl
 ·unfold qmo; rw [jer (by omega),Bool.false_and]
theorem qxV (d:qe):[qa d 0,qa d 1,qa d 2,qa d 3,qa d 4,qa d 5,qa d 6,qa d 7,qa d 8,qa d 9,qa d 10,qa d 11,qa d 12,qa d 13,qa d 14,qa d 15,qa d 16,qa d 17,qa d 18,qa d 19,qa d 20,qa d 21,qa d 22,qa d 23,qa d 24,qa d 25,qa d 26,qa d 27,qa d 28,qa d 29,qa d 30,qa d 31] = qf d 32:=rfl
theorem qyD:(⟨true,[.u8,.u8,.u8,.u8,.u8,.u8,.u8,.u8,.u8,.u8,.u8,.u8,.u8,.u8,.u8,.u8,.u8,.u8,.u8,.u8,.u8,.u8,.u8,.u8,.u8,.u8,.u8,.u8,.u8,.u8,.u8,.u8],false,[.any],[.vnilm]⟩:MT) = mtO:=rfl
theorem qyw:(⟨false,[.i64],false,[.int .u64],[.vint .u64 (.lit 0)]⟩:MT) = mtI:=rfl
theorem qB0 (Z:Env):List.map (fun t=>(T.den Z t).v) mtO.zero = [.map none]:=rfl
theorem qB4 (Z:Env):List.map (fun t=>(T.den Z t).v) mtI.zero = [.int .u64 0]:=rfl
theorem qu8 (row:List Value):qC [row] 0 0 = row.headD .nilFunc:=by cases row <;> rfl
theorem qv9 {l:List ME} {k:List Int} {z:List Value} (h:qaM l k = true):∃ x ∈ l,x.k = k/\qcQ l k z = x.v:=by
 obtain ⟨j,x,hj,hk,_,hg⟩:=qe9 (mt:=mtO) (i:=0) h;exact ⟨x,jbl hj,hk,hg z⟩
theorem qAI {cl:Cl} {o:List Int} {i t:Int} (h:qqo i = false):qeA cl o i t = cl:=by
 unfold qeA;rw [jaf (jdb h)]
theorem q8A {l:List ME} {k:List Int} {v z:List Value} {c:Nat} (h:qaM l k = false):qcQ (qbg l k v c).1 k z = v:=by
 have hn:=qlC h;unfold qbg;rw [jaf (by rw [h]; simp)];unfold qcQ;simp only;rw [List.find?_append];have:l.find? (fun x=>x.k == k) = none:=by
  rw [jd9];intro x hx hk;exact hn x hx (by simpa using hk)
 rw [this]; simp
theorem qbI {Z:Env} {l:List SH} {H:Hp} (n t:Nat) (hs:qac Z l H) (hm:SH.abs n t ∈ l):Hp.le (Z n).h H:=by
 obtain ⟨hb,lb,db⟩:=qbR hs hm;exact Hp.le_trans db lb
theorem q3A {Z:Env} {n m t t':Nat} {H:Hp} (hs:qac Z [SH.abs n t,SH.abs m t'] H):Hp.disj (Z n).h (Z m).h:=by
 obtain ⟨h1,h2,hd,hu,hx,h3,h4,hd2,hu2,hy,_⟩:=hs;intro b;cases hb1:(Z n).h b with
 | none=>exact .inl rfl
 | some X =>
  cases hb2:(Z m).h b with
  | none=>exact .inr rfl
  | some Y =>
   have e1:=hx.1 b X hb1;have e2:=hy.1 b Y hb2;have e3:h2 b = some Y:=by rw [hu2]; simp [Hp.union,e2]
   rcases hd b with h | h
   ·rw [e1] at h; cases h
   ·rw [e3] at h; cases h
theorem qBO {b:Nat}:qv mtO.vpat [.map (some b)]:=⟨rfl,fun c k v hk hv=>by
 cases c with
 | zero=>simp only [mtO,jav,jaa] at hk hv; subst hk hv; rfl
 | succ c=>simp [mtO] at hk⟩
theorem qBU:qo1.ok Tryz.prog:=qCa (by simp [qtm]) fun Z hg hp=>by
 obtain ⟨⟨cl,hcl⟩,h0,h1⟩:=hp;have hcl0:=hcl;simp (config:={ maxSteps:=4000000 }) [q6Y,qo1,qfW,qxV,qyD,qyw,qu8,qd,qB0,qB4];obtain ⟨b,l,c,hv,hm,hi,hd,hn,hr⟩:=hcl;intro u _ p _ hp;refine ⟨fun hpf cl' h'=>by rw [qAI (hp ▸ hpf)]; exact h',fun hpt=>⟨l,.inr ⟨b,hv,c,hm⟩,?_⟩⟩;have hpp:0 <= (Z 2).i/\(Z 2).i < 16:=jbh (hp ▸ hpt:qqo (Z 2).i = true);cases hh:qaM l (qf (Z 1).d 32) with
 | false =>
  refine .inl ⟨by rw [qjQ hh]; rfl,fun m _ v _ b' hvv hmh H _ hst=>?_⟩;obtain ⟨hA,lA,dA⟩:=qbR hst (n:=10) (t:=1003) (by simp);obtain ⟨hB,lB,dB⟩:=qbR hst (n:=5) (t:=1003) (by simp);have hle:Hp.le (Z 5).h H.h:=by
   have h:=qbI 5 1003 hst (by simp);simpa using h
  have hone:H.h b' = some (.map #[] 0):=by
   have h:=qbI 10 1003 hst (by simp);have h:Hp.le m.h H.h:=by simpa using h
   exact h b' _ (by rw [hmh]; simp [Hp.one])
  have hnew:∀ X,(Z 5).h b' = some X->False:=by
   intro X hX;have h:=q3A hst;have h:Hp.disj m.h (Z 5).h:=by simpa using h
   rcases h b' with h | h
   ·rw [hmh] at h; simp [Hp.one] at h
   ·rw [hX] at h; cases h
  have hbb:b' ≠ b:=fun he=>hnew _ (by rw [he]; exact hm.1)
  have hfree:∀ x ∈ l,x.v ≠ [.map (some b')]:=fun x hx he=>by
   obtain ⟨b3,m3,c3,f1,f2,f3,f4⟩:=hi x hx;rw [he] at f1;simp only [jcg,Value.map.injEq,jaa,and_true] at f1;exact hnew _ (by rw [f1]; exact f3.1)
  have hmH:=qh7 hm hle;have hiH:∀ x ∈ l,∃ b' m c',x.v = [.map (some b')]/\b' ≠ b/\qaX H.h b' mtI m c'/\∀ i,cl x.k i = qdS m i:=fun x hx=>by
   obtain ⟨b3,m3,c3,f1,f2,f3,f4⟩:=hi x hx;exact ⟨b3,m3,c3,f1,f2,qh7 f3 hle,f4⟩
  have hput:=q8A (z:=[.map none]) (v:=[v.v]) (c:=c) hh;have hfit:qv mtO.vpat [v.v]:=by rw [hvv]; exact qBO
  refine ⟨b,hv,l,c,hmH,fun u4 _ h4=>⟨(qbg l (qf (Z 1).d 32) [v.v] c).1,.inr ⟨b,hv,(qbg l (qf (Z 1).d 32) [v.v] c).2,⟨by rw [h4]; exact qjp,qkD hm.2 (by simp [qf,mtO]) hfit⟩⟩,b',by rw [hput,hvv]; rfl,[],0,⟨by rw [h4,qyf hbb,hone]; rfl,fun x hx=>(by cases hx),List.Pairwise.nil⟩,fun u5 _ h5 cl' h'=>?_⟩⟩;rw [qi3 hcl0 h',h5,hv,h4,hvv];exact q9N hmH hiH hd hn hr hh (by simp [qf]) hbb hfree hpp.1 hpp.2 h0 h1
 | true =>
  obtain ⟨x,hx,hk,hgx⟩:=qv9 (z:=[.map none]) hh;obtain ⟨b',m,c',e1,e2,e3,e4⟩:=hi x hx;refine .inr ⟨⟨b',by rw [hgx,e1]; rfl⟩,l,.inr ⟨b,hv,c,hm⟩,b',by rw [hgx,e1]; rfl,m,c',e3,fun u5 _ h5 cl' h'=>?_⟩;rw [qi3 hcl0 h',h5,hv,<- hk];exact qAy hm hi hd hn hr hx e1 e3 hpp.1 hpp.2 h0 h1
theorem q3m:qhd.ok Tryz.prog:=q5a (by simp [q7L,qEm,quK]) fun Z hg hp=>by
 obtain ⟨⟨cl,hcl⟩,hO,⟨hl,h1,hr⟩,⟨hl2,h12,hr2⟩,⟨hGr,hGd⟩,t0,t1⟩:=hp;simp only [Nat.reduceAdd] at hl h1 hr hl2 h12 hr2;have hcl0:=hcl;simp (config:={ maxSteps:=4000000 }) [qug,qhd,qxl,qkq,qvC,qeJ,qdm,qbx,gOk,qxV,qyD,qyw,qu8,qd,qB0,qB4,hl,hl2,hO,hGr,hGd];obtain ⟨b,l,c,hv,hm,hi,hd,hn,hrr⟩:=hcl
 repeat' (first | with_reducible apply And.intro | with_reducible intro _)
 all_goals first
  | omega
  | exact qk4 (by assumption) (by assumption)
  | skip
 refine ⟨l,.inr ⟨b,hv,c,hm⟩,?_⟩;have hstart:∃ (mo:Option Nat) (clock:Nat),((qcQ l (qf (Z 1).d 32) [Value.map none]).head?.getD .nilFunc = .map none/\mo = none/\clock = 0∨∃ b:Nat,(qcQ l (qf (Z 1).d 32) [Value.map none]).head?.getD .nilFunc = .map (some b)/\mo = some b/\∃ l,qaX (Z 5).h b mtI l clock)/\∀ (H:Hp) (bi:Nat) (it:Value),Hp.le (Z 5).h H->it = .pointer (some ⟨bi,0,none⟩)->H bi = some (.mapIter mo clock #[] clock)->qs2 (Z 5).h H (Z 4).v it (qf (Z 1).d 32) (Z 2).i (Z 3).i (qt (Z 9).d) (qt (Z 14).d) false:=by
  cases hh:qaM l (qf (Z 1).d 32) with
  | false =>
   have hg0:=qjQ (z:=[.map none]) hh;exact ⟨none,0,.inl ⟨by rw [hg0]; rfl,rfl,rfl⟩,fun H bi it hle hit hb=>qvm hcl0 (fun i=>hn _ _ (qlC hh)) hle hit hb⟩
  | true =>
   obtain ⟨x,hx,hk,hgx⟩:=qv9 (z:=[.map none]) hh;obtain ⟨b',m,c',e1,e2,e3,e4⟩:=hi x hx;exact ⟨some b',c',.inr ⟨b',by rw [hgx,e1]; rfl,rfl,m,e3⟩,fun H bi it hle hit hb=>qve hcl0 e3 (fun i=>by rw [<- hk]; exact e4 i) hle hit hb⟩
 obtain ⟨mo,clock,hmo,hst0⟩:=hstart;refine ⟨mo,clock,hmo,?_⟩;intro I1 _ I2 _ bi hit hI1 H _ hst;have hle:Hp.le I1.h H.h/\Hp.le (Z 5).h H.h:=by
  have h1:=qbI 54 1003 hst (by simp);have h2:=qbI 5 1003 hst (by simp);exact ⟨by simpa using h1,by simpa using h2⟩
 have hbi:H.h bi = some (.mapIter mo clock #[] clock):=hle.1 _ _ (by rw [hI1]; simp [Hp.one]);refine ⟨⟨qdk (l:=[_,_,_,_,_,_,_,_,_,_,_,_,_,_,_,_]) (by assumption) qer,qdk (l:=[_,_,_,_,_,_,_,_,_,_,_,_,_,_,_,_]) (by assumption) qer,hst0 H.h bi I2.v hle.2 hit hbi⟩,?_⟩;intro F13 _ F14 _ x _ it _ H2 _ hs13 hs14 hB;obtain ⟨hcH,m,seen,⟨bi2,mo2,since,stp,hit2,hbi2,hmo2⟩,hco,hx⟩:=hB cl hcl0;refine ⟨bi2,hit2,since,seen,stp,mo2,hbi2,?_⟩;rcases hmo2 with ⟨rfl,rfl⟩ | ⟨b2,c2,rfl,hne,hM,hcs,hstt,hseen⟩
 ·exact q7y (m:=[]) (c:=0) (since:=0) ⟨fun x hx=>(by cases hx),List.Pairwise.nil⟩ hcl0 hcH (ja4 _) hco hx (fun e he=>by cases he)
 ·refine ⟨m,c2,hM,hstt,fun hall=>q7y hM.2 hcl0 hcH hcs hco hx hall,fun e he hns u2 _ hu2=>⟨bi2,hit2,since,seen,c2,b2,m,e,by rw [hu2]; exact qjp,by rw [hu2]; exact qdq (Ne.symm hne) hM,he,?_⟩⟩
  have hbl:∀ y:Bool,y = (x.b || qkf (qf (Z 1).d 32) (Z 2).i (Z 3).i (qt (Z 9).d) (qt (Z 14).d) e)->qs2 (Z 5).h u2.h (Z 4).v it.v (qf (Z 1).d 32) (Z 2).i (Z 3).i (qt (Z 9).d) (qt (Z 14).d) y:=fun y hy=>by
   rw [hu2]; exact qCs hcl0 hcH hit2 hbi2 hne hM hcs hseen hco he hx hy
  have hless:qiT u2.h it.v < qiT H2.h it.v:=by
   rw [qoB (h:=H2.h) hit2 hbi2 hM,qoB (h:=u2.h) (seen:=seen ++ [e.born]) hit2 (by rw [hu2]; exact qjp) (by rw [hu2]; exact qdq (Ne.symm hne) hM)];exact q7d he hns
  obtain ⟨z,hz⟩:=q11 hM.2 he;have hg:=(hco z).trans (qyW hM.2 he hz);obtain ⟨z0,z1,v0,v1⟩:=hrr _ _ _ hg;have hcv:qa [e.v] 0 = qX (e.v.headD .nilFunc):=by unfold qa; cases e.v <;> rfl
  have hbe:∀ a b c d:Bool,a = qmo (qX (e.v.headD .nilFunc)) (Z 3).i->b = decide (z ∈ qt (Z 9).d)->c = decide (z ∈ qt (Z 14).d)->d = qZ (qf (Z 1).d 32) z (Z 2).i->qkf (qf (Z 1).d 32) (Z 2).i (Z 3).i (qt (Z 9).d) (qt (Z 14).d) e = (a && b && !c && d):=by
   intro a b c d ha hb hc hd;unfold qkf;rw [hz,ha,hb,hc,hd,jbm]
  have hkx:qa [qab [IntKind.i64] e.k] 0 = z:=by rw [hz]; rfl
  have hkx':qa [qab mtI.kks e.k] 0 = z:=hkx;rw [hcv,hkx'];have hB:=fun (r:U) (hr':r.b = qmo (qX (e.v.headD .nilFunc)) (Z 3).i)=>hbe r.b (decide (z ∈ qt (Z 9).d)) (decide (z ∈ qt (Z 14).d)) (qZ (qf (Z 1).d 32) z (Z 2).i) hr' rfl rfl rfl
  refine ⟨fun hxt=>⟨⟨hs13,hs14,hbl true (by rw [hxt,Bool.true_or])⟩,hless⟩,fun hxf=>⟨⟨v0,v1,t0,t1⟩,fun r _ hr'=>⟨fun hrt=>⟨z0,z1,qwZ hs14,fun hf14=>⟨qwZ hs13,fun hf13 w _ hw=>⟨⟨hs13,hs14,hbl w.b ?_⟩,hless⟩,fun hf13=>⟨⟨hs13,hs14,hbl false ?_⟩,hless⟩⟩,fun hf14=>⟨⟨hs13,hs14,hbl false ?_⟩,hless⟩⟩,fun hrf=>⟨⟨hs13,hs14,hbl false ?_⟩,hless⟩⟩⟩⟩
  ·rw [hxf,hB r hr',hrt,jcl ((qfq hs14 qer z0 z1).1 hf14),jer (qmu hs13 qer z0 z1 hf13),hw]; generalize qZ (qf (Z 1).d 32) z (Z 2).i = q; cases q <;> rfl
  ·rw [hxf,hB r hr',hrt,jcl ((qfq hs14 qer z0 z1).1 hf14),jcl ((qfq hs13 qer z0 z1).1 hf13)]; generalize qZ (qf (Z 1).d 32) z (Z 2).i = q; cases q <;> rfl
  ·rw [hxf,hB r hr',hrt,jer (qmu hs14 qer z0 z1 hf14)]; generalize qZ (qf (Z 1).d 32) z (Z 2).i = q; cases q <;> rfl
  ·rw [hxf,hB r hr',hrf]; generalize qZ (qf (Z 1).d 32) z (Z 2).i = q; cases q <;> simp
set_option maxRecDepth 100000
def q1g:Out:=(fr 1 2 (.ret 0 (sg 1 [bg 1 2])))
theorem q9I:qj Tryz.prog qg1 [] [] q1g:=qg Tryz.func45 Tryz.call45 (by kernel_rfl)
def q2b:Out:=(.br (.not (.and (.cmp .eql (.dlen (tv 3)) (tl 0)) (.isnil 2)))
 (tn (tl 0) (tv 6) (ts (tl 0) (.dlen (tv 3)) (.ret 0 (sg 10 [bt 10 (.cmp .geq (tv 6) (.icell (tv 3) (tl 0) 0))]))))
 (.ret 0 (sg 10 [bt 10 (.bl false)])))
theorem q9k:qj Tryz.prog qda [] [] q2b:=qg Tryz.func47 Tryz.call47 (by kernel_rfl)
def q0O:Out:=(.pre 0 (sg 0 [bg 9 9,bv 8 8,bv 4 4,bv 3 3,bv 7 7,bv 6 6,bg 5 5,bg 2 2,bt 1 (r8 1),bg 0 0]) (tb (.fresh 10 (.post 0 0 (sg 0 [bg 9 9,bv 8 8,bv 4 4,bv 3 3,bv 7 7,bv 6 6,bg 5 5,bg 2 2,bt 1 (r8 1),bg 0 0]) 10 (.br (.not (tv 10))
 (.ret 0 (sg 10 [bt 10 (tl 12)]))
 (.ret 0 (sg 10 [bt 10 (tl 0)])))))))
theorem q9y:qj Tryz.prog qju [qda] [] q0O:=qg Tryz.func89 Tryz.call89 (by kernel_rfl)
def q5v:Out:=(.fresh 10 (tn (tl 0) (tv 6) (.inv 0 11 (sg 1000 [bt 1003 .dnil,bt 1004 (tl 0),bt 1002 (tl 0),bt 1001 (tl 0),bg 1000 10]) (fr 11 5 (.hyp 0 11 (.br (.cmp .lss (tv 15) (tv 6))
 (tn (tl 0) (tv 15) (ts (tv 15) (.dlen (tv 8)) (fr 16 2 (.need (.cmp .eql (tv 12) (.dlen (tv 14))) (tn (.tims (tl 8) (.plus (tv 12) (tl 1))) (tl 140737488355328) (fr 18 2 (.back 0 11 (sg 1000 [bt 1003 (.dapp (tv 14) (.rcons (ti (.icell (tv 8) (tv 15) 0)) .rnil)),bt 1004 (.arith .add .i64 (tv 15) (tl 1)),bv 1002 19,bt 1001 (.plus (tv 12) (tl 1)),bg 1000 18]))))))))
 (.ret 0 (sg 10 [bv 13 14,bv 12 13,bv 11 12,bg 10 11]))))))))
theorem qC5:qj Tryz.prog qge [] [qBf] q5v:=qg Tryz.func55 Tryz.call55 (by kernel_rfl)
def qw2:Out:=(.br (.and (.cmp .eql (.dlen (tv 3)) (tl 0)) (.isnil 0))
 (.need (.cmp .eql (tv 1) (tl 0)) (.ret 0 (sg 5 [bt 7 .dnil,bt 6 (tl 0),(5,.nil)])))
 (.fresh 5 (tn (tl 0) (tv 1) (tn (tv 1) (.dlen (tv 3)) (tn (.tims (tl 32) (tv 1)) (tl 140737488355328) (fr 6 2 (.ret 0 (sg 5 [bt 7 (.dtake (tv 3) (tv 1)),bv 6 7,bg 5 6]))))))))
theorem q60:qj Tryz.prog qeI [] [] qw2:=qg Tryz.func90 Tryz.call90 (by kernel_rfl)
@[simp] def qjy:Sg:=sg 0 [bg 9 9,bv 8 8,bv 4 4,bv 3 3,bv 7 7,bv 6 6,bg 5 5,bg 2 2,bt 1 (r8 1),bg 0 0]
@[simp] def quD:Sg:=sg 0 [bv 11 27,bv 9 19,bv 8 18,bv 7 17,bv 6 16,bg 5 15,bv 3 13,bv 2 12,bv 1 11,bv 0 10,bt 4 (r8 14),bg 10 26]
@[simp] def qtN:Sg:=sg 0 [bv 17 27,bv 15 25,bv 14 24,bv 9 19,bv 8 18,bv 13 23,bv 12 22,bg 11 21,bv 10 20,bv 7 17,bv 6 16,bg 5 15,bv 3 13,bv 2 12,bv 1 11,bv 0 10,bt 4 (r8 14),bg 16 26]
def q1O:Out:=(fr 28 2 (.pre 0 quD (tb (fr 30 2 (.post 0 0 quD 30 (.fresh 32 (.br (.cmp .neq (tv 31) (tl 0))
 (.pack [.cells 32 24 [(x8 0 30),(x8 1 30),(x8 2 30),(x8 3 30),(x8 4 30),(x8 5 30),(x8 6 30),(x8 7 30),(x8 8 30),(x8 9 30),(x8 10 30),(x8 11 30),(x8 12 30),(x8 13 30),(x8 14 30),(x8 15 30),(x8 16 30),(x8 17 30),(x8 18 30),(x8 19 30),(x8 20 30),(x8 21 30),(x8 22 30),(x8 23 30),(x8 24 30),(x8 25 30),(x8 26 30),(x8 27 30),(x8 28 30),(x8 29 30),(x8 30 30),(x8 31 30)],.cells 29 86 [(ti (tv 20)),(.vslice 21 (tl 0) (tv 22) (tv 23) 1)],.cells 28 27 [(ti (tv 10)),(ti (tv 11)),(ti (tv 12)),(ti (tv 13)),(x8 0 14),(x8 1 14),(x8 2 14),(x8 3 14),(x8 4 14),(x8 5 14),(x8 6 14),(x8 7 14),(x8 8 14),(x8 9 14),(x8 10 14),(x8 11 14),(x8 12 14),(x8 13 14),(x8 14 14),(x8 15 14),(x8 16 14),(x8 17 14),(x8 18 14),(x8 19 14),(x8 20 14),(x8 21 14),(x8 22 14),(x8 23 14),(x8 24 14),(x8 25 14),(x8 26 14),(x8 27 14),(x8 28 14),(x8 29 14),(x8 30 14),(x8 31 14),(.vslice 15 (tl 0) (tv 16) (tv 17) 32)],.abs 9 20] 33 (.ret 0 (sg 28 [bg 35 33,bv 34 8,bv 30 4,bv 29 3,bv 33 7,bv 32 6,bg 31 5,bg 28 2,bv 36 31])))
 (.br (.not (.c2 .req (r8 30) (r8 1)))
 (.pack [.cells 32 24 [(x8 0 30),(x8 1 30),(x8 2 30),(x8 3 30),(x8 4 30),(x8 5 30),(x8 6 30),(x8 7 30),(x8 8 30),(x8 9 30),(x8 10 30),(x8 11 30),(x8 12 30),(x8 13 30),(x8 14 30),(x8 15 30),(x8 16 30),(x8 17 30),(x8 18 30),(x8 19 30),(x8 20 30),(x8 21 30),(x8 22 30),(x8 23 30),(x8 24 30),(x8 25 30),(x8 26 30),(x8 27 30),(x8 28 30),(x8 29 30),(x8 30 30),(x8 31 30)],.cells 29 86 [(ti (tv 20)),(.vslice 21 (tl 0) (tv 22) (tv 23) 1)],.cells 28 27 [(ti (tv 10)),(ti (tv 11)),(ti (tv 12)),(ti (tv 13)),(x8 0 14),(x8 1 14),(x8 2 14),(x8 3 14),(x8 4 14),(x8 5 14),(x8 6 14),(x8 7 14),(x8 8 14),(x8 9 14),(x8 10 14),(x8 11 14),(x8 12 14),(x8 13 14),(x8 14 14),(x8 15 14),(x8 16 14),(x8 17 14),(x8 18 14),(x8 19 14),(x8 20 14),(x8 21 14),(x8 22 14),(x8 23 14),(x8 24 14),(x8 25 14),(x8 26 14),(x8 27 14),(x8 28 14),(x8 29 14),(x8 30 14),(x8 31 14),(.vslice 15 (tl 0) (tv 16) (tv 17) 32)],.abs 9 20] 33 (.ret 0 (sg 28 [bg 35 33,bv 34 8,bv 30 4,bv 29 3,bv 33 7,bv 32 6,bg 31 5,bg 28 2,bt 36 (tl 20)])))
 (.pre 1 qtN (tb (.fresh 33 (.post 1 0 qtN 33 (.br (.cmp .neq (tv 33) (tl 0))
 (.pack [.cells 32 24 [(x8 0 30),(x8 1 30),(x8 2 30),(x8 3 30),(x8 4 30),(x8 5 30),(x8 6 30),(x8 7 30),(x8 8 30),(x8 9 30),(x8 10 30),(x8 11 30),(x8 12 30),(x8 13 30),(x8 14 30),(x8 15 30),(x8 16 30),(x8 17 30),(x8 18 30),(x8 19 30),(x8 20 30),(x8 21 30),(x8 22 30),(x8 23 30),(x8 24 30),(x8 25 30),(x8 26 30),(x8 27 30),(x8 28 30),(x8 29 30),(x8 30 30),(x8 31 30)],.cells 29 86 [(ti (tv 20)),(.vslice 21 (tl 0) (tv 22) (tv 23) 1)],.cells 28 27 [(ti (tv 10)),(ti (tv 11)),(ti (tv 12)),(ti (tv 13)),(x8 0 14),(x8 1 14),(x8 2 14),(x8 3 14),(x8 4 14),(x8 5 14),(x8 6 14),(x8 7 14),(x8 8 14),(x8 9 14),(x8 10 14),(x8 11 14),(x8 12 14),(x8 13 14),(x8 14 14),(x8 15 14),(x8 16 14),(x8 17 14),(x8 18 14),(x8 19 14),(x8 20 14),(x8 21 14),(x8 22 14),(x8 23 14),(x8 24 14),(x8 25 14),(x8 26 14),(x8 27 14),(x8 28 14),(x8 29 14),(x8 30 14),(x8 31 14),(.vslice 15 (tl 0) (tv 16) (tv 17) 32)],.abs 9 20] 34 (.ret 0 (sg 28 [bg 35 34,bv 34 8,bv 30 4,bv 29 3,bv 33 7,bv 32 6,bg 31 5,bg 28 2,bv 36 33])))
 (tb (.pre 2 qjy (tb (fr 34 4 (.post 2 0 qjy 34 (tb (.pre 3 (sg 0 [bv 4 36,bv 3 37,bv 5 20,bv 2 36,bv 1 35,bg 0 34]) (tb (.fresh 38 (.post 3 0 (sg 0 [bv 4 36,bv 3 37,bv 5 20,bv 2 36,bv 1 35,bg 0 34]) 38 (.br (tv 38)
 (.pack [.arr 34 3 [CK.int .i64] (tv 37) (tv 36),.cells 32 24 [(x8 0 30),(x8 1 30),(x8 2 30),(x8 3 30),(x8 4 30),(x8 5 30),(x8 6 30),(x8 7 30),(x8 8 30),(x8 9 30),(x8 10 30),(x8 11 30),(x8 12 30),(x8 13 30),(x8 14 30),(x8 15 30),(x8 16 30),(x8 17 30),(x8 18 30),(x8 19 30),(x8 20 30),(x8 21 30),(x8 22 30),(x8 23 30),(x8 24 30),(x8 25 30),(x8 26 30),(x8 27 30),(x8 28 30),(x8 29 30),(x8 30 30),(x8 31 30)],.cells 29 86 [(ti (tv 20)),(.vslice 21 (tl 0) (tv 22) (tv 23) 1)],.cells 28 27 [(ti (tv 10)),(ti (tv 11)),(ti (tv 12)),(ti (tv 13)),(x8 0 14),(x8 1 14),(x8 2 14),(x8 3 14),(x8 4 14),(x8 5 14),(x8 6 14),(x8 7 14),(x8 8 14),(x8 9 14),(x8 10 14),(x8 11 14),(x8 12 14),(x8 13 14),(x8 14 14),(x8 15 14),(x8 16 14),(x8 17 14),(x8 18 14),(x8 19 14),(x8 20 14),(x8 21 14),(x8 22 14),(x8 23 14),(x8 24 14),(x8 25 14),(x8 26 14),(x8 27 14),(x8 28 14),(x8 29 14),(x8 30 14),(x8 31 14),(.vslice 15 (tl 0) (tv 16) (tv 17) 32)],.abs 9 20] 39 (.ret 0 (sg 28 [bg 35 39,bv 34 8,bv 30 4,bv 29 3,bv 33 7,bv 32 6,bg 31 5,bg 28 2,bt 36 (tl 7)])))
 (.pre 4 qjy (tb (.fresh 39 (.post 4 0 qjy 39 (.br (tv 39)
 (.pack [.arr 34 3 [CK.int .i64] (tv 37) (tv 36),.cells 32 24 [(x8 0 30),(x8 1 30),(x8 2 30),(x8 3 30),(x8 4 30),(x8 5 30),(x8 6 30),(x8 7 30),(x8 8 30),(x8 9 30),(x8 10 30),(x8 11 30),(x8 12 30),(x8 13 30),(x8 14 30),(x8 15 30),(x8 16 30),(x8 17 30),(x8 18 30),(x8 19 30),(x8 20 30),(x8 21 30),(x8 22 30),(x8 23 30),(x8 24 30),(x8 25 30),(x8 26 30),(x8 27 30),(x8 28 30),(x8 29 30),(x8 30 30),(x8 31 30)],.cells 29 86 [(ti (tv 20)),(.vslice 21 (tl 0) (tv 22) (tv 23) 1)],.cells 28 27 [(ti (tv 10)),(ti (tv 11)),(ti (tv 12)),(ti (tv 13)),(x8 0 14),(x8 1 14),(x8 2 14),(x8 3 14),(x8 4 14),(x8 5 14),(x8 6 14),(x8 7 14),(x8 8 14),(x8 9 14),(x8 10 14),(x8 11 14),(x8 12 14),(x8 13 14),(x8 14 14),(x8 15 14),(x8 16 14),(x8 17 14),(x8 18 14),(x8 19 14),(x8 20 14),(x8 21 14),(x8 22 14),(x8 23 14),(x8 24 14),(x8 25 14),(x8 26 14),(x8 27 14),(x8 28 14),(x8 29 14),(x8 30 14),(x8 31 14),(.vslice 15 (tl 0) (tv 16) (tv 17) 32)],.abs 9 20] 40 (.ret 0 (sg 28 [bg 35 40,bv 34 8,bv 30 4,bv 29 3,bv 33 7,bv 32 6,bg 31 5,bg 28 2,bt 36 (tl 8)])))
 (.pre 5 (sg 0 [bv 4 19,bv 3 18,bv 2 17,bv 1 16,bg 0 15]) (tb (fr 40 3 (.post 5 0 (sg 0 [bv 4 19,bv 3 18,bv 2 17,bv 1 16,bg 0 15]) 40 (tb (.pre 6 (sg 0 [bv 4 25,bv 3 24,bv 2 23,bv 1 22,bg 0 21]) (tb (fr 43 3 (.post 6 0 (sg 0 [bv 4 25,bv 3 24,bv 2 23,bv 1 22,bg 0 21]) 43 (tb (tb (.fresh 46 (tb (.need (.cmp .eql (tv 6) (.dlen (tv 8))) (tn (.tims (tl 32) (.plus (tv 6) (tl 1))) (tl 140737488355328) (fr 47 2 (tb (tb (tb (.pack [.cells 46 86 [(ti (tv 20)),(.vslice 43 (tl 0) (tv 22) (tv 44) 1)],.arr 43 5 [CK.int .u8] (tv 45) (tv 44),.arr 40 24 [CK.int .u8,CK.int .u8,CK.int .u8,CK.int .u8,CK.int .u8,CK.int .u8,CK.int .u8,CK.int .u8,CK.int .u8,CK.int .u8,CK.int .u8,CK.int .u8,CK.int .u8,CK.int .u8,CK.int .u8,CK.int .u8,CK.int .u8,CK.int .u8,CK.int .u8,CK.int .u8,CK.int .u8,CK.int .u8,CK.int .u8,CK.int .u8,CK.int .u8,CK.int .u8,CK.int .u8,CK.int .u8,CK.int .u8,CK.int .u8,CK.int .u8,CK.int .u8] (tv 42) (tv 41),.arr 34 3 [CK.int .i64] (tv 37) (tv 36),.cells 32 24 [(x8 0 30),(x8 1 30),(x8 2 30),(x8 3 30),(x8 4 30),(x8 5 30),(x8 6 30),(x8 7 30),(x8 8 30),(x8 9 30),(x8 10 30),(x8 11 30),(x8 12 30),(x8 13 30),(x8 14 30),(x8 15 30),(x8 16 30),(x8 17 30),(x8 18 30),(x8 19 30),(x8 20 30),(x8 21 30),(x8 22 30),(x8 23 30),(x8 24 30),(x8 25 30),(x8 26 30),(x8 27 30),(x8 28 30),(x8 29 30),(x8 30 30),(x8 31 30)],.cells 29 86 [(ti (tv 20)),(.vslice 21 (tl 0) (tv 22) (tv 23) 1)],.arr 2 27 [CK.int .i64,CK.int .i64,CK.int .i64,CK.int .i64,CK.int .u8,CK.int .u8,CK.int .u8,CK.int .u8,CK.int .u8,CK.int .u8,CK.int .u8,CK.int .u8,CK.int .u8,CK.int .u8,CK.int .u8,CK.int .u8,CK.int .u8,CK.int .u8,CK.int .u8,CK.int .u8,CK.int .u8,CK.int .u8,CK.int .u8,CK.int .u8,CK.int .u8,CK.int .u8,CK.int .u8,CK.int .u8,CK.int .u8,CK.int .u8,CK.int .u8,CK.int .u8,CK.int .u8,CK.int .u8,CK.int .u8,CK.int .u8,CK.any] (tv 3) (tv 4),.abs 9 20] 49 (.ret 0 (sg 28 [bg 35 49,bt 34 (.dapp (tv 8) (.rcons (ti (tv 20)) (.rcons (.vslice 43 (tl 0) (tv 22) (tv 44) 1) .rnil))),bt 30 (tl 1),bt 29 (.rcons (ti (tv 10)) (.rcons (ti (tv 11)) (.rcons (ti (tv 12)) (.rcons (ti (tv 13)) (.rcons (x8 0 14) (.rcons (x8 1 14) (.rcons (x8 2 14) (.rcons (x8 3 14) (.rcons (x8 4 14) (.rcons (x8 5 14) (.rcons (x8 6 14) (.rcons (x8 7 14) (.rcons (x8 8 14) (.rcons (x8 9 14) (.rcons (x8 10 14) (.rcons (x8 11 14) (.rcons (x8 12 14) (.rcons (x8 13 14) (.rcons (x8 14 14) (.rcons (x8 15 14) (.rcons (x8 16 14) (.rcons (x8 17 14) (.rcons (x8 18 14) (.rcons (x8 19 14) (.rcons (x8 20 14) (.rcons (x8 21 14) (.rcons (x8 22 14) (.rcons (x8 23 14) (.rcons (x8 24 14) (.rcons (x8 25 14) (.rcons (x8 26 14) (.rcons (x8 27 14) (.rcons (x8 28 14) (.rcons (x8 29 14) (.rcons (x8 30 14) (.rcons (x8 31 14) (.rcons (.vslice 40 (tl 0) (tv 16) (tv 41) 32) .rnil))))))))))))))))))))))))))))))))))))),bv 33 48,bt 32 (.plus (tv 6) (tl 1)),bg 31 47,bg 28 28,bt 36 (tl 0)])))))))))))))))))))))))))))))))))))))))))))))))))))
theorem q8Y:qj Tryz.prog qgd [idC,qhc,qge,qev,qda,qeI,qg7] [] q1O:=qg Tryz.func48 Tryz.call48 (by kernel_rfl)
set_option maxRecDepth 20000
theorem qyl:qg1.ok Tryz.prog:=q9I (by simp) fun Z hg hp=>by
 simp (config:={ maxSteps:=4000000 }) [q1g,qg1]
theorem quj:qeI.ok Tryz.prog:=q60 (by simp) fun Z hg hp=>by
 obtain ⟨h0,hl,h1⟩:=hp;simp (config:={ maxSteps:=4000000 }) [qw2,qeI,hl];exact ⟨fun h _=>h,fun _=>by omega⟩
section
variable {h:Hp} {r:Option Addr} {d P:qe} {c n:Int} {M M':Option ManV} {L L':PcL}
theorem qwq (h1:qcX h P L) (h2:qcX h P L'):L = L':=by
 refine jbs fun j=>?_
 by_cases hj:j < P.length
 ·have e:=(h1.2.2 j hj).symm.trans (h2.2.2 j hj)
  rw [jab,jab,jac (by have:=h1.1; omega),jac (by have:=h2.1; omega)] at e;rw [jac (by have:=h1.1; omega),jac (by have:=h2.1; omega)];exact congrArg some e
 ·rw [jat (by have:=h1.1; omega),jat (by have:=h2.1; omega)]
theorem q96 {m m':ManV} (h1:qgl h d m) (h2:qgl h d m'):m = m':=by
 obtain ⟨row,D,e,hf,hr,hD,a1,a2,a3,a4,a5,a6,_,_⟩:=h1;obtain ⟨row',D',e',hf',hr',hD',b1,b2,b3,b4,b5,b6,_,_⟩:=h2;rw [e] at e';simp only [jcg,and_true] at e';subst e';obtain rfl:=qaR hr hr';obtain ⟨k,n,t,s,o,D1⟩:=m;obtain ⟨k',n',t',s',o',D1'⟩:=m';simp only at a1 a2 a3 a4 a5 a6 b1 b2 b3 b4 b5 b6;simp only [ManV.mk.injEq];exact ⟨by rw [<- a2,<- b2],by rw [<- a3,<- b3],by rw [<- a4,<- b4],by rw [<- a5,<- b5],by rw [<- a6,<- b6],by rw [<- a1,<- b1]⟩
theorem qg2 (h1:qbt h r d c n P M L) (h2:qbt h r d c n P M' L'):M' = M/\L' = L:=by
 obtain ⟨_,p1,_,_,q1⟩:=h1;obtain ⟨_,p2,_,_,q2⟩:=h2;refine ⟨?_,(qwq p1 p2).symm⟩;rcases q1 with ⟨rfl,_,c0,_⟩ | ⟨m,rfl,c1,hm,_⟩ <;> rcases q2 with ⟨rfl,_,c0',_⟩ | ⟨m',rfl,c1',hm',_⟩
 ·rfl
 ·omega
 ·omega
 ·rw [q96 hm hm']
theorem qDj (h1:qbt h r d c n P M L):qav P P.length = L.map Prod.fst:=by
 obtain ⟨_,p1,_⟩:=h1;refine jbs fun j=>?_
 by_cases hj:j < P.length
 ·have e:=congrArg Prod.fst (p1.2.2 j hj)
  rw [jab,jac (by have:=p1.1; omega)] at e;rw [qav,jaq,jbp hj,jaq,jac (by have:=p1.1; omega)];exact congrArg some e
 ·rw [jat (by simp [qav]; omega),jat (by rw [ja7]; have:=p1.1; omega)]
theorem qwa {i:Nat}:qav P (i + 1) = qav P i ++ [pcI P i]:=by
 unfold qav;rw [jd5,jcn]; rfl
end
theorem qme:qda.ok Tryz.prog:=q9k (by simp) fun Z hg hp=>by
 obtain ⟨M,L,h⟩:=hp;simp (config:={ maxSteps:=4000000 }) [q2b,qda,gaB];have h0:qbt (Z 9).h (Z 2).r (Z 3).d (Z 4).i (Z 6).i (Z 8).d M L:=h;obtain ⟨hn,hp,_,_,hc⟩:=h;rcases hc with ⟨rfl,hr,c0,hd,hL⟩ | ⟨m,rfl,c1,hm,hL⟩
 ·refine ⟨fun hcon=>?_,fun _ _ M' L' h'=>?_⟩
  ·rw [hd,hr] at hcon; simp at hcon
  ·obtain ⟨rfl,rfl⟩:=qg2 h0 h'; rfl
 ·obtain ⟨row,D,e,hf,hrd,hD,a1,a2,_⟩:=hm
  have e:(Z 3).d = [row]:=e;refine ⟨fun _=>⟨by have hn':(Z 6).i = ((Z 8).d.length:Int):=hn; omega,by rw [e]; exact Nat.one_pos,fun M' L' h'=>?_⟩,fun hd _=>by rw [e] at hd; cases hd⟩;obtain ⟨rfl,rfl⟩:=qg2 h0 h';have hk:qb (Z 3).d 0 0 = m.k:=by rw [<- a2,e]; rfl
  have hn':(Z 6).i = ((Z 8).d.length:Int):=hn;have hp1:(Z 8).d.length = L'.length:=hp.1;rw [hk,hn',hp1]; rfl
theorem qsW:qge.ok Tryz.prog:=qC5 (by simp) fun Z hg hp=>by
 obtain ⟨M,L,h⟩:=hp;have h0:qbt (Z 9).h (Z 2).r (Z 3).d (Z 4).i (Z 6).i (Z 8).d M L:=h;obtain ⟨hn,hp,_,h255,hc⟩:=h;have hpl:=hp.1;simp (config:={ maxSteps:=4000000 }) [q5v,qge,qBf,qcg,gaB];have hn:(Z 6).i = ((Z 8).d.length:Int):=hn;have hpl:(Z 8).d.length = L.length:=hpl;refine ⟨by omega,⟨by omega,rfl⟩,fun a _ D _ i _ i0 i1 ha hD hr=>⟨fun hi=>?_,fun hi M' L' h'=>?_⟩⟩
 ·have hDl:D.d.length = i.i.toNat:=by
   have:=congrArg List.length hD;rw [qbh] at this;simpa [qav] using this
  have hnx:(qc .add .i64 i.i 1).toNat = i.i.toNat + 1:=by rw [qdz i0 (by omega)]; omega
  refine ⟨i0,by omega,ha,by omega,⟨by rw [qdz i0 (by omega)]; omega,by rw [qdz i0 (by omega)]; omega,ha,?_,fun row h=>qoe h hr⟩,by rw [qdz i0 (by omega)]; omega⟩;rw [hnx,qwa,qjE,hD];unfold pcI;rw [jay i0]
 ·obtain ⟨rfl,rfl⟩:=qg2 h0 h'
  refine ⟨ha,?_,hr⟩;rw [hD,<- qDj h0,show i.i.toNat = (Z 8).d.length by omega]
theorem qvW:qju.ok Tryz.prog:=q9y (by simp [qme]) fun Z hg hp=>by
 obtain ⟨M,L,h⟩:=hp;have h0:qbt (Z 9).h (Z 2).r (Z 3).d (Z 4).i (Z 6).i (Z 8).d M L:=h;simp (config:={ maxSteps:=4000000 }) [q0O,qju,qda,gaB];exact ⟨⟨M,L,h0⟩,fun u _ hu=>⟨fun hf M' L' h'=>by rw [<- hu M' L' h',hf],fun ht M' L' h'=>by rw [<- hu M' L' h',ht]⟩⟩
section
variable {h h':Hp} {r:Option Addr} {d P:qe} {c n e i:Int} {M:Option ManV} {L:PcL} {o b:List Int} {m:ManV}
theorem q8H (h1:qcX h P L) (hl:Hp.le h h'):qcX h' P L:=by
 refine ⟨h1.1,fun j hj=>?_,fun j hj=>?_⟩
 ·obtain ⟨i,v,d,e1,e2,e3⟩:=h1.2.1 j hj
  exact ⟨i,v,d,e1,qf6 e2 hl,e3⟩
 ·rw [<- h1.2.2 j hj]
  obtain ⟨i,v,d,e1,e2,e3⟩:=h1.2.1 j hj;have hv:qC P j 1 = v:=by simp only [qC,jal,e1,ja2]; rfl
  unfold pcD;rw [hv,qeZ e2,qeZ (qf6 e2 hl)]
theorem q93 (h1:qgl h d m) (hl:Hp.le h h'):qgl h' d m:=by
 obtain ⟨row,D,e,hf,hr,hx⟩:=h1;exact ⟨row,D,e,hf,qf6 hr hl,hx⟩
theorem qeF (h1:qbt h r d c n P M L) (hl:Hp.le h h'):qbt h' r d c n P M L:=by
 obtain ⟨a1,a2,a3,a4,a5⟩:=h1;refine ⟨a1,q8H a2 hl,a3,a4,?_⟩;rcases a5 with a5 | ⟨m,b1,b3,b4,b5⟩
 ·exact .inl a5
 ·exact .inr ⟨m,b1,b3,q93 b4 hl,b5⟩
theorem qDG (h1:qbt h r d c n P M L) (hl:Hp.le h h') (hne:¬ e = 0):qbt h' r d c n P (if e = 0 then some m else M) (if e = 0 then L ++ [(i,b)] else L):=by
 rw [jaf hne,jaf hne]; exact qeF h1 hl
section
variable {k n' t s l u:Int} {O R S z:List Int} {D J:qe} {x y:Bool}
theorem qi2 (hl:l = (D.length:Int)):ManV.ok ⟨k,n',t,s,O,dgs D⟩ = qy k n' t s l:=by
 unfold ManV.ok;rw [hl]; simp [dgs]
theorem qBr (hl:l = (D.length:Int)) (hid:(qy k n' t s l = false/\e = 2/\R = z)∨(qy k n' t s l = true/\e = 0/\R = S)) (hne:¬ e = 0):e = qfw o M L ⟨k,n',t,s,O,dgs D⟩ i b:=by
 rcases hid with ⟨h1,h2,_⟩ | ⟨_,h2,_⟩
 ·unfold qfw; rw [qi2 hl,jah h1,h2]
 ·exact absurd h2 hne
theorem qne (hid:(qy k n' t s l = false/\e = 2/\R = z)∨(qy k n' t s l = true/\e = 0/\R = S)) (he:e = 0):qy k n' t s l = true/\R = S:=by
 rcases hid with ⟨_,h2,_⟩ | ⟨h1,_,h3⟩
 ·omega
 ·exact ⟨h1,h3⟩
theorem q5p (hl:l = (D.length:Int)) (hid:(qy k n' t s l = false/\e = 2/\R = z)∨(qy k n' t s l = true/\e = 0/\R = sha (qan k n' t s O ++ (dgs D).flatten))) (he:e = 0) (hR:¬ R = o):20 = qfw o M L ⟨k,n',t,s,O,dgs D⟩ i b:=by
 obtain ⟨h1,h2⟩:=qne hid he;unfold qfw;rw [qi2 hl,jaf (by rw [h1]; simp),jah (by show sha (qan k n' t s O ++ (dgs D).flatten) ≠ o; rw [<- h2]; exact hR)]
theorem qBn (hl:l = (D.length:Int)) (hid:(qy k n' t s l = false/\e = 2/\R = z)∨(qy k n' t s l = true/\e = 0/\R = sha (qan k n' t s O ++ (dgs D).flatten))) (he:e = 0) (hR:R = o) (hc:u = qci k n' t s l (dgs D) i b) (hne:¬ u = 0):u = qfw o M L ⟨k,n',t,s,O,dgs D⟩ i b:=by
 obtain ⟨h1,h2⟩:=qne hid he;have hl':(((dgs D).length:Nat):Int) = l:=by rw [hl]; simp [dgs]
 unfold qfw;simp only [hl'];rw [qi2 hl,jaf (by rw [h1]; simp),jaf (fun h=>h (by rw [<- hR,h2]; rfl)),jah (by rw [<- hc]; exact hne),hc]
theorem qpE (hl:l = (D.length:Int)) (hid:(qy k n' t s l = false/\e = 2/\R = z)∨(qy k n' t s l = true/\e = 0/\R = sha (qan k n' t s O ++ (dgs D).flatten))) (he:e = 0) (hR:R = o) (hc:u = qci k n' t s l (dgs D) i b) (hu:u = 0):qfw o M L ⟨k,n',t,s,O,dgs D⟩ i b = if i ∈ L.map Prod.fst then 7 else if qa3 M L then 8 else 0:=by
 obtain ⟨h1,h2⟩:=qne hid he;have hl':(((dgs D).length:Nat):Int) = l:=by rw [hl]; simp [dgs]
 unfold qfw;simp only [hl'];rw [qi2 hl,jaf (by rw [h1]; simp),jaf (fun h=>h (by rw [<- hR,h2]; rfl)),jaf (by rw [<- hc,hu]; simp)]
theorem qpY (hq:∀ (M:Option ManV) (L:PcL),qbt h r d c n P M L->u = (J.length:Int)/\qt J = L.map Prod.fst/\∀ row,row ∈ J->row.length = 1) (h1:qbt h r d c n P M L):u = (J.length:Int)/\u <= 1000/\qt J = L.map Prod.fst/\∀ row,row ∈ J->row.length = 1:=by
 obtain ⟨a,b,e⟩:=hq M L h1;refine ⟨a,?_,b,e⟩;have h2:=congrArg List.length b;rw [qbh,ja7] at h2;have:=h1.2.2.2.1;omega
theorem qEN (hl:l = (D.length:Int)) (hid:(qy k n' t s l = false/\e = 2/\R = z)∨(qy k n' t s l = true/\e = 0/\R = sha (qan k n' t s O ++ (dgs D).flatten))) (he:e = 0) (hR:R = o) (hc:u = qci k n' t s l (dgs D) i b) (hu:u = 0) {u':Int}
  (hq:∀ (M:Option ManV) (L:PcL),qbt h r d c n P M L->u' = (J.length:Int)/\qt J = L.map Prod.fst/\∀ row,row ∈ J->row.length = 1) (h1:qbt h r d c n P M L) (hx:x = decide (i ∈ qt J)) (ht:x = true):7 = qfw o M L ⟨k,n',t,s,O,dgs D⟩ i b:=by
 rw [qpE hl hid he hR hc hu,jah];rw [<- (hq M L h1).2.1]; exact qES hx ht
theorem qFj (hl:l = (D.length:Int)) (hid:(qy k n' t s l = false/\e = 2/\R = z)∨(qy k n' t s l = true/\e = 0/\R = sha (qan k n' t s O ++ (dgs D).flatten))) (he:e = 0) (hR:R = o) (hc:u = qci k n' t s l (dgs D) i b) (hu:u = 0) {u':Int}
  (hq:∀ (M:Option ManV) (L:PcL),qbt h r d c n P M L->u' = (J.length:Int)/\qt J = L.map Prod.fst/\∀ row,row ∈ J->row.length = 1) (h1:qbt h r d c n P M L) (hx:x = decide (i ∈ qt J)) (ht:x = false) (hr:∀ (M:Option ManV) (L:PcL),qbt h r d c n P M L->y = qa3 M L):qfw o M L ⟨k,n',t,s,O,dgs D⟩ i b = if y then 8 else 0:=by
 rw [qpE hl hid he hR hc hu,jaf,<- hr M L h1];rw [<- (hq M L h1).2.1]; exact q5e hx ht
theorem qBA {v:Value} (hv:v.oneCell' = true) (hRd:Rd h k32 v D) (hD:qbJ D) (hO:qH (qf J 32)) (hok:qy k n' t s l = true) (hl:l = (D.length:Int)) :
  qgl h [[Value.int .i64 k,Value.int .i64 n',Value.int .i64 t,Value.int .i64 s] ++ ((qf J 32).map (Value.int .u8) ++ [v])] ⟨k,n',t,s,qf J 32,dgs D⟩:=by
 refine ⟨_,D,rfl,⟨by simp [qsG,qf],fun c kk w hk hw=>?_⟩,hRd,hD,rfl,rfl,rfl,rfl,rfl,rfl,hO,by rw [qi2 hl]; exact hok⟩;unfold qsG at hk;rcases jbu c 4 with h4 | h4
 ·rw [jar (by simpa using h4),jbf,jah h4] at hk
  rw [jar (by simpa using h4)] at hw;obtain rfl:=(jax hk).symm
  match c,h4 with
  | 0,_=>obtain rfl:=(jax hw).symm; rfl
  | 1,_=>obtain rfl:=(jax hw).symm; rfl
  | 2,_=>obtain rfl:=(jax hw).symm; rfl
  | 3,_=>obtain rfl:=(jax hw).symm; rfl
 ·rw [jao (by simpa using h4)] at hk
  rw [jao (by simpa using h4)] at hw;simp only [jaz,jba,jct] at hk hw;rcases jbu (c - 4) 32 with h5 | h5
  ·rw [jar (by simpa using h5),jbf,jah h5] at hk
   rw [jar (by simp [qf]; omega),jaq] at hw;obtain rfl:=(jax hk).symm;obtain ⟨q,_,rfl⟩:=jai.1 hw;rfl
  ·rw [jao (by simpa using h5)] at hk
   rw [jao (by simp [qf]; omega)] at hw;simp only [jaz,ja7] at hk hw;rw [show (qf J 32).length = 32 by simp [qf]] at hw
   match hc:c - 4 - 32,hk with
   | 0,hk =>
    rw [hc] at hw;obtain rfl:=(jax hk).symm;obtain rfl:=(jax hw).symm;unfold CK.fits; exact hv
   | q + 1,hk=>simp at hk
theorem qDV {v:Value} {B d':qe} {r':Option Addr} {m:ManV} (h1:qbt h r d c n P M L) (hl:Hp.le h h') (hRd:Rd h' kB v B) (hB:qk B) (hb9:(B.length:Int) <= 9000) (hm:qgl h' d' m) (hy:qa3 M L = false):qbt h' r' d' 1 (n + 1) (P ++ [[.int .i64 i,v]]) (some m) (L ++ [(i,bI B)]):=by
 have h2:=qeF h1 hl;obtain ⟨a1,a2,a3,a4,a5⟩:=h2;have hlen:L.length < 255:=by
  rcases a5 with ⟨_,_,_,_,rfl⟩ | ⟨m0,rfl,_,hm0,_⟩
  ·decide
  ·obtain ⟨_,_,_,_,_,_,_,_,_,_,_,_,_,hok⟩:=hm0
   unfold qa3 at hy;have hk:=jdb hy;have hk2:m0.k <= 255:=by
    unfold ManV.ok qy qam at hok;simp at hok;omega
   omega
 have hPl:=a2.1;refine ⟨by rw [jaj,jck]; omega,⟨by rw [jaj,jaj,hPl]; rfl,fun j hj=>?_,fun j hj=>?_⟩,fun x hx=>?_,by rw [jaj,jck]; omega,.inr ⟨m,rfl,rfl,hm,by simp⟩⟩
 ·rw [jaj,jck] at hj
  rcases jbu j P.length with hjP | hjP
  ·obtain ⟨i0,v0,d0,e1,e2⟩:=a2.2.1 j hjP
   exact ⟨i0,v0,d0,by rw [jar hjP]; exact e1,e2⟩
  ·have:j = P.length:=by omega
   subst this;exact ⟨i,v,B,by rw [jao (ja4 _),jds]; rfl,hRd,hB⟩
 ·rw [jaj,jck] at hj
  rcases jbu j P.length with hjP | hjP
  ·have h3:=a2.2.2 j hjP
   have e1:pcI (P ++ [[.int .i64 i,v]]) j = pcI P j:=by unfold pcI qb qC; rw [jal,jar hjP]
   have e2:pcD h' (P ++ [[.int .i64 i,v]]) j = pcD h' P j:=by unfold pcD qC; rw [jal,jar hjP]
   rw [e1,e2,h3,jab,jab,jar (by omega)]
  ·have:j = P.length:=by omega
   subst this;have e1:pcI (P ++ [[.int .i64 i,v]]) P.length = i:=by unfold pcI qb qC; rw [jal,jao (ja4 _),jds]; rfl
   have e2:pcD h' (P ++ [[.int .i64 i,v]]) P.length = bI B:=by
    unfold pcD qC;rw [jal,jao (ja4 _),jds];exact qeZ hRd
   rw [e1,e2,hPl,jab,jao (ja4 _),jds]; rfl
 ·rcases jaw.1 hx with hx | hx
  ·exact a3 x hx
  ·rw [jak.1 hx,bI_len]; exact hb9
end
end
theorem qDh {h h':Hp} {r r':Option Addr} {d P:qe} {c n e i:Int} {M:Option ManV} {L:PcL} {k n' t s l:Int} {R S z:List Int} {D D' B B' J:qe} {y:Bool} {a a':Option Addr} {x x' q q':Nat} (h1:qbt h r d c n P M L) (hl:Hp.le h h')
  (hid:(qy k n' t s l = false/\e = 2/\R = z)∨(qy k n' t s l = true/\e = 0/\R = S)) (he:e = 0) (hy:∀ (M:Option ManV) (L:PcL),qbt h r d c n P M L->y = qa3 M L) (hyf:y = false) (hRb:Rd h' kB (.slice a B'.length q) B') (eB:B' = B) (hRd:Rd h' k32 (.slice a' D'.length q') D') (eD:D' = D)
  (hx:x = B.length) (hx':x' = D.length) (hB:qk B) (hb9:(B.length:Int) <= 9000) (hD:qbJ D) (hO:qH (qf J 32)) (hml:l = (D.length:Int)) :
  qbt h' r' [[Value.int .i64 k,Value.int .i64 n',Value.int .i64 t,Value.int .i64 s] ++ ((qf J 32).map (Value.int .u8) ++ [.slice a' x' q'])] 1 (n + 1) (P ++ [[.int .i64 i,.slice a x q]]) (some ⟨k,n',t,s,qf J 32,dgs D⟩) (L ++ [(i,bI B)]):=by
 subst eB eD hx hx';exact qDV h1 hl hRb hB hb9 (qBA rfl hRd hD hO (qne hid he).1 hml) (by rw [<- hy M L h1]; exact hyf)
theorem q2c {Z:Env} {l:List SH} {H:Hp} (r ty d c:Nat) (pat:List CK) (hs:qac Z l H) (hm:SH.arr r ty pat (.var d) (.var c) ∈ l):Rd H pat (.slice (qn (Z r).r 0) (Z d).d.length (Z c).i.toNat) (Z d).d:=by
 obtain ⟨hx,hl,hd⟩:=qja hs hm;exact qvV hd hl rfl rfl
set_option maxHeartbeats 4000000 in
theorem qxy:qgd.ok Tryz.prog:=q8Y (by simp [qBi,qu9,qsW,qoC,qme,quj,quc]) fun Z hg hp=>by
 obtain ⟨⟨⟨M,L,h⟩,hO,hMan,hi64,hpa,h9⟩,hGr,hGd⟩:=hp;have h0:qbt (Z 9).h (Z 2).r (Z 3).d (Z 4).i (Z 6).i (Z 8).d M L:=h;obtain ⟨q0,q1,q2,q3,hOm,hml,hml2,hD⟩:=hMan;obtain ⟨p0,p1,p2,p3⟩:=hpa;simp only [Nat.reduceAdd] at q0 q1 q2 q3 hOm hml hml2 hD p0 p1 p2 p3;obtain ⟨hn0,hp0,_,h255,_⟩:=id h0;have hpl0:=hp0.1;simp (config:={ maxSteps:=4000000 }) [q1O,qgd,idC,qjg,qqK,qhc,qfE,qlc,qge,qev,qda,qeI,qg7,gaB,qdm,qbx,qcg,qd6,qcI,qf4,qgc,qsR,qbe,qN,gOk,hGr,hGd]
 repeat' (first | with_reducible apply And.intro | with_reducible intro _)
 all_goals first
  | assumption
  | omega
  | exact ⟨M,L,h0⟩
  | exact qBr (by assumption) (by assumption) (by assumption)
  | exact q5p (by assumption) (by assumption) (by assumption) (by assumption)
  | exact qEN (by assumption) (by assumption) (by assumption) (by assumption) (by assumption) (by assumption) (by assumption) (by assumption) (by assumption) (by assumption)
  | (rw [qFj (by assumption) (by assumption) (by assumption) (by assumption) (by assumption) (by assumption) (by assumption) (by assumption) (by assumption) (by assumption) (by assumption)]; simp [*]; done)
  | exact (qpY (by assumption) h0).1
  | exact Int.le_trans (qpY (by assumption) h0).2.1 (by decide)
  | exact (qpY (by assumption) h0).2.2.2 _ (by assumption)
  | exact qBn (by assumption) (by assumption) (by assumption) (by assumption) (by assumption) (by assumption)
  | exact qDG (by assumption) (by have h:=qbI 9 20 (by assumption) (by simp); simpa using h) (by assumption)
  | exact qeF (by assumption) (by have h:=qbI 9 20 (by assumption) (by simp); simpa using h)
  | skip
 rename_i hst M1 L1 h1;have hle:=qbI 9 20 hst (by simp);have hRb:=q2c 43 5 45 44 kB hst (by simp [kB]);have hRd:=q2c 40 24 42 41 k32 hst (by simp [k32]);simp at hRb hRd hle;exact qDh (J:=(Z 14).d) h1 hle (by assumption) (by assumption) (by assumption) (by assumption) hRb (by assumption) hRd (by assumption) (by omega) (by omega) p3 (by omega) hD hOm hml
end Go.Proofs
