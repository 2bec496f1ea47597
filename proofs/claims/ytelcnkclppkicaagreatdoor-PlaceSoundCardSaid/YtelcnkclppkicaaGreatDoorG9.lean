/- Texts PK, PM, PN, PP, PQ, PT, PU, PV, PY, PZ, QM, QI, QN, QR, RD, TH, TK, PA, PB, PC, PD, PE, P0, P1, PX, PW, QB, QC, QE, QD, QG, QH. -/
import Derived.Test.YtelcnkclppkicaaGreatDoorG8
import Derived.Test.YtelcnkclppkicaaGreatDoorG7
import Derived.Test.YtelcnkclppkicaaGreatDoorProg
import Derived.Test.YtelcnkclppkicaaGreatDoorG5
import Derived.Test.YtelcnkclppkicaaGreatDoorG4
import Derived.Shelf.SlSortCmp.NoneTotal
import Derived.Deep.QuietTactic
import Derived.BigQuiet
import Derived.Ground.SlsfProg
import Derived.Test.YtelcnkclppkicaaGreatDoorG3
set_option linter.unusedSimpArgs false
set_option linter.unusedVariables false
namespace Go.Proofs
open Go Go.Eng
set_option maxRecDepth 20000
theorem qrR:qc7.ok Tryz.prog:=q83 (by simp) fun ρ hg hp=>by
 simp (config:={ maxSteps:=4000000 }) [qxs,qc7,qqH]
 exact ⟨fun h=>by simp [qH,h],fun h1 h2=>by omega⟩
theorem q04 (d:qd) (p:Int):(qg d 32).map (fun x=>[Value.int .u8 x]) ++ [[Value.int .u8 (IntKind.u8.wrap p)]] = [[.int .u8 (qa d 0)],[.int .u8 (qa d 1)],[.int .u8 (qa d 2)],[.int .u8 (qa d 3)],[.int .u8 (qa d 4)],[.int .u8 (qa d 5)],[.int .u8 (qa d 6)],[.int .u8 (qa d 7)],[.int .u8 (qa d 8)],[.int .u8 (qa d 9)],[.int .u8 (qa d 10)],[.int .u8 (qa d 11)],[.int .u8 (qa d 12)],[.int .u8 (qa d 13)],[.int .u8 (qa d 14)],[.int .u8 (qa d 15)],[.int .u8 (qa d 16)],[.int .u8 (qa d 17)],[.int .u8 (qa d 18)],[.int .u8 (qa d 19)],[.int .u8 (qa d 20)],[.int .u8 (qa d 21)],[.int .u8 (qa d 22)],[.int .u8 (qa d 23)],[.int .u8 (qa d 24)],[.int .u8 (qa d 25)],[.int .u8 (qa d 26)],[.int .u8 (qa d 27)],[.int .u8 (qa d 28)],[.int .u8 (qa d 29)],[.int .u8 (qa d 30)],[.int .u8 (qa d 31)],[.int .u8 (IntKind.u8.wrap p)]]:=rfl
theorem qxj (d:qd) (p:Int):bI ((qg d 32).map (fun x=>[Value.int .u8 x]) ++ [[Value.int .u8 (IntKind.u8.wrap p)]]) = qg d 32 ++ [p % 256]:=by
 rw [qqa]
 congr 1
theorem q02 {d:qd} {p:Int} (h:qL (qg d 32)):qn ((qg d 32).map (fun x=>[Value.int .u8 x]) ++ [[Value.int .u8 (IntKind.u8.wrap p)]]):=by
 refine q9g ?_
 rw [qxj]
 intro x hx
 rcases List.mem_append.1 hx with hx | hx
 ·exact h x hx
 ·rw [List.mem_singleton.1 hx]; exact ⟨Int.emod_nonneg _ (by decide),Int.emod_lt_of_pos _ (by decide)⟩
theorem qxe:qcz.ok Tryz.prog:=q7u (by simp [qhj]) fun ρ hg hp=>by
 obtain ⟨hO,hGr,hGd⟩:=hp
 simp (config:={ maxSteps:=4000000 }) [qrc,qcz,qah,qhJ,gOk,hGr,hGd,hO]
 rw [<- q04]
 refine fun u _ hu=>⟨⟨by omega,q02 hO⟩,fun v _ hv=>?_⟩
 rw [hv,qhV (by simp [qg]),qxj]; rfl
theorem qyT:qeb.ok Tryz.prog:=q8F (by simp [qxe]) fun ρ hg hp=>by
 obtain ⟨hO,hGr,hGd⟩:=hp
 simp (config:={ maxSteps:=4000000 }) [qwN,qeb,qcz,gOk,hGr,hGd,hO]
theorem q1B:qcX.ok Tryz.prog:=q1C (by simp [q8R]) fun ρ hg hp=>by
 obtain ⟨h1,h3⟩:=hp
 simp (config:={ maxSteps:=4000000 }) [qlF,qcX,qkQ]
 refine ⟨⟨⟨_,rfl,rfl⟩,⟨_,rfl,rfl⟩,h1,h3⟩,fun u _ hu=>?_⟩
 have hu:u.i = qbB (qg (ρ 1).d 32) (qg (ρ 3).d 32):=hu
 rw [<- hu]
 exact ⟨fun h=>by simp [h],fun h=>by simp [h]⟩
theorem qtg:qbZ.ok Tryz.prog:=q3K (by simp [qyT,q1B]) fun ρ hg hp=>by
 obtain ⟨hO,hGr,hGd⟩:=hp
 simp (config:={ maxSteps:=4000000 }) [qoF,qbZ,qeb,qcX,gOk,hGr,hGd,hO]
 intro u _ hu u1 _ hu1
 rw [hu,hu1]
 unfold qS
 refine ⟨fun h=>by rw [if_pos h]; rfl,fun h=>⟨⟨qgz _,qgz _⟩,fun v _ hv=>?_⟩⟩
 rw [if_neg (fun h'=>h (qfF.1 h'))] at hv
 rw [if_neg h,hv]; rfl
theorem qnT {L:List Int}:qdB [List.replicate 16 (.bool false)] L 0:=by
 refine ⟨⟨_,rfl,List.length_replicate ..⟩,fun x h0 h1=>⟨fun h=>?_,fun h=>by simp at h⟩⟩
 exfalso
 have h2:qap [List.replicate 16 (Value.bool false)] x.toNat = false:=by
  unfold qap
  rw [List.headD_cons,List.getElem?_replicate,if_pos (by omega)]; rfl
 rw [h2] at h; cases h
theorem qiF {L:List Int} {n:Nat} (hn:n < L.length):L.take (n + 1) = L.take n ++ [L.getD n 0]:=by
 rw [List.take_add_one,List.getElem?_eq_getElem hn,List.getD_eq_getElem?_getD,List.getElem?_eq_getElem hn]; rfl
theorem qof {s:qd} {L:List Int} {n:Nat} {y:Int} (h:qdB s L n) (hn:n < L.length) (hy:y = L.getD n 0) (h0:0 <= y) (h1:y < 16):qdB (qas s y.toNat (.bool true)) L (n + 1):=by
 obtain ⟨⟨row,rfl,hr⟩,h2⟩:=h
 refine ⟨⟨_,rfl,by rw [List.length_set]; exact hr⟩,fun x x0 x1=>?_⟩
 have hc:qap (qas [row] y.toNat (.bool true)) x.toNat = if x = y then true else qap [row] x.toNat:=by
  unfold qap qas
  rw [List.headD_cons,List.headD_cons,List.getElem?_set]
  by_cases hxe:x = y
  ·rw [if_pos (by rw [hxe]),if_pos (by omega),if_pos hxe]; rfl
  ·rw [if_neg (fun e=>hxe (by omega)),if_neg hxe]
 rw [hc,qiF hn,<- hy,List.mem_append,List.mem_singleton]
 by_cases hxe:x = y
 ·rw [if_pos hxe]; exact ⟨fun _=>.inr hxe,fun _=>rfl⟩
 ·rw [if_neg hxe,h2 x x0 x1]
  exact ⟨.inl,fun h=>h.resolve_right hxe⟩
theorem qnR {s:qd} {L:List Int} {n:Nat} {y:Int} (h:qdB s L n) (hn:n < L.length) (hy:y = L.getD n 0) (hne:¬ (0 <= y/\y < 16)):qdB s L (n + 1):=by
 refine ⟨h.1,fun x x0 x1=>?_⟩
 rw [h.2 x x0 x1,qiF hn,<- hy,List.mem_append,List.mem_singleton]
 exact ⟨.inl,fun h=>h.resolve_right (fun e=>hne (by omega))⟩
theorem qeM {d:qd} {i:Int} (h0:0 <= i) (h1:i < d.length):qb d i 0 = (qx d).getD i.toNat 0:=by
 have hl:i.toNat < d.length:=by omega
 rw [qx,List.getD_eq_getElem?_getD,List.getElem?_map,List.getElem?_eq_getElem hl]
 simp [qb,qF,qb6,List.getElem?_eq_getElem hl]
theorem q3k:qet.ok Tryz.prog:=q9C (by simp [qrR]) fun ρ hg hp=>by
 obtain ⟨hl,h1,hr⟩:=hp
 simp only [Nat.reduceAdd] at hl h1 hr
 simp (config:={ maxSteps:=4000000 }) [qnr,qet,qrE,qc7,hl]
 have hil:(qx (ρ 3).d).length = (ρ 3).d.length:=by simp [qx]
 refine ⟨qnT,fun s _ i _ i0 i1 hs=>⟨fun hi=>⟨i0,hi,fun u _ hu=>⟨fun ht=>?_,fun hf=>?_⟩⟩,fun hi=>?_⟩⟩
 ·have hp:0 <= qb (ρ 3).d i.i 0/\qb (ρ 3).d i.i 0 < 16:=by rw [hu] at ht; exact of_decide_eq_true ht
  have hsl:0 < s.d.length:=by obtain ⟨⟨row,e,_⟩,_⟩:=hs; rw [e]; exact Nat.one_pos
  rw [add64 (x:=i.i) (by omega) (by omega)]
  refine ⟨hp.1,hp.2,hsl,⟨by omega,by omega,?_⟩,by omega⟩
  rw [show (i.i + 1).toNat = i.i.toNat + 1 by omega]
  exact qof hs (by omega) (qeM i0 hi) hp.1 hp.2
 ·have hp:¬ (0 <= qb (ρ 3).d i.i 0/\qb (ρ 3).d i.i 0 < 16):=by rw [hu] at hf; exact of_decide_eq_false hf
  rw [add64 (x:=i.i) (by omega) (by omega)]
  refine ⟨⟨by omega,by omega,?_⟩,by omega⟩
  rw [show (i.i + 1).toNat = i.i.toNat + 1 by omega]
  exact qnR hs (by omega) (qeM i0 hi) hp
 ·obtain ⟨⟨row,hs1,hrl⟩,hs2⟩:=hs
  rw [List.take_of_length_le (by omega)] at hs2
  rw [hs1] at hs2 ⊢
  match row,hrl with
  | [a0,a1,a2,a3,a4,a5,a6,a7,a8,a9,a10,a11,a12,a13,a14,a15],_ =>
   refine ⟨by simp,?_⟩
   have key:qfj ((List.range 16).map (qap [[a0,a1,a2,a3,a4,a5,a6,a7,a8,a9,a10,a11,a12,a13,a14,a15]])) (qx (ρ 3).d):=⟨by simp,fun j hj=>by
    rw [List.getD_eq_getElem?_getD,List.getElem?_map,List.getElem?_range hj]
    exact hs2 j (by omega) (by omega)⟩
   exact key
end Go.Proofs

set_option linter.unusedSimpArgs false
set_option linter.unusedVariables false
set_option maxRecDepth 100000
namespace Go.Proofs
open Go Go.Eng

end Go.Proofs

set_option linter.unusedSimpArgs false
set_option linter.unusedVariables false
namespace Go.Proofs
open Go Go.Eng
set_option maxRecDepth 20000
theorem qdb {d:qd}:(qx d).length = d.length:=by simp [qx]
end Go.Proofs

set_option linter.unusedSimpArgs false
set_option linter.unusedVariables false
set_option maxRecDepth 100000
namespace Go.Proofs
open Go Go.Eng

def qsn:Out:=(.need (.cmp .leq (.lit 0) (.var 1)) (.inv 0 6 (sg 1000 [bt 1000 (.lit 0)]) (.fresh 6 (.hyp 0 6 (.br (.cmp .lss (.var 6) (.var 1))
 (.need (.cmp .leq (.lit 0) (.var 6)) (.need (.cmp .lss (.var 6) (.dlen (.var 3))) (.br (.cmp .eql (.var 5) (.icell (.var 3) (.var 6) 0))
 (.ret 0 (sg 6 [bv 6 6]))
 (.back 0 6 (sg 1000 [bt 1000 (.arith .add .i64 (.var 6) (.lit 1))])))))
 (.ret 0 (sg 6 [bt 6 (.lit (-1))])))))))
theorem q0G:qj ⟨Tryz.prog,qfa,[],[qxx]⟩ 100000 Tryz.f121 = qsn:=by kernel_rfl
theorem q6M (hd:∀ c ∈ ([]:List Ctr),c.ok Tryz.prog) (h:∀ ρ:Env,ρ.good->(qfa).pre ρ->qsn.den ⟨Tryz.prog,qfa,[],[qxx]⟩ ρ):(qfa).ok Tryz.prog :=
 qf Tryz.func121 (fun a w=>Tryz.call121 a w) hd 100000 (fun ρ hg hp=>by rw [q0G]; exact h ρ hg hp)
def qk8:Out:=(.pre 0 (sg 0 [bv 4 4,bv 3 3,bv 5 5,bv 2 2,bv 1 1,bg 0 0]) (.both (.fresh 6 (.post 0 0 (sg 0 [bv 4 4,bv 3 3,bv 5 5,bv 2 2,bv 1 1,bg 0 0]) 6 (.ret 0 (sg 6 [bt 6 (.cmp .geq (.var 6) (.lit 0))])))) .top))
theorem qtL:qj ⟨Tryz.prog,qaZ,[qfa],[]⟩ 100000 Tryz.f84 = qk8:=by kernel_rfl
theorem qxA (hd:∀ c ∈ ([qfa]:List Ctr),c.ok Tryz.prog) (h:∀ ρ:Env,ρ.good->(qaZ).pre ρ->qk8.den ⟨Tryz.prog,qaZ,[qfa],[]⟩ ρ):(qaZ).ok Tryz.prog :=
 qf Tryz.func84 (fun a w=>Tryz.call84 a w) hd 100000 (fun ρ hg hp=>by rw [qtL]; exact h ρ hg hp)
end Go.Proofs

set_option linter.unusedSimpArgs false
set_option linter.unusedVariables false
namespace Go.Proofs
open Go Go.Eng
set_option maxRecDepth 20000
theorem qep {L:List Int} {n:Nat}:qJ L (n + 1) = qJ L n ++ (if (n:Int) ∈ L then [(n:Int)] else []):=by
 unfold qJ
 rw [List.range_succ,List.map_append,List.filter_append]
 congr 1
 simp only [List.map_cons,List.map_nil,List.filter_cons,List.filter_nil,decide_eq_true_eq]
theorem qms {d:qd} {x:Int}:qx (d ++ [[.int .i64 x]]) = qx d ++ [x]:=by simp [qx,qb6,qag]
theorem q7q:qfa.ok Tryz.prog:=q6M (by simp) fun ρ hg hp=>by
 obtain ⟨hl,h1,hr⟩:=hp
 simp only [Nat.reduceAdd] at hl h1 hr
 simp (config:={ maxSteps:=4000000 }) [qsn,qfa,qxx,hl]
 have hil:=qdb (d:=(ρ 3).d)
 intro i _ i0 i1 hno
 refine ⟨fun hi=>⟨i0,hi,fun he=>⟨fun _=>?_,fun _=>i0⟩,fun hne=>?_⟩,fun hi=>?_⟩
 ·rw [he,qeM i0 hi,List.getD_eq_getElem?_getD,List.getElem?_eq_getElem (by omega)]
  exact List.getElem_mem _
 ·rw [qeM i0 hi] at hne
  rw [add64 (x:=i.i) (by omega) (by omega)]
  refine ⟨⟨by omega,by omega,?_⟩,by omega⟩
  rw [show (i.i + 1).toNat = i.i.toNat + 1 by omega,qiF (by omega),List.mem_append,List.mem_singleton]
  exact fun h=>h.elim hno fun h=>hne h
 ·rw [List.take_of_length_le (by omega)] at hno
  exact hno
theorem qod:qaZ.ok Tryz.prog:=qxA (by simp [q7q]) fun ρ hg hp=>by
 obtain ⟨hl,h1,hr⟩:=hp
 simp only [Nat.reduceAdd] at hl h1 hr
 simp (config:={ maxSteps:=4000000 }) [qk8,qaZ,qfa,qeU,qcw,hl]
 refine ⟨⟨by omega,hr⟩,fun u _ hu=>?_⟩
 show decide (u.i ≥ 0) = _
 exact decide_eq_decide.2 hu
end Go.Proofs

set_option linter.unusedSimpArgs false
set_option linter.unusedVariables false
set_option maxRecDepth 100000
namespace Go.Proofs
open Go Go.Eng

def qov:Out:=(.fresh 9 (.pre 0 (sg 0 [bv 4 5,bv 3 4,bv 2 3,bv 1 2,bg 0 1]) (.both (.fresh 10 (.fresh 11 (.fresh 12 (.fresh 13 (.fresh 14 (.fresh 15 (.fresh 16 (.fresh 17 (.fresh 18 (.fresh 19 (.fresh 20 (.fresh 21 (.fresh 22 (.fresh 23 (.fresh 24 (.fresh 25 (.post 0 0 (sg 0 [bv 4 5,bv 3 4,bv 2 3,bv 1 2,bg 0 1]) 10 (.inv 0 26 (sg 1000 [bt 1005 .dnil,bt 1001 (.lit 0),bt 1004 (.lit 0),bt 1003 (.lit 0),(1002,.nil),bg 1000 9]) (.fresh 26 (.fresh 27 (.fresh 28 (.fresh 29 (.fresh 30 (.fresh 31 (.hyp 0 26 (.br (.cmp .lss (.var 27) (.lit 16))
 (.need (.cmp .leq (.lit 0) (.var 27)) (.br (.c2 (.xbool 0) (.rcons (.vbool (.var 10)) (.rcons (.vbool (.var 11)) (.rcons (.vbool (.var 12)) (.rcons (.vbool (.var 13)) (.rcons (.vbool (.var 14)) (.rcons (.vbool (.var 15)) (.rcons (.vbool (.var 16)) (.rcons (.vbool (.var 17)) (.rcons (.vbool (.var 18)) (.rcons (.vbool (.var 19)) (.rcons (.vbool (.var 20)) (.rcons (.vbool (.var 21)) (.rcons (.vbool (.var 22)) (.rcons (.vbool (.var 23)) (.rcons (.vbool (.var 24)) (.rcons (.vbool (.var 25)) .rnil)))))))))))))))) (.var 27))
 (.pre 1 (sg 0 [bv 3 8,bv 1 27,bt 0 (r8 0),bg 2 7]) (.both (.fresh 32 (.fresh 33 (.post 1 0 (sg 0 [bv 3 8,bv 1 27,bt 0 (r8 0),bg 2 7]) 32 (.fresh 34 (.need (.cmp .eql (.var 29) (.dlen (.var 31))) (.need (.cmp .leq (.tims (.lit 40) (.plus (.var 29) (.lit 1))) (.lit 140737488355328)) (.fresh 35 (.fresh 36 (.back 0 26 (sg 1000 [bt 1005 (.dapp (.var 31) (.rcons (.vint .i64 (.var 27)) (r8 32))),bt 1001 (.arith .add .i64 (.var 27) (.lit 1)),bv 1004 36,bt 1003 (.plus (.var 29) (.lit 1)),bg 1002 35,bg 1000 26])))))))))) .top))
 (.back 0 26 (sg 1000 [bv 1005 31,bt 1001 (.arith .add .i64 (.var 27) (.lit 1)),bv 1004 30,bv 1003 29,bg 1002 28,bg 1000 26]))))
 (.pre 2 (sg 0 [bv 3 31,bv 2 30,bv 1 29,bg 0 28]) (.both (.fresh 32 (.post 2 0 (sg 0 [bv 3 31,bv 2 30,bv 1 29,bg 0 28]) 32 (.fresh 33 (.need (.cmp .leq (.lit 0) (.var 29)) (.know (.cmp .leq (.dlen (.var 32)) (.var 30)) (.need (.cmp .leq (.lit 0) (.var 30)) (.need (.cmp .leq (.lit 0) (.imin (.imax (.var 6) (.lit 0)) (.var 29))) (.need (.cmp .leq (.imin (.imax (.var 6) (.lit 0)) (.var 29)) (.var 30)) (.inv 1 34 (sg 1000 [bt 1008 .dnil,bv 1007 32,bt 1006 (.lit 0),bt 1005 (.lit 0),bg 1004 33,bt 1003 (.lit 0),bv 1002 30,bt 1001 (.imin (.imax (.var 6) (.lit 0)) (.var 29)),bg 1000 28]) (.fresh 34 (.fresh 35 (.fresh 36 (.fresh 37 (.fresh 38 (.fresh 39 (.fresh 40 (.fresh 41 (.fresh 42 (.hyp 1 34 (.br (.cmp .lss (.var 37) (.var 35))
 (.need (.cmp .leq (.lit 0) (.var 37)) (.need (.cmp .lss (.var 37) (.dlen (.var 41))) (.fresh 43 (.fresh 44 (.need (.cmp .eql (.var 39) (.dlen (.var 42))) (.need (.cmp .leq (.tims (.lit 8) (.plus (.var 39) (.lit 1))) (.lit 140737488355328)) (.fresh 45 (.fresh 46 (.back 1 34 (sg 1000 [bt 1008 (.dapp (.var 42) (.rcons (.vint .i64 (.icell (.var 41) (.var 37) 0)) .rnil)),bv 1007 41,bv 1006 46,bt 1005 (.plus (.var 39) (.lit 1)),bg 1004 45,bt 1003 (.arith .add .i64 (.var 37) (.lit 1)),bv 1002 36,bv 1001 35,bg 1000 34]))))))))))
 (.ret 0 (sg 9 [bv 12 42,bv 11 40,bv 10 39,bg 9 38])))))))))))))))))))))) .top)))))))))))))))))))))))))))) .top)))
theorem qy9:qj ⟨Tryz.prog,qbs,[qet,qeb,qeK],[qrf,qrn]⟩ 100000 Tryz.f32 = qov:=by kernel_rfl
theorem q4h (hd:∀ c ∈ ([qet,qeb,qeK]:List Ctr),c.ok Tryz.prog) (h:∀ ρ:Env,ρ.good->(qbs).pre ρ->qov.den ⟨Tryz.prog,qbs,[qet,qeb,qeK],[qrf,qrn]⟩ ρ):(qbs).ok Tryz.prog :=
 qf Tryz.func32 (fun a w=>Tryz.call32 a w) hd 100000 (fun ρ hg hp=>by rw [qy9]; exact h ρ hg hp)
def qlP:Out:=(.fresh 4 (.fresh 5 (.inv 0 6 (sg 1000 [bt 1004 .dnil,bt 1005 (.lit 0),bt 1006 (.imin (.imax (.var 1) (.lit 0)) (.lit 16)),bt 1003 (.lit 0),bt 1002 (.lit 0),bg 1001 5,bg 1000 4]) (.fresh 6 (.fresh 7 (.fresh 8 (.fresh 9 (.fresh 10 (.fresh 11 (.fresh 12 (.hyp 0 6 (.br (.cmp .lss (.var 11) (.var 12))
 (.fresh 13 (.need (.cmp .eql (.var 8) (.dlen (.var 10))) (.need (.cmp .leq (.tims (.lit 8) (.plus (.var 8) (.lit 1))) (.lit 140737488355328)) (.fresh 14 (.fresh 15 (.back 0 6 (sg 1000 [bt 1004 (.dapp (.var 10) (.rcons (.vint .i64 (.var 11)) .rnil)),bt 1005 (.arith .add .i64 (.var 11) (.lit 1)),bv 1006 12,bv 1003 15,bt 1002 (.plus (.var 8) (.lit 1)),bg 1001 14,bg 1000 6])))))))
 (.pre 0 (sg 0 [bv 8 3,bv 5 9,bv 4 10,bt 6 (.lit 16),bv 3 9,bv 2 8,bg 1 7,bt 0 (r8 0),bg 7 2]) (.both (.fresh 13 (.fresh 14 (.fresh 15 (.fresh 16 (.post 0 0 (sg 0 [bv 8 3,bv 5 9,bv 4 10,bt 6 (.lit 16),bv 3 9,bv 2 8,bg 1 7,bt 0 (r8 0),bg 7 2]) 13 (.ret 0 (sg 4 [bv 7 16,bv 6 15,bv 5 14,bg 4 13]))))))) .top))))))))))))))
theorem qw6:qj ⟨Tryz.prog,qcx,[qbs],[qph]⟩ 100000 Tryz.f29 = qlP:=by kernel_rfl
theorem q1L (hd:∀ c ∈ ([qbs]:List Ctr),c.ok Tryz.prog) (h:∀ ρ:Env,ρ.good->(qcx).pre ρ->qlP.den ⟨Tryz.prog,qcx,[qbs],[qph]⟩ ρ):(qcx).ok Tryz.prog :=
 qf Tryz.func29 (fun a w=>Tryz.call29 a w) hd 100000 (fun ρ hg hp=>by rw [qw6]; exact h ρ hg hp)
def qwT:Out:=(.fresh 12 (.br (.var 9)
 (.br (.var 8)
 (.ret 0 (sg 12 [bt 12 (.lit 3)]))
 (.ret 0 (sg 12 [bt 12 (.lit 0)])))
 (.br (.cmp .lss (.var 7) (.lit 1))
 (.ret 0 (sg 12 [bt 12 (.lit 0)]))
 (.pre 0 (sg 0 [bv 8 11,bv 5 6,bv 4 5,bv 6 7,bv 3 4,bv 2 3,bg 1 2,bt 0 (r8 0),bg 7 10]) (.both (.fresh 13 (.fresh 14 (.fresh 15 (.fresh 16 (.post 0 0 (sg 0 [bv 8 11,bv 5 6,bv 4 5,bv 6 7,bv 3 4,bv 2 3,bg 1 2,bt 0 (r8 0),bg 7 10]) 13 (.pre 1 (sg 0 [bv 4 15,bv 3 16,bv 5 1,bv 2 15,bv 1 14,bg 0 13]) (.both (.fresh 17 (.post 1 0 (sg 0 [bv 4 15,bv 3 16,bv 5 1,bv 2 15,bv 1 14,bg 0 13]) 17 (.br (.var 17)
 (.br (.not (.var 8))
 (.ret 0 (sg 12 [bt 12 (.lit 1)]))
 (.ret 0 (sg 12 [bt 12 (.lit 0)])))
 (.br (.var 8)
 (.need (.cmp .leq (.lit 0) (.var 14)) (.br (.cmp .eql (.var 14) (.var 7))
 (.ret 0 (sg 12 [bt 12 (.lit 2)]))
 (.ret 0 (sg 12 [bt 12 (.lit 0)]))))
 (.ret 0 (sg 12 [bt 12 (.lit 0)])))))) .top))))))) .top)))))
theorem q3V:qj ⟨Tryz.prog,qgl,[qbs,qaZ],[]⟩ 100000 Tryz.f35 = qwT:=by kernel_rfl
theorem q87 (hd:∀ c ∈ ([qbs,qaZ]:List Ctr),c.ok Tryz.prog) (h:∀ ρ:Env,ρ.good->(qgl).pre ρ->qwT.den ⟨Tryz.prog,qgl,[qbs,qaZ],[]⟩ ρ):(qgl).ok Tryz.prog :=
 qf Tryz.func35 (fun a w=>Tryz.call35 a w) hd 100000 (fun ρ hg hp=>by rw [q3V]; exact h ρ hg hp)
end Go.Proofs

set_option linter.unusedSimpArgs false
set_option linter.unusedVariables false
namespace Go.Proofs
open Go Go.Eng
variable {o:List Int}
theorem qjX {a b:Int}:(!qS o b a) = true↔qdt o a b <= 0:=by
 rw [qf9,Bool.not_eq_true',decide_eq_false_iff_not,qkS (a:=a) (b:=b)]; omega
theorem qh9 {l:List Int}:(qau o l).Perm l:=List.mergeSort_perm l _
theorem q7n {l:List Int}:(qau o l).Pairwise fun a b=>(!qS o b a) = true:=by
 refine List.pairwise_mergeSort (fun a b c h1 h2=>?_) (fun a b=>?_) l
 ·rw [qjX] at h1 h2 ⊢
  by_cases e1:qdt o a b = 0
  ·rw [qfC.1 e1]; exact h2
  ·by_cases e2:qdt o b c = 0
   ·rw [<- qfC.1 e2]; exact h1
   ·have:=qky (o:=o) (a:=a) (b:=b) (c:=c) (by omega) (by omega)
    omega
 ·rw [Bool.or_eq_true,qjX,qjX,qkS (a:=a) (b:=b)]; omega
theorem qvs {l:List Int} (h:l.Nodup):qnq o l (qau o l):=by
 refine ⟨qh9,?_⟩
 have hn:(qau o l).Nodup:=qh9.nodup_iff.2 h
 refine List.Pairwise.imp₂ (fun a b h1 h2=>?_) q7n hn
 rcases qts (o:=o) h2 with h | h
 ·exact h
 ·rw [h] at h1; cases h1
theorem q0K {l m:List Int} (h:qnq o l m) (hn:l.Nodup):m = qau o l:=qx9 h (qvs hn)
theorem q4O {l:List Int} {x:Int}:x ∈ qau o l↔x ∈ l:=qh9.mem_iff
theorem qi7 {l:List Int}:(qau o l).length = l.length:=qh9.length_eq
theorem qog {L:List Int} {n:Nat} {x:Int}:x ∈ qJ L n↔0 <= x/\x < n/\x ∈ L:=by
 unfold qJ
 rw [List.mem_filter,List.mem_map]
 constructor
 ·rintro ⟨⟨i,hi,rfl⟩,h⟩
  rw [List.mem_range] at hi
  exact ⟨by omega,by omega,of_decide_eq_true h⟩
 ·rintro ⟨h0,h1,h2⟩
  exact ⟨⟨x.toNat,List.mem_range.2 (by omega),by omega⟩,decide_eq_true h2⟩
theorem q3b {L:List Int}:qcJ L = qJ L 16:=rfl
theorem qon {p:Int}:qL (qO o p):=qgz _
theorem qlh {p:Int}:(qO o p).length = 32:=q9f
theorem qiN {p:Int}:(qC o p).length = 33:=by simp [qC,qlh]
theorem qvp {l:List Int}:qx (l.map (qC o)) = l:=by
 unfold qx
 rw [List.map_map]
 conv=>rhs; rw [<- List.map_id l]
 exact List.map_congr_left fun x _=>rfl
end Go.Proofs

set_option linter.unusedSimpArgs false
set_option linter.unusedVariables false
namespace Go.Proofs
open Go Go.Eng
set_option maxRecDepth 20000
theorem qzY {l:List Bool} {i:Nat}:qap [l.map Value.bool] i = l.getD i false:=by
 unfold qap
 rw [List.headD_cons,List.getElem?_map,List.getD_eq_getElem?_getD]
 cases l[i]? <;> rfl
theorem qdy {l:List Bool} {L:List Int} {n:Nat} (h:qfj l L) (hn:L.length <= n):qdB [l.map Value.bool] L n:=by
 refine ⟨⟨_,rfl,by rw [List.length_map]; exact h.1⟩,fun x x0 x1=>?_⟩
 rw [qzY,List.take_of_length_le hn]
 have:=h.2 x.toNat (by omega)
 rwa [Int.toNat_of_nonneg x0] at this
theorem qez {D:qd}:(qx D).length <= D.length:=by simp [qx]
theorem qfx {d:qd} {L:List Int} {n:Nat} {x:Int} (h:qdB d L n) (hn:L.length <= n) (x0:0 <= x) (x1:x < 16):qap d x.toNat = true↔x ∈ L:=by
 have:=h.2 x x0 x1
 rwa [List.take_of_length_le hn] at this
theorem qw0 {d:qd} {L:List Int} {n:Nat} (h:qdB d L n):0 < d.length:=by obtain ⟨⟨row,e,_⟩,_⟩:=h; rw [e]; exact Nat.one_pos
theorem qeR {i:Int} (h0:0 <= i) (h1:i < 1000000000000):qe .add .i64 i 1 = i + 1:=add64 (by omega) (by omega)
theorem qkV {d:qd} {L:List Int} {n:Nat} {x:Int} (h:qdB d L n) (hn:L.length <= n) (x0:0 <= x) (x1:x < 16) (hf:qap d x.toNat = false):x ∉ L:=fun hx=>by
 rw [(qfx h hn x0 x1).2 hx] at hf; cases hf
theorem qrH {D:qd} {row:List Value} {v:Value} (hr:row ∈ D∨row = [v]) (h:∀ row,row ∈ D->row.length = 1):row.length = 1:=hr.elim (h row) fun h=>by rw [h]; rfl
theorem qjC {D:qd} {row:List Value} (hr:row ∈ D) (h:∀ row,row ∈ D->row.length = 1):row.length = 1:=h row hr
theorem qBu {b:Bool} {p:Prop} [Decidable p] (h:b = decide p) (hb:b = true):p:=of_decide_eq_true (h ▸ hb)
theorem q0w {b:Bool} {p:Prop} [Decidable p] (h:b = decide p) (hb:b = false):¬ p:=of_decide_eq_false (h ▸ hb)
theorem qqG {L:List Int}:(qcJ L).length <= 16:=by
 rw [q3b]; unfold qJ
 exact Nat.le_trans (List.length_filter_le ..) (by simp)
theorem qxP {o L:List Int} {n:Int}:(qbu o L n).length <= 16:=by
 unfold qbu
 rw [List.length_take,qi7]
 have:=qqG (L:=L)
 omega
theorem qxF {o L:List Int} {n:Int} {D:qd} (h:qx D = qbu o L n):D.length <= 16:=by
 have h1:=congrArg List.length h
 rw [qdb] at h1
 have:=qxP (o:=o) (L:=L) (n:=n)
 omega
theorem qAh {o L:List Int} {self n x:Int} {D:qd} {held buried:Bool} (hD:qx D = qbu o L n) (hx:x = (D.length:Int)) (hn:1 <= n) (hm:¬ self ∈ qx D) (hh:held = true) (hb:buried = false) (he:x = n):2 = qgN o self L n held buried:=by
 have h1:((qbu o L n).length:Int) = n:=by rw [<- hD,qdb]; omega
 rw [hD] at hm
 unfold qgN
 rw [hh,hb,if_neg (by simp),if_neg (by omega),if_neg hm,if_pos ⟨rfl,h1⟩]
theorem qA3 {o L:List Int} {self n x:Int} {D:qd} {held buried:Bool} (hD:qx D = qbu o L n) (hx:x = (D.length:Int)) (hn:1 <= n) (hm:¬ self ∈ qx D) (hh:held = true) (hb:buried = false) (he:¬ x = n):0 = qgN o self L n held buried:=by
 have h1:¬ ((qbu o L n).length:Int) = n:=by rw [<- hD,qdb]; omega
 rw [hD] at hm
 unfold qgN
 rw [hh,hb,if_neg (by simp),if_neg (by omega),if_neg hm,if_neg (fun h=>h1 h.2)]
theorem q7Z (hch:qbs.ok Tryz.prog):qgl.ok Tryz.prog:=q87 (by simp [qod,hch]) fun ρ hg hp=>by
 obtain ⟨hO,⟨hl,h1,hr⟩,hGr,hGd⟩:=hp
 simp only [Nat.reduceAdd] at hl h1 hr
 simp (config:={ maxSteps:=4000000 }) [qwT,qgl,qbs,qaZ,qug,qeU,qcw,qdC,gOk,hl,hO,hGr,hGd]
 repeat' (first | with_reducible apply And.intro | with_reducible intro _)
 all_goals first
  | assumption
  | omega
  | exact qjC (by assumption) (by assumption)
  | exact (by have:=qxF (by assumption); omega)
  | (unfold qgN; simp_all [qdb]; done)
  | exact qAh (by assumption) (by assumption) (by assumption) (q0w (by assumption) (by assumption)) (by assumption) (by assumption) (by assumption)
  | exact qA3 (by assumption) (by assumption) (by assumption) (q0w (by assumption) (by assumption)) (by assumption) (by assumption) (by assumption)
theorem q6n {n:Int}:(qgr n).length = (min (max n 0) 16).toNat:=by simp [qgr]
theorem q0h {i n:Int} (h:min (max i 0) 16 = min (max n 0) 16):qgr i = qgr n:=by unfold qgr; rw [h]
theorem q49 {i:Int} {D:qd} (hD:qx D = qgr i) (h0:0 <= i) (h1:i < 16):qx (D ++ [[.int .i64 i]]) = qgr (qe .add .i64 i 1):=by
 rw [qeR h0 (by omega),qms,hD]
 unfold qgr
 rw [show (min (max (i + 1) 0) 16).toNat = (min (max i 0) 16).toNat + 1 by omega,List.range_succ,List.map_append]
 congr 1
 show [i] = [(((min (max i 0) 16).toNat:Nat):Int)]
 congr 1; omega
theorem q3o {i:Int} {D:qd} (hD:qx D = qgr i):D.length <= 16:=by
 have h1:=congrArg List.length hD
 rw [qdb,q6n] at h1
 omega
theorem q5t {o:List Int} {i n:Int} {D E:qd} (hE:qx E = qbu o (qx D) 16) (hD:qx D = qgr i) (h:min (max i 0) 16 = min (max n 0) 16):qx E = qko o n:=by
 rw [hE,hD,q0h h]; rfl
theorem q1k (hch:qbs.ok Tryz.prog):qcx.ok Tryz.prog:=q1L (by simp [hch]) fun ρ hg hp=>by
 obtain ⟨hO,hGr,hGd⟩:=hp
 simp (config:={ maxSteps:=4000000 }) [qlP,qcx,qph,qbs,qug,qeU,qcw,qdC,gOk,hO,hGr,hGd]
 repeat' (first | with_reducible apply And.intro | with_reducible intro _)
 all_goals first
  | assumption
  | omega
  | exact qjC (by assumption) (by assumption)
  | exact qrH (by assumption) (by assumption)
  | (rw [qeR (by assumption) (by omega)]; omega)
  | rfl
  | exact (by have:=q3o (by assumption); omega)
  | exact q49 (by assumption) (by assumption) (by omega)
  | exact q5t (by assumption) (by assumption) (by omega)
section
variable {o L:List Int}
theorem qnN {L:List Int} {n:Nat}:(qJ L n).length <= n:=by
 unfold qJ
 exact Nat.le_trans (List.length_filter_le ..) (by simp)
theorem qAt {D:qd} {i:Int} (h:D = (qJ L i.toNat).map (qC o)) (h1:i <= 16):D.length <= 16:=by
 rw [h,List.length_map]
 have:=qnN (L:=L) (n:=i.toNat)
 omega
theorem q9H {D v:qd} {i:Int} {l:List Bool} (hD:D = (qJ L i.toNat).map (qC o)) (h0:0 <= i) (h1:i < 16) (hb:qfj l L) (hc:qap [l.map Value.bool] i.toNat = true) (hv:qg v 32 = qO o i) :
  D ++ [Value.int .i64 i :: (qg v 32).map (Value.int .u8)] = (qJ L (qe .add .i64 i 1).toNat).map (qC o):=by
 have hm:i ∈ L:=(qfx (qdy hb (Nat.le_refl _)) (Nat.le_refl _) h0 h1).1 hc
 rw [qeR h0 (by omega),show (i + 1).toNat = i.toNat + 1 by omega,qep,Int.toNat_of_nonneg h0,if_pos hm,List.map_append,hD,hv]; rfl
theorem q92 {D:qd} {i:Int} {l:List Bool} (hD:D = (qJ L i.toNat).map (qC o)) (h0:0 <= i) (h1:i < 16) (hb:qfj l L) (hc:qap [l.map Value.bool] i.toNat = false) :
  D = (qJ L (qe .add .i64 i 1).toNat).map (qC o):=by
 have hm:¬ i ∈ L:=qkV (qdy hb (Nat.le_refl _)) (Nat.le_refl _) h0 h1 hc
 rw [qeR h0 (by omega),show (i + 1).toNat = i.toNat + 1 by omega,qep,Int.toNat_of_nonneg h0,if_neg hm,List.append_nil,hD]
theorem qng {D E:qd} {i:Int} (hO:qL o) (hD:D = (qJ L i.toNat).map (qC o)) (h1:i <= 16) (h2:16 <= i) (h:∀ o L:List Int,qL o->D = L.map (qC o)->(∀ x,x ∈ L->0 <= x/\x < 16)->E = (qau o L).map (qC o)):E = (qau o (qcJ L)).map (qC o)/\E.length = D.length:=by
 have hi:i.toNat = 16:=by omega
 rw [hi] at hD
 have hE:=h o (qJ L 16) hO hD (fun x hx=>by have:=qog.1 hx; omega)
 exact ⟨hE,by rw [hE,hD,List.length_map,List.length_map,qi7]⟩
theorem q4W {D:qd} {n:Nat} (hO:qL o) (hD:D = (qJ L n).map (qC o)) (hn:n <= 16):∃ o:List Int,qL o/\∃ x:List Int,D = x.map (qC o)/\∀ y:Int,y ∈ x->0 <= y/\y < 16 :=
 ⟨o,hO,_,hD,fun x hx=>by have:=qog.1 hx; omega⟩
theorem qAV {M:List Int} {D:qd} {i:Int} (hD:D = M.map (qC o)) (h0:0 <= i) (h1:i < M.length):qb D i 0 = M.getD i.toNat 0:=by
 have hl:i.toNat < M.length:=by omega
 subst hD
 rw [List.getD_eq_getElem?_getD,List.getElem?_eq_getElem hl]
 simp [qb,qF,List.getElem?_eq_getElem hl,qC,qag]
theorem take_add {M:List Int} {D E:qd} {i:Int} (hE:E = M.map (qC o)) (hD:qx D = M.take i.toNat) (h0:0 <= i) (h1:i < M.length) (hb:i < 1000000):qx (D ++ [[.int .i64 (qb E i 0)]]) = M.take (qe .add .i64 i 1).toNat:=by
 rw [qeR h0 (by omega),show (i + 1).toNat = i.toNat + 1 by omega,qiF (by omega),qms,hD,qAV hE h0 h1]
theorem q8S {M:List Int} {D:qd} {i:Nat} (hD:qx D = M.take i):D.length <= i/\D.length <= M.length:=by
 have h1:=congrArg List.length hD
 rw [qdb,List.length_take] at h1
 omega
theorem qzS {o L:List Int}:(qau o (qcJ L)).length <= 16:=by rw [qi7]; exact qqG
theorem qA7 {D:qd} {i n:Int} (hD:qx D = (qau o (qcJ L)).take i.toNat) (h:i = min (max n 0) ((qau o (qcJ L)).length:Int)):qx D = qbu o L n:=by
 rw [hD]
 unfold qbu
 by_cases hn:n.toNat <= (qau o (qcJ L)).length
 ·rw [show i.toNat = n.toNat by omega]
 ·rw [List.take_of_length_le (by omega),List.take_of_length_le (by omega)]
end
theorem q3T (hs:qeK.ok Tryz.prog):qbs.ok Tryz.prog:=q4h (by simp [hs,q3k,qyT]) fun ρ hg hp=>by
 obtain ⟨hO,⟨hl,h1,hr⟩,hGr,hGd⟩:=hp
 simp only [Nat.reduceAdd] at hl h1 hr
 simp (config:={ maxSteps:=4000000 }) [qov,qbs,qrf,qrn,qet,qeb,qeK,qug,qeU,qcw,qdC,gOk,hl,hO,hGr,hGd]
 have hsl:=qzS (o:=qg (ρ 0).d 32) (L:=qx (ρ 4).d)
 repeat' (first | with_reducible apply And.intro | with_reducible intro _)
 all_goals first
  | assumption
  | omega
  | exact qjC (by assumption) (by assumption)
  | exact qrH (by assumption) (by assumption)
  | (rw [qeR (by assumption) (by omega)]; omega)
  | rfl
  | exact (by have:=qAt (by assumption) (by omega); omega)
  | exact q9H (l:=[_,_,_,_,_,_,_,_,_,_,_,_,_,_,_,_]) (by assumption) (by assumption) (by assumption) (by assumption) (by assumption) (by assumption)
  | exact q92 (l:=[_,_,_,_,_,_,_,_,_,_,_,_,_,_,_,_]) (by assumption) (by assumption) (by assumption) (by assumption) (by assumption)
  | exact q4W hO (by assumption) (by omega)
  | exact (qng hO (by assumption) (by assumption) (by assumption) (by assumption)).1
  | (have h:=qng hO (by assumption) (by assumption) (by assumption) (by assumption); have h2:=congrArg List.length h.1; rw [List.length_map] at h2; have h3:=h.2; split <;> split <;> omega)
  | (have h:=qng hO (by assumption) (by assumption) (by assumption) (by assumption); have h2:=congrArg List.length h.1; rw [List.length_map] at h2; have h3:=h.2; split <;> omega)
  | exact take_add (by assumption) (by assumption) (by assumption) (by omega) (by omega)
  | exact qA7 (by assumption) (by omega)
  | (have h2:=q8S (by assumption); omega)
section
variable {o L:List Int} {D E:qd} {n m k b i:Int}
end
end Go.Proofs

set_option linter.unusedSimpArgs false
set_option linter.unusedVariables false
set_option maxRecDepth 100000
namespace Go.Proofs
open Go Go.Eng

def q00:Out:=(.fresh 10 (.pre 0 (sg 0 [bv 4 7,bv 3 6,bv 2 5,bv 1 4,bg 0 3]) (.both (.fresh 11 (.fresh 12 (.fresh 13 (.fresh 14 (.fresh 15 (.fresh 16 (.fresh 17 (.fresh 18 (.fresh 19 (.fresh 20 (.fresh 21 (.fresh 22 (.fresh 23 (.fresh 24 (.fresh 25 (.fresh 26 (.post 0 0 (sg 0 [bv 4 7,bv 3 6,bv 2 5,bv 1 4,bg 0 3]) 11 (.inv 0 27 (sg 1000 [bt 1001 (.lit 0),bt 1002 (.lit 0),bg 1000 10]) (.fresh 27 (.fresh 28 (.fresh 29 (.hyp 0 27 (.br (.cmp .lss (.var 28) (.lit 16))
 (.need (.cmp .leq (.lit 0) (.var 28)) (.br (.c2 (.xbool 0) (.rcons (.vbool (.var 11)) (.rcons (.vbool (.var 12)) (.rcons (.vbool (.var 13)) (.rcons (.vbool (.var 14)) (.rcons (.vbool (.var 15)) (.rcons (.vbool (.var 16)) (.rcons (.vbool (.var 17)) (.rcons (.vbool (.var 18)) (.rcons (.vbool (.var 19)) (.rcons (.vbool (.var 20)) (.rcons (.vbool (.var 21)) (.rcons (.vbool (.var 22)) (.rcons (.vbool (.var 23)) (.rcons (.vbool (.var 24)) (.rcons (.vbool (.var 25)) (.rcons (.vbool (.var 26)) .rnil)))))))))))))))) (.var 28))
 (.pre 1 (sg 0 [bv 4 9,bv 2 1,bv 1 28,bt 0 (r8 0),bg 3 8]) (.both (.fresh 30 (.post 1 0 (sg 0 [bv 4 9,bv 2 1,bv 1 28,bt 0 (r8 0),bg 3 8]) 30 (.br (.var 30)
 (.back 0 27 (sg 1000 [bt 1001 (.arith .add .i64 (.var 28) (.lit 1)),bt 1002 (.arith .add .i64 (.var 29) (.lit 1)),bg 1000 27]))
 (.back 0 27 (sg 1000 [bt 1001 (.arith .add .i64 (.var 28) (.lit 1)),bv 1002 29,bg 1000 27]))))) .top))
 (.back 0 27 (sg 1000 [bt 1001 (.arith .add .i64 (.var 28) (.lit 1)),bv 1002 29,bg 1000 27]))))
 (.br (.cmp .geq (.var 2) (.lit 1))
 (.ret 0 (sg 10 [bt 10 (.cmp .geq (.var 29) (.var 2))]))
 (.ret 0 (sg 10 [bt 10 (.bl false)])))))))))))))))))))))))))) .top)))
end Go.Proofs

set_option linter.unusedSimpArgs false
set_option linter.unusedVariables false
namespace Go.Proofs
open Go Go.Eng
set_option maxRecDepth 20000
section
variable {o L:List Int} {i c s:Int} {l:List Bool}
def qgy (o:List Int) (s:Int) (l:List Int):Int:=((l.filter fun i=>qS o i s).length:Int)
theorem q5E {l:List Int}:0 <= qgy o s l/\qgy o s l <= l.length:=⟨by unfold qgy; omega,by unfold qgy; have:=List.length_filter_le (fun i=>qS o i s) l; omega⟩
theorem qsR {l:List Int} {x:Int}:qgy o s (l ++ [x]) = qgy o s l + (if qS o x s = true then 1 else 0):=by
 unfold qgy
 rw [List.filter_append,List.length_append]
 by_cases h:qS o x s = true
 ·rw [if_pos h]; simp [h]
 ·rw [if_neg h]; simp [h]
theorem qzi {n:Nat}:0 <= qgy o s (qJ L n)/\qgy o s (qJ L n) <= n:=by
 have h:=q5E (o:=o) (s:=s) (l:=qJ L n)
 have:=qnN (L:=L) (n:=n)
 omega
theorem qAX {x:Bool} (hc:c = ((qJ L i.toNat).filter fun i=>qS o i s).length) (h0:0 <= i) (h1:i < 16) (hb:qfj l L) (hx:qap [l.map Value.bool] i.toNat = true) (hu:x = qS o i s) (ht:x = true):qe .add .i64 c 1 = ((qJ L (qe .add .i64 i 1).toNat).filter fun i=>qS o i s).length:=by
 have hm:i ∈ L:=(qfx (qdy hb (Nat.le_refl _)) (Nat.le_refl _) h0 h1).1 hx
 have h2:=qzi (o:=o) (s:=s) (L:=L) (n:=i.toNat)
 change c = qgy o s (qJ L i.toNat) at hc
 show _ = qgy o s _
 rw [qeR h0 (by omega),qeR (by omega) (by omega),show (i + 1).toNat = i.toNat + 1 by omega,qep,Int.toNat_of_nonneg h0,if_pos hm,qsR,if_pos (hu ▸ ht),hc]
theorem qBi {x:Bool} (hc:c = ((qJ L i.toNat).filter fun i=>qS o i s).length) (h0:0 <= i) (h1:i < 16) (hb:qfj l L) (hx:qap [l.map Value.bool] i.toNat = true) (hu:x = qS o i s) (ht:x = false):c = ((qJ L (qe .add .i64 i 1).toNat).filter fun i=>qS o i s).length:=by
 have hm:i ∈ L:=(qfx (qdy hb (Nat.le_refl _)) (Nat.le_refl _) h0 h1).1 hx
 have h2:=qzi (o:=o) (s:=s) (L:=L) (n:=i.toNat)
 change c = qgy o s (qJ L i.toNat) at hc
 show _ = qgy o s _
 rw [qeR h0 (by omega),show (i + 1).toNat = i.toNat + 1 by omega,qep,Int.toNat_of_nonneg h0,if_pos hm,qsR,if_neg (by rw [<- hu,ht]; simp),hc,Int.add_zero]
theorem qBb (hc:c = ((qJ L i.toNat).filter fun i=>qS o i s).length) (h0:0 <= i) (h1:i < 16) (hb:qfj l L) (hx:qap [l.map Value.bool] i.toNat = false):c = ((qJ L (qe .add .i64 i 1).toNat).filter fun i=>qS o i s).length:=by
 have hm:¬ i ∈ L:=qkV (qdy hb (Nat.le_refl _)) (Nat.le_refl _) h0 h1 hx
 rw [qeR h0 (by omega),show (i + 1).toNat = i.toNat + 1 by omega,qep,Int.toNat_of_nonneg h0,if_neg hm,List.append_nil,hc]
theorem q8x {n:Int} (hc:c = ((qJ L i.toNat).filter fun i=>qS o i s).length) (h0:i <= 16) (h1:16 <= i) (hn:1 <= n):decide (c ≥ n) = qlN o s n L:=by
 rw [show i.toNat = 16 by omega] at hc
 unfold qlN
 rw [decide_eq_true hn,Bool.true_and,hc]; rfl
theorem qxn {n:Int} (hn:n < 1):false = qlN o s n L:=by
 unfold qlN
 rw [decide_eq_false (by omega),Bool.false_and]
end
end Go.Proofs

set_option linter.unusedSimpArgs false
set_option linter.unusedVariables false
namespace Go.Eng
open Go Go.Proofs
def qn3 (ρ:Env) (r:Nat):Prop:=0 <= (ρ (r + 1)).i/\(ρ (r + 1)).i <= (ρ (r + 3)).d.length/\(ρ (r + 1)).i <= 1000000000000/\∀ row ∈ (ρ (r + 3)).d,row.length = 1
def qgX:Ctr:={ qet with pre:=fun ρ=>qn3 ρ 0,alts:=[
 { k:=16,ret:=b16 5,heap:=[],post:=fun ρ=>qfj [(ρ 5).b,(ρ 6).b,(ρ 7).b,(ρ 8).b,(ρ 9).b,(ρ 10).b,(ρ 11).b,(ρ 12).b,(ρ 13).b,(ρ 14).b,(ρ 15).b,(ρ 16).b,(ρ 17).b,(ρ 18).b,(ρ 19).b,(ρ 20).b] ((qx (ρ 3).d).take (ρ 1).i.toNat) }] }
def qfO:Ctr:={ q6O with pre:=fun ρ=>qL (qg (ρ 0).d 32)/\qn3 ρ 3/\gOk ρ 8 9 gR,alts:=[{ k:=1,ret:=.one (.vbool (.var 10)),heap:=[],post:=fun ρ=>(ρ 10).b = qlN (qg (ρ 0).d 32) (ρ 1).i (ρ 2).i ((qx (ρ 6).d).take (ρ 4).i.toNat) }] }
def q1v:Inv:={ q9R with inv:=(fun ρ=>0 <= (ρ 1001).i/\(ρ 1001).i <= 16/\(ρ 1002).i = (((qJ ((qx (ρ 6).d).take (ρ 4).i.toNat) (ρ 1001).i.toNat).filter fun i=>qS (qg (ρ 0).d 32) i (ρ 1).i).length:Int)) }
end Go.Eng
namespace Go.Proofs
open Go Go.Eng
set_option maxRecDepth 100000
theorem q22:qj ⟨Tryz.prog,qgX,[qc7],[qrE]⟩ 100000 Tryz.f82 = qnr:=by kernel_rfl
theorem q90 (hd:∀ c ∈ ([qc7]:List Ctr),c.ok Tryz.prog) (h:∀ ρ:Env,ρ.good->(qgX).pre ρ->qnr.den ⟨Tryz.prog,qgX,[qc7],[qrE]⟩ ρ):(qgX).ok Tryz.prog :=
 qf Tryz.func82 (fun a w=>Tryz.call82 a w) hd 100000 (fun ρ hg hp=>by rw [q22]; exact h ρ hg hp)
theorem q3W:qj ⟨Tryz.prog,qfO,[qgX,qbZ],[q1v]⟩ 100000 Tryz.f37 = q00:=by kernel_rfl
theorem q8A (hd:∀ c ∈ ([qgX,qbZ]:List Ctr),c.ok Tryz.prog) (h:∀ ρ:Env,ρ.good->(qfO).pre ρ->q00.den ⟨Tryz.prog,qfO,[qgX,qbZ],[q1v]⟩ ρ):(qfO).ok Tryz.prog :=
 qf Tryz.func37 (fun a w=>Tryz.call37 a w) hd 100000 (fun ρ hg hp=>by rw [q3W]; exact h ρ hg hp)
theorem q8s:qgX.ok Tryz.prog:=q90 (by simp [qrR]) fun ρ hg hp=>by
 obtain ⟨h0,hl,h1,hr⟩:=hp
 simp only [Nat.reduceAdd] at h0 hl h1 hr
 simp (config:={ maxSteps:=4000000 }) [qnr,qgX,qet,qrE,qc7,h0]
 have hil:(qx (ρ 3).d).length = (ρ 3).d.length:=by simp [qx]
 refine ⟨qnT,fun s _ i _ i0 i1 hs=>⟨fun hi=>⟨i0,by omega,fun u _ hu=>⟨fun ht=>?_,fun hf=>?_⟩⟩,fun hi=>?_⟩⟩
 ·have hp:0 <= qb (ρ 3).d i.i 0/\qb (ρ 3).d i.i 0 < 16:=by rw [hu] at ht; exact of_decide_eq_true ht
  have hsl:0 < s.d.length:=by obtain ⟨⟨row,e,_⟩,_⟩:=hs; rw [e]; exact Nat.one_pos
  rw [add64 (x:=i.i) (by omega) (by omega)]
  refine ⟨hp.1,hp.2,hsl,⟨by omega,by omega,?_⟩,by omega⟩
  rw [show (i.i + 1).toNat = i.i.toNat + 1 by omega]
  exact qof hs (by omega) (qeM i0 (by omega)) hp.1 hp.2
 ·have hp:¬ (0 <= qb (ρ 3).d i.i 0/\qb (ρ 3).d i.i 0 < 16):=by rw [hu] at hf; exact of_decide_eq_false hf
  rw [add64 (x:=i.i) (by omega) (by omega)]
  refine ⟨⟨by omega,by omega,?_⟩,by omega⟩
  rw [show (i.i + 1).toNat = i.i.toNat + 1 by omega]
  exact qnR hs (by omega) (qeM i0 (by omega)) hp
 ·obtain ⟨⟨row,hs1,hrl⟩,hs2⟩:=hs
  rw [show i.i.toNat = (ρ 1).i.toNat by omega] at hs2
  rw [hs1] at hs2 ⊢
  match row,hrl with
  | [a0,a1,a2,a3,a4,a5,a6,a7,a8,a9,a10,a11,a12,a13,a14,a15],_ =>
   refine ⟨by simp,?_⟩
   have key:qfj ((List.range 16).map (qap [[a0,a1,a2,a3,a4,a5,a6,a7,a8,a9,a10,a11,a12,a13,a14,a15]])) ((qx (ρ 3).d).take (ρ 1).i.toNat):=⟨by simp,fun j hj=>by
    rw [List.getD_eq_getElem?_getD,List.getElem?_map,List.getElem?_range hj]
    exact hs2 j (by omega) (by omega)⟩
   exact key
theorem q8n:qfO.ok Tryz.prog:=q8A (by simp [q8s,qtg]) fun ρ hg hp=>by
 obtain ⟨hO,⟨h0,hl,h1,hr⟩,hGr,hGd⟩:=hp
 simp only [Nat.reduceAdd] at h0 hl h1 hr
 simp (config:={ maxSteps:=4000000 }) [q00,qfO,q6O,q1v,q9R,qgX,qet,qbZ,qeU,qn3,gOk,h0,hl,hO,hGr,hGd]
 repeat' (first | with_reducible apply And.intro | with_reducible intro _)
 all_goals first
  | assumption
  | omega
  | rfl
  | exact qjC (by assumption) (by assumption)
  | (rw [qeR (by assumption) (by omega)]; omega)
  | exact qAX (l:=[_,_,_,_,_,_,_,_,_,_,_,_,_,_,_,_]) (by assumption) (by assumption) (by assumption) (by assumption) (by assumption) (by assumption) (by assumption)
  | exact qBi (l:=[_,_,_,_,_,_,_,_,_,_,_,_,_,_,_,_]) (by assumption) (by assumption) (by assumption) (by assumption) (by assumption) (by assumption) (by assumption)
  | exact qBb (l:=[_,_,_,_,_,_,_,_,_,_,_,_,_,_,_,_]) (by assumption) (by assumption) (by assumption) (by assumption) (by assumption)
  | exact q8x (by assumption) (by assumption) (by assumption) (by assumption)
  | exact qxn (by assumption)
  | exact (qxn (by assumption)).symm
end Go.Proofs

set_option linter.unusedSimpArgs false
set_option linter.unusedVariables false
namespace Go.Eng
open Go Go.Proofs
def qdj:Ctr:={ fn := 31,nv:=2,ow:=[1003,200096],ip:=[gIp 0,(1127,8),(58,2),(1001,9),(1002,9)],args:=[],heap:=[],ro:=[gHp 0 1],pre:=fun ρ=>gOk ρ 0 1 gR,alts:=[qn2] }
def qre:Inv:={ key:=1000012,nv:=19,env:=[(4,.one (.vptr 1010 (.lit 0) 37 0)),(5,.one (.vslice 1015 (.lit 0) (.lit 1) (.var 1016) 2)),(6,.one (.vint .i64 (.lit 0))),(9,gaP 1000)],heap:=qft 1000 20 ++ [.cells 1010 27 ([.vint .i64 (.lit 1),.vint .i64 (.lit 1),.vint .i64 (.lit 1),.vint .i64 (.lit 1)] ++ (qaG .u8 1011 32 ++ [.vslice 1012 (.lit 0) (.lit 1) (.var 1013) 32])),qbX 1012 1014 1013,qht 1015 1017 1016,.abs 1018 10],inv:=(fun ρ=>gaB ρ 1000 none []/\qL (qg (ρ 1011).d 32)/\qcC (ρ 1014).d/\(ρ 1014).d.length = 1/\(ρ 1017).d.length = 1/\qjw (ρ 1018).h (ρ 1017).d 1/\pcI (ρ 1017).d 0 = 0/\qcg 1 1 1 1 1 (dgs (ρ 1014).d) 0 (pcD (ρ 1018).h (ρ 1017).d 0) = 0/\qg (ρ 1001).d 32 = sha (qaP 1 1 1 1 (qg (ρ 1011).d 32) ++ (dgs (ρ 1014).d).flatten)),mu:=fun _=>0 }
end Go.Eng

set_option linter.unusedSimpArgs false
set_option linter.unusedVariables false
namespace Go.Eng
open Go Go.Proofs
end Go.Eng

set_option linter.unusedSimpArgs false
set_option linter.unusedVariables false
namespace Go.Eng
open Go Go.Proofs
end Go.Eng

set_option linter.unusedSimpArgs false
set_option linter.unusedVariables false
namespace Go.Eng
open Go Go.Proofs
def fP (r:Nat):SV:=.one (.vptr r (.lit 0) 769 0)
def qgW:Ctr:={ fn := 49,nv:=16,args:=[qnx 0,qfz 10],heap:=[],ro:=[qbX 5 8 9,qnu 10],pre:=fun ρ=>(ρ 6).i = (ρ 8).d.length/\(ρ 6).i <= 4398046510976/\(ρ 12).i = (ρ 14).d.length/\(ρ 12).i <= 100000000,alts:=[
 { k:=6,ret:=.tup [(true,qdT 0 1 2 3 4 16 6 17),(true,[.vint .i64 (.var 10),.vslice 18 (.lit 0) (.var 12) (.var 19) 1])],heap:=[qbX 16 20 17,bHp 18 21 19],post:=fun ρ=>(ρ 20).d = (ρ 8).d/\(ρ 21).d = (ρ 14).d }] }
end Go.Eng

set_option linter.unusedSimpArgs false
set_option linter.unusedVariables false
namespace Go.Eng
open Go Go.Proofs
def qgP:Ctr:={ fn := 52,nv:=10,ip:=[(1001,9)],ow:=[1003],args:=[gaP 0],heap:=[],ro:=qft 0 20,pre:=fun ρ=>∃ M L,gaB ρ 0 M L,alts:=[
 { k:=10,ret:=.tup [(true,qdT 10 11 12 13 14 15 16 17),(false,[.vbool (.var 19)])],heap:=[qbX 15 18 17],post:=fun ρ=>qk1 ρ 10/\∀ M L,gaB ρ 0 M L->((ρ 19).b = true/\M = some (qkx ρ 10))∨((ρ 19).b = false/\M = none) }] }
def qhw:Ctr:={ qkv with ro:=[qbX 7 10 11,qht 12 15 16,.abs 17 20,gHp 18 19] }
def qh5:Ctr:={ qkD with ro:=[qbX 7 10 11,qht 12 15 16,.abs 17 20,gHp 18 19] }
def qlO (r d:Nat):SH:=.arr r 151 qgi (.var d) (.lit 1)
def qzA (M:Option ManV) (L:PcL) (h:Hp) (P:qd) (e n:Int) (R:qd):Prop:=(qbf M L = false/\e = 12/\n = 0/\R = [])∨∃ m,M = some m/\qbf M L = true/\q0J m.ok (qee (qk2 m.k m.n m.t m.s m.D.length m.D h P) (pcI P) P.length m.k) m.s e n ((qwi h P m.k.toNat).take m.s.toNat) m.o R
def q6P (M:Option ManV) (L:PcL) (h:Hp) (P:qd) (x e y n:Int) (R:qd):Prop:=(qbf M L = false/\e = 12/\y = 0/\n = 0/\R = [])∨∃ m,M = some m/\qbf M L = true/\qic m.ok (qee (qk2 m.k m.n m.t m.s m.D.length m.D h P) (pcI P) P.length m.k) x m.t e y n (qgF h P m.k.toNat x) (m.D.getD x.toNat []) R
def qdG:Ctr:={ fn := 46,nv:=14,ip:=[gIp 12,(1001,9),(1002,9)],ow:=[1003],args:=[gaP 0,fP 10],heap:=[qlO 10 11],ro:=qft 0 20 ++ [gHp 12 13],pre:=fun ρ=>(∃ M L,gaB ρ 0 M L)/\qk (ρ 11).d/\gOk ρ 12 13 gR,alts:=[
 { k:=7,ret:=.tup [(false,[.vslice 14 (.lit 0) (.var 15) (.var 20) 1]),qbk (.var 18)],heap:=[qlO 10 19,.arr 14 5 kB (.var 17) (.var 16)],post:=fun ρ=>qk (ρ 19).d/\(ρ 15).i <= (ρ 20).i/\∀ M L,gaB ρ 0 M L->qzA M L (ρ 9).h (ρ 8).d (ρ 18).i (ρ 15).i (ρ 17).d }] }
def qdQ:Ctr:={ fn := 50,nv:=15,ip:=[gIp 12,(1001,9),(1002,9)],ow:=[1003],args:=[gaP 0,fP 10,iv .i64 (.var 14)],heap:=[qlO 10 11],ro:=qft 0 20 ++ [gHp 12 13],pre:=fun ρ=>(∃ M L,gaB ρ 0 M L)/\qk (ρ 11).d/\gOk ρ 12 13 gR/\qbD (ρ 14).i,alts:=[
 { k:=7,ret:=.tup [(true,[.vint .i64 (.var 15),.vslice 16 (.lit 0) (.var 17) (.var 18) 1]),qbk (.var 20)],heap:=[qlO 10 21,.arr 16 5 kB (.var 19) (.var 18)],post:=fun ρ=>qk (ρ 21).d/\∀ M L,gaB ρ 0 M L->q6P M L (ρ 9).h (ρ 8).d (ρ 14).i (ρ 20).i (ρ 15).i (ρ 17).i (ρ 19).d }] }
end Go.Eng

set_option linter.unusedSimpArgs false
set_option linter.unusedVariables false
namespace Go.Eng
open Go Go.Proofs
@[simp] def m8 (v e:Nat):T:=(.rcons (i8 v e 4) (.rcons (i8 v e 5) (.rcons (i8 v e 6) (.rcons (i8 v e 7) (.rcons (i8 v e 8) (.rcons (i8 v e 9) (.rcons (i8 v e 10) (.rcons (i8 v e 11) (.rcons (i8 v e 12) (.rcons (i8 v e 13) (.rcons (i8 v e 14) (.rcons (i8 v e 15) (.rcons (i8 v e 16) (.rcons (i8 v e 17) (.rcons (i8 v e 18) (.rcons (i8 v e 19) (.rcons (i8 v e 20) (.rcons (i8 v e 21) (.rcons (i8 v e 22) (.rcons (i8 v e 23) (.rcons (i8 v e 24) (.rcons (i8 v e 25) (.rcons (i8 v e 26) (.rcons (i8 v e 27) (.rcons (i8 v e 28) (.rcons (i8 v e 29) (.rcons (i8 v e 30) (.rcons (i8 v e 31) (.rcons (i8 v e 32) (.rcons (i8 v e 33) (.rcons (i8 v e 34) (.rcons (i8 v e 35) .rnil))))))))))))))))))))))))))))))))
@[simp] def mq8 (k v e:Nat):T:=.vint .u8 (.c2 (.xint k) (m8 v e) (.lit 0))
@[simp] def ms8 (v e:Nat):T:=(.rcons (mq8 0 v e) (.rcons (mq8 1 v e) (.rcons (mq8 2 v e) (.rcons (mq8 3 v e) (.rcons (mq8 4 v e) (.rcons (mq8 5 v e) (.rcons (mq8 6 v e) (.rcons (mq8 7 v e) (.rcons (mq8 8 v e) (.rcons (mq8 9 v e) (.rcons (mq8 10 v e) (.rcons (mq8 11 v e) (.rcons (mq8 12 v e) (.rcons (mq8 13 v e) (.rcons (mq8 14 v e) (.rcons (mq8 15 v e) (.rcons (mq8 16 v e) (.rcons (mq8 17 v e) (.rcons (mq8 18 v e) (.rcons (mq8 19 v e) (.rcons (mq8 20 v e) (.rcons (mq8 21 v e) (.rcons (mq8 22 v e) (.rcons (mq8 23 v e) (.rcons (mq8 24 v e) (.rcons (mq8 25 v e) (.rcons (mq8 26 v e) (.rcons (mq8 27 v e) (.rcons (mq8 28 v e) (.rcons (mq8 29 v e) (.rcons (mq8 30 v e) (.rcons (mq8 31 v e) .rnil))))))))))))))))))))))))))))))))
def q2f:List CK:=qrQ ++ [.int .i64,.any,.int .i64]
def qzw (h:Hp) (d:qd) (i:Int):Prop:=qbD (qb d i 0)/\qbD (qb d i 1)/\qbD (qb d i 2)/\qbD (qb d i 3)/\qL ((List.range 32).map fun j=>qb d i (4 + j))/\(∃ D,Rd h k32 (qF d i 36) D/\qcC D)/\qbD (qb d i 37)/\(∃ B,Rd h kB (qF d i 38) B/\qn B)/\qbD (qb d i 39)
def qrM:SV:=.one (.vslice 1 (.lit 0) (.var 2) (.var 3) 40)
def q5P (ρ:Env):Prop:=(ρ 2).i = (ρ 4).d.length/\(ρ 2).i <= 17592186043904/\∀ i:Int,0 <= i->i < (ρ 2).i->qzw (ρ 6).h (ρ 4).d i
def qbw:Ctr:={ fn := 12,nv:=9,ip:=[gIp 7,(1115,8),(1001,9),(1002,9),(1005,7)],ow:=[1003],args:=[dgV 0,qrM],heap:=[],ro:=[.arr 1 96 q2f (.var 4) (.var 5),.abs 6 0,gHp 7 8],pre:=fun ρ=>qL (qg (ρ 0).d 32)/\q5P ρ/\gOk ρ 7 8 gR,alts:=[qn2] }
def qlL (ρ:Env) (b:Nat) (o:List Int):Prop:=qg (ρ (b + 1)).d 32 = o/\∃ M L,gaB ρ b M L/\∀ m,M = some m->sha m.bytes = o
def qwg:Inv:={ key:=6,nv:=14,env:=[(1,qrM),(2,qus 1000),(5,fP 1001),(6,gaP 1003),(7,iv .i64 (.var 1013))],heap:=qn7 1000 :: qlO 1001 1002 :: qft 1003 20,inv:=(fun ρ=>0 <= (ρ 1013).i/\(ρ 1013).i <= (ρ 2).i/\qk (ρ 1002).d/\qlL ρ 1003 (qg (ρ 0).d 32)),mu:=(fun ρ=>((ρ 2).i - (ρ 1013).i).toNat) }
def quJ:List (Nat × SV):=[(1,qrM),(2,qus 1000),(5,fP 1001),(6,gaP 1003),(7,iv .i64 (.var 1013))]
def qw7:Inv:={ key:=1000011,nv:=14,env:=quJ,heap:=qn7 1000 :: qlO 1001 1002 :: qft 1003 20,inv:=(fun ρ=>(ρ 1013).i = (ρ 27).i/\qk (ρ 1002).d/\qlL ρ 1003 (qg (ρ 0).d 32)),mu:=fun _=>0 }
def q21:List SH:=[.cells 1014 27 (qdT 1015 1016 1017 1018 1019 1020 1021 1022),qbX 1020 1023 1022]
def quG:Inv:={ key:=1000015,nv:=25,env:=quJ ++ [(8,.one (.vptr 1014 (.lit 0) 37 0)),(9,.one (.vbool (.var 1024)))],heap:=qn7 1000 :: qlO 1001 1002 :: (qft 1003 20 ++ q21),inv:=(fun ρ=>(ρ 1013).i = (ρ 27).i/\qk (ρ 1002).d/\qlL ρ 1003 (qg (ρ 0).d 32)/\qk1 ρ 1015/\∀ M L,gaB ρ 1003 M L->((ρ 1024).b = true/\M = some (qkx ρ 1015))∨((ρ 1024).b = false/\M = none)),mu:=fun _=>0 }
def qwU:Inv:={ key:=1000018,nv:=24,env:=quJ ++ [(8,.one (.vptr 1014 (.lit 0) 37 0))],heap:=qn7 1000 :: qlO 1001 1002 :: (qft 1003 20 ++ q21),inv:=(fun ρ=>(ρ 1013).i = (ρ 27).i/\qk (ρ 1002).d/\qlL ρ 1003 (qg (ρ 0).d 32)/\qk1 ρ 1015/\∀ M L,gaB ρ 1003 M L->M = some (qkx ρ 1015)∨M = none),mu:=fun _=>0 }
end Go.Eng

set_option linter.unusedSimpArgs false
set_option linter.unusedVariables false
set_option maxRecDepth 100000
namespace Go.Proofs
open Go Go.Eng

end Go.Proofs

set_option linter.unusedSimpArgs false
set_option linter.unusedVariables false
namespace Go.Proofs
open Go Go.Eng
set_option maxRecDepth 100000
end Go.Proofs

set_option linter.unusedSimpArgs false
set_option linter.unusedVariables false
namespace Go.Eng
open Go Go.Proofs
end Go.Eng

set_option linter.unusedSimpArgs false
set_option linter.unusedVariables false
set_option maxRecDepth 100000
namespace Go.Proofs
open Go Go.Eng

end Go.Proofs

set_option linter.unusedSimpArgs false
set_option linter.unusedVariables false
namespace Go.Proofs
open Go Go.Eng
set_option maxRecDepth 20000
set_option maxRecDepth 100000
end Go.Proofs

set_option linter.unusedSimpArgs false
set_option linter.unusedVariables false
namespace Go.Proofs
open Go Go.Eng
end Go.Proofs

set_option linter.unusedSimpArgs false
set_option linter.unusedVariables false
namespace Go.Proofs
open Go Go.Eng Go.RowKit Go.Lib Go.Sort
def qo8 (W:World) (p q:Int) (xs ys:List Int):World:=(W.alloc (Obj.cells (Value.int .i64 p :: xs.map (Value.int .u8)).toArray 153)).alloc (Obj.cells (Value.int .i64 q :: ys.map (Value.int .u8)).toArray 153)
theorem qzl {W:World} {p q:Int} {xs ys:List Int}:(qo8 W p q xs ys).heap[W.heap.size]? = some (Obj.cells (Value.int .i64 p :: xs.map (Value.int .u8)).toArray 153):=by
 simp only [qo8,World.alloc]
 rw [Array.getElem?_push,if_neg (by simp),Array.getElem?_push,if_pos rfl]
theorem qzz {W:World} {p q:Int} {xs ys:List Int}:(qo8 W p q xs ys).heap[W.heap.size + 1]? = some (Obj.cells (Value.int .i64 q :: ys.map (Value.int .u8)).toArray 153):=by
 simp only [qo8,World.alloc]
 rw [Array.getElem?_push,if_pos (by simp)]
theorem q41 {W:World} {b:Nat} {p:Int} {xs:List Int} {ty:TypeId} (h:W.heap[b]? = some (Obj.cells (Value.int .i64 p :: xs.map (Value.int .u8)).toArray ty)) (n j:Nat) (x:Int) (hx:xs[j]? = some x):(W.drewN n).cell? ((⟨b,1,none⟩:Addr).add j) = some (.int .u8 x):=by
 have e:((⟨b,1,none⟩:Addr).add j) = ⟨b,1 + j,none⟩:=by
  unfold Addr.add
  by_cases hj0:j = 0
  ·subst hj0; simp
  ·simp [hj0]
 have h':(W.drewN n).heap[b]? = some (Obj.cells (Value.int .i64 p :: xs.map (Value.int .u8)).toArray ty):=h
 rw [e]
 simp only [World.cell?,h']
 rw [show 1 + j = j + 1 by omega]
 simp [hx]
theorem quY {W:World} {b:Nat} {p:Int} {xs:List Int} {ty:TypeId} (h:W.heap[b]? = some (Obj.cells (Value.int .i64 p :: xs.map (Value.int .u8)).toArray ty)) (n:Nat):(W.drewN n).cell? ⟨b,0,none⟩ = some (.int .i64 p):=by
 have h':(W.drewN n).heap[b]? = some (Obj.cells (Value.int .i64 p :: xs.map (Value.int .u8)).toArray ty):=h
 simp only [World.cell?,h']
 simp
set_option maxHeartbeats 2000000 in
set_option maxRecDepth 100000 in
theorem q3i (p q:Int) (xs ys:List Int) (hx:xs.length = 32) (hy:ys.length = 32) (W:World) :
  Calls Tryz.prog 81 #[.agg (Value.int .i64 p :: xs.map (Value.int .u8)).toArray,.agg (Value.int .i64 q :: ys.map (Value.int .u8)).toArray] W fun e w' =>
   e = .returned (.int .i64 (if compareBytes (Lib.bytesOf xs) (Lib.bytesOf ys) = 0 then RowKit.wrap64 (p - q) else compareBytes (Lib.bytesOf xs) (Lib.bytesOf ys)))/\∃ n os',w' = grow (W.drewN n) os':=by
 have hc:=fun (a b:Addr) (w:World) h1 h2=>qqm a b xs ys 32 32 w h1 h2
 rw [hx,hy] at hc
 have c1:=q41 (qzl (W:=W) (p:=p) (q:=q) (xs:=xs) (ys:=ys))
 have c2:=q41 (qzz (W:=W) (p:=p) (q:=q) (xs:=xs) (ys:=ys))
 have c3:=quY (qzl (W:=W) (p:=p) (q:=q) (xs:=xs) (ys:=ys))
 have c4:=quY (qzz (W:=W) (p:=p) (q:=q) (xs:=xs) (ys:=ys))
 have hg:∀ n,∃ m os',(qo8 W p q xs ys).drewN n = grow (W.drewN m) os':=fun n=>⟨n,_,by rw [qo8,alloc_eq_grow,alloc_eq_grow,grow_grow]; rfl⟩
 unfold qo8 at c1 c2 c3 c4 hg
 generalize compareBytes (Lib.bytesOf xs) (Lib.bytesOf ys) = r at hc ⊢
 go_enter Tryz.func81,Tryz.ntmps81
 go_wp2
 go_quiet ((go_at_call 118; refine Calls.quiet_of_same (hc _ _ _ ?_ ?_); exact c1 _; exact c2 _))
 go_wp2
 all_goals go_ret
 all_goals refine ⟨?_,hg nq⟩
 all_goals simp_all
end Go.Proofs

namespace Go.Proofs
open Go Go.Shelf Go.RowKit Go.Lib Go.Sort
def qyj:Go.Shelf.Ren:=⟨fun | 6=>83 | 15=>120 | 14=>119 | 28=>148 | 29=>149 | 20=>140 | 21=>141 | 22=>142 | 23=>143 | 24=>144 | 25=>145 | 26=>146 | 27=>147 | 46=>172 | 47=>173 | 48=>174 | 49=>175 | 50=>176 | 57=>186 | n=>n,fun | 22=>156 | 24=>153 | 25=>155 | 3=>3 | 39=>187 | 0=>0 | 53=>131 | 55=>113 | 4=>4 | 46=>234 | 45=>233 | 50=>238 | 5=>5 | 9=>9 | 66=>258 | 70=>262 | 76=>271 | 77=>272 | n=>n,fun | n=>n⟩
theorem qyW:SlLaysF0.n6 Tryz.prog qyj:={
 mixed:=by kernel_rfl
 f6:=⟨Tryz.f83.name,by decide,Tryz.func83.trans (congrArg some (by kernel_rfl))⟩
 f14:=⟨Tryz.f119.name,by decide,Tryz.func119.trans (congrArg some (by kernel_rfl))⟩
 f15:=Tryz.func120.trans (congrArg some (by kernel_rfl))
 f20:=⟨Tryz.f140.name,by decide,Tryz.func140.trans (congrArg some (by kernel_rfl))⟩
 f21:=⟨Tryz.f141.name,by decide,Tryz.func141.trans (congrArg some (by kernel_rfl))⟩
 f22:=⟨Tryz.f142.name,by decide,Tryz.func142.trans (congrArg some (by kernel_rfl))⟩
 f23:=⟨Tryz.f143.name,by decide,Tryz.func143.trans (congrArg some (by kernel_rfl))⟩
 f24:=⟨Tryz.f144.name,by decide,Tryz.func144.trans (congrArg some (by kernel_rfl))⟩
 f25:=⟨Tryz.f145.name,by decide,Tryz.func145.trans (congrArg some (by kernel_rfl))⟩
 f26:=⟨Tryz.f146.name,by decide,Tryz.func146.trans (congrArg some (by kernel_rfl))⟩
 f27:=⟨Tryz.f147.name,by decide,Tryz.func147.trans (congrArg some (by kernel_rfl))⟩
 f28:=Tryz.func148.trans (congrArg some (by kernel_rfl))
 f29:=Tryz.func149.trans (congrArg some (by kernel_rfl))
 f46:=⟨Tryz.f172.name,by decide,Tryz.func172.trans (congrArg some (by kernel_rfl))⟩
 f47:=Tryz.func173.trans (congrArg some (by kernel_rfl))
 f48:=Tryz.func174.trans (congrArg some (by kernel_rfl))
 f49:=⟨Tryz.f175.name,by decide,Tryz.func175.trans (congrArg some (by kernel_rfl))⟩
 f50:=⟨Tryz.f176.name,by decide,Tryz.func176.trans (congrArg some (by kernel_rfl))⟩
 f57:=⟨Tryz.f186.name,by decide,Tryz.func186.trans (congrArg some (by kernel_rfl))⟩
 t0:=Tryz.underlying0
 a0:=Tryz.isAgg0
 z0:=Tryz.sizeOf0
 v0:=Tryz.zeroValue0
 t3:=Tryz.underlying3
 a3:=Tryz.isAgg3
 z3:=Tryz.sizeOf3
 v3:=Tryz.zeroValue3
 t4:=Tryz.underlying4
 a4:=Tryz.isAgg4
 z4:=Tryz.sizeOf4
 v4:=Tryz.zeroValue4
 t5:=Tryz.underlying5
 a5:=Tryz.isAgg5
 z5:=Tryz.sizeOf5
 v5:=Tryz.zeroValue5
 t9:=Tryz.underlying9
 a9:=Tryz.isAgg9
 z9:=Tryz.sizeOf9
 v9:=Tryz.zeroValue9
 t22:=Tryz.underlying156
 a22:=Tryz.isAgg156
 z22:=Tryz.sizeOf156
 v22:=Tryz.zeroValue156
 t25:=Tryz.underlying155
 a25:=Tryz.isAgg155
 z25:=Tryz.sizeOf155
 v25:=Tryz.zeroValue155
 t39:=Tryz.underlying187
 a39:=Tryz.isAgg187
 z39:=Tryz.sizeOf187
 v39:=Tryz.zeroValue187
 t45:=Tryz.underlying233
 a45:=Tryz.isAgg233
 z45:=Tryz.sizeOf233
 v45:=Tryz.zeroValue233
 t46:=Tryz.underlying234
 a46:=Tryz.isAgg234
 z46:=Tryz.sizeOf234
 v46:=Tryz.zeroValue234
 t50:=Tryz.underlying238
 a50:=Tryz.isAgg238
 z50:=Tryz.sizeOf238
 v50:=Tryz.zeroValue238
 t53:=Tryz.underlying131
 a53:=Tryz.isAgg131
 z53:=Tryz.sizeOf131
 v53:=Tryz.zeroValue131
 t55:=Tryz.underlying113
 a55:=Tryz.isAgg113
 z55:=Tryz.sizeOf113
 v55:=Tryz.zeroValue113
 t66:=Tryz.underlying258
 a66:=Tryz.isAgg258
 z66:=Tryz.sizeOf258
 v66:=Tryz.zeroValue258
 t70:=Tryz.underlying262
 a70:=Tryz.isAgg262
 z70:=Tryz.sizeOf262
 v70:=Tryz.zeroValue262
 t76:=Tryz.underlying271
 a76:=Tryz.isAgg271
 z76:=Tryz.sizeOf271
 v76:=Tryz.zeroValue271
 t77:=Tryz.underlying272
 a77:=Tryz.isAgg272
 z77:=Tryz.sizeOf272
 v77:=Tryz.zeroValue272 }
end Go.Proofs

set_option linter.unusedSimpArgs false
set_option linter.unusedVariables false
namespace Go.Proofs
open Go Go.Eng Go.Shelf Go.RowKit Go.Lib Go.Sort
def qf0 (o:List Int) (p:Fin 16):List Value:=qC o (p.val:Int)
def cfK (o:List Int) (a b:Fin 16):Int:=qdt o (a.val:Int) (b.val:Int)
theorem ltK {o:List Int} {a b:Fin 16}:ltOf (cfK o) a b = qS o (a.val:Int) (b.val:Int):=by unfold ltOf cfK; rw [qf9]
theorem qB9 (o:List Int):SWO (ltOf (cfK o)) where
 irrefl x:=by rw [ltK]; exact q1s
 trans x y z h1 h2:=by rw [ltK] at *; exact q3I h1 h2
 ntrans x y z h1 h2:=by
  rw [ltK] at *
  have e1:(!qS o (x.val:Int) (y.val:Int)) = true:=by rw [h1]; rfl
  have e2:(!qS o (y.val:Int) (z.val:Int)) = true:=by rw [h2]; rfl
  rw [qjX] at e1 e2
  have e3:(!qS o (x.val:Int) (z.val:Int)) = true:=by
   rw [qjX]
   by_cases c1:qdt o (y.val:Int) (x.val:Int) = 0
   ·rw [<- qfC.1 c1]; exact e2
   ·by_cases c2:qdt o (z.val:Int) (y.val:Int) = 0
    ·rw [qfC.1 c2]; exact e1
    ·have:=qky (o:=o) (a:=(z.val:Int)) (b:=(y.val:Int)) (c:=(x.val:Int)) (by omega) (by omega)
     omega
  simpa using e3
theorem qBJ (o:List Int) (x y:Fin 16) (h1:ltOf (cfK o) x y = false) (h2:ltOf (cfK o) y x = false):x = y:=by
 rw [ltK] at h1 h2
 by_cases h:x = y
 ·exact h
 ·have hv:(x.val:Int) ≠ (y.val:Int):=fun e=>h (Fin.ext (by omega))
  rcases qts (o:=o) hv with e | e
  ·rw [e] at h1; cases h1
  ·rw [e] at h2; cases h2
theorem q9B {o:List Int} {p:Int}:qu kRk (qC o p):=by
 refine ⟨by rw [qiN]; rfl,fun c k v hk hv=>?_⟩
 cases c with
 | zero =>
  simp only [kRk,qC,List.getElem?_cons_zero,Option.some.injEq] at hk hv
  subst hk hv; rfl
 | succ c =>
  simp only [kRk,qC,List.getElem?_cons_succ] at hk hv
  rw [List.getElem?_replicate] at hk
  split at hk
  ·simp only [Option.some.injEq] at hk
   rw [List.getElem?_map] at hv
   obtain ⟨z,_,rfl⟩:=Option.map_eq_some_iff.1 hv
   subst hk; rfl
  ·cases hk
theorem qzg {o:List Int} {p:Int}:∀ v ∈ qC o p,v.oneCell' = true:=fun v hv=>by
 rcases List.mem_cons.1 hv with rfl | hv
 ·rfl
 ·obtain ⟨z,_,rfl⟩:=List.mem_map.1 hv; rfl
def toFin (x:Int):Fin 16:=⟨x.toNat % 16,by omega⟩
theorem qsW {x:Int} (h:0 <= x/\x < 16):((toFin x).val:Int) = x:=by simp only [toFin]; omega
theorem qyX {M:List Int} {d:Array (Fin 16)} (h:d.toList.map (fun p=>(p.val:Int)) = M) {i:Nat} (hi:i < d.size):M[i]? = some ((d[i]!).val:Int):=by
 rw [<- h,List.getElem?_map,List.getElem?_eq_getElem (by simpa using hi),Option.map_some]
 rw [getElem!_pos d i hi]; rfl
theorem quV {o:List Int} {M:List Int} {d:Array (Fin 16)} (h:d.toList.map (fun p=>(p.val:Int)) = M) {i k:Nat} {row:List Value} {v:Value} (hr:(M.map (qC o))[i]? = some row) (hv:row[k]? = some v) :
  i < d.size/\k < 33/\(flatK (qf0 o) 33 d)[i * 33 + k]! = v:=by
 rw [List.getElem?_map] at hr
 obtain ⟨x,hx,rfl⟩:=Option.map_eq_some_iff.1 hr
 have hi:i < d.size:=by
  have:=(List.getElem?_eq_some_iff.1 hx).1
  rw [<- h] at this; simpa using this
 have hk:k < 33:=by
  have:=(List.getElem?_eq_some_iff.1 hv).1
  rwa [qiN] at this
 rw [qyX h hi,Option.some.injEq] at hx
 refine ⟨hi,hk,?_⟩
 have hlt:i * 33 + k < d.size * 33:=by omega
 rw [get_flatK _ _ _ _ hlt,show (i * 33 + k) / 33 = i by omega,show (i * 33 + k) % 33 = k by omega]
 unfold qf0
 rw [hx,List.getElem!_eq_getElem?_getD,hv]; rfl
theorem qx7 {o:List Int} {L:List Int} {d:Array (Fin 16)} (h:d.toList.map (fun p=>(p.val:Int)) = L) {w:World} {b:Nat} {c:Array Value} {ty:TypeId} (hb:w.heap[b]? = some (.cells c ty (0,0))) (hr:qU c 0 kRk (L.map (qC o))):HoldsK (qf0 o) 33 w b 0 d:=by
 intro j hj
 rw [size_flatK] at hj
 have hi:j / 33 < d.size:=by omega
 have hrow:(L.map (qC o))[j / 33]? = some (qC o ((d[j / 33]!).val:Int)):=by rw [List.getElem?_map,qyX h hi]; rfl
 have hkl:j % 33 < (qC o ((d[j / 33]!).val:Int)).length:=by rw [qiN]; omega
 have hv:=(hr _ _ hrow).2 (j % 33) _ (List.getElem?_eq_getElem hkl)
 have hf:=(quV h hrow (List.getElem?_eq_getElem hkl)).2.2
 rw [show j / 33 * 33 + j % 33 = j by omega] at hf
 have hlen:kRk.length = 33:=rfl
 rw [hlen,show 0 + j / 33 * 33 + j % 33 = j by omega] at hv
 refine ⟨?_,by simp [World.frozen?,hb]⟩
 show w.cell? ⟨b,0 + j,none⟩ = some (id (flatK (qf0 o) 33 d)[j]!)
 simp only [World.cell?,hb,Nat.zero_add,id]
 rw [hf,hv]; rfl
theorem q0a {o:List Int} {w:World} {b n:Nat} {d:Array (Fin 16)} {os:Array Obj} {c:Array Value} {ty:TypeId} (hb:w.heap[b]? = some (.cells c ty (0,0))) :
  (sortWorldK (qf0 o) 33 w b 0 n d os).heap[b]? = some (.cells (putCells id 0 (flatK (qf0 o) 33 d) c) ty (0,0)):=by
 have hlt:b < w.heap.size:=(Array.getElem?_eq_some_iff.1 hb).1
 unfold sortWorldK grow putRowK putRow mapBlock
 have e:(Go.Sort.ahead w n).heap = w.heap:=rfl
 simp only [e]
 rw [Array.getElem?_append_left (by simpa using hlt),Array.getElem?_modify,if_pos rfl,hb]; rfl
theorem qxL {o:List Int} {w:World} {b x n:Nat} {d:Array (Fin 16)} {os:Array Obj} {X:Obj} (hx:w.heap[x]? = some X) (hne:x ≠ b):(sortWorldK (qf0 o) 33 w b 0 n d os).heap[x]? = some X:=by
 have hlt:x < w.heap.size:=(Array.getElem?_eq_some_iff.1 hx).1
 unfold sortWorldK grow putRowK putRow mapBlock
 have e:(Go.Sort.ahead w n).heap = w.heap:=rfl
 simp only [e]
 rw [Array.getElem?_append_left (by simpa using hlt),Array.getElem?_modify,if_neg (Ne.symm hne),hx]
theorem q1M {o:List Int} {M:List Int} {d:Array (Fin 16)} (h:d.toList.map (fun p=>(p.val:Int)) = M) {c:Array Value} (hc:d.size * 33 <= c.size):qU (putCells id 0 (flatK (qf0 o) 33 d) c) 0 kRk (M.map (qC o)):=by
 intro i row hi
 have hfit:qu kRk row:=by
  rw [List.getElem?_map] at hi
  obtain ⟨x,_,rfl⟩:=Option.map_eq_some_iff.1 hi
  exact q9B
 refine ⟨hfit,fun k v hv=>?_⟩
 obtain ⟨h1,h2,h3⟩:=quV h hi hv
 have hlen:kRk.length = 33:=rfl
 rw [hlen,Nat.zero_add]
 have hlt:i * 33 + k < d.size * 33:=by omega
 unfold putCells
 rw [Array.getElem?_mapIdx,Array.getElem?_eq_getElem (by omega),Option.map_some,if_pos ⟨by omega,by rw [size_flatK]; omega⟩,Nat.sub_zero,h3]; rfl
theorem qBB (o:List Int) (ho:qL o) (x y:Fin 16) (W:World):Calls Tryz.prog 81 #[.agg (qf0 o x).toArray,.agg (qf0 o y).toArray] W fun e w'=>e = .returned (.int .i64 (cfK o x y))/\∃ q os',w' = grow (W.drewN q) os':=by
 refine (q3i (x.val:Int) (y.val:Int) (qO o x.val) (qO o y.val) qlh qlh W).mono fun e w' h=>?_
 obtain ⟨rfl,h⟩:=h
 refine ⟨?_,h⟩
 rw [qmh qon qon]
 have hx:=x.isLt
 have hy:=y.isLt
 unfold cfK qdt
 by_cases he:qO o (x.val:Int) = qO o (y.val:Int)
 ·rw [if_pos (qfF.2 he),if_pos he]
  have:RowKit.wrap64 ((x.val:Int) - (y.val:Int)) = (x.val:Int) - (y.val:Int):=by unfold RowKit.wrap64; omega
  rw [this]
 ·rw [if_neg (fun h=>he (qfF.1 h)),if_neg he]
theorem q2R (o:List Int) (ho:qL o) (b cap:Nat) (d:Array (Fin 16)) (w:World) (hH:HoldsK (qf0 o) 33 w b 0 d) (hb:b < w.heap.size) (hsz:d.size < 4611686018427387904) :
  Calls Tryz.prog 83 #[.slice (some ⟨b,0,none⟩) d.size cap,.func (.func 81) #[] #[]] w fun e w'=>e = .returned (.tuple #[])/\∃ n os,w' = sortWorldK (qf0 o) 33 w b 0 n (d.toList.mergeSort fun x y=>!(ltOf (cfK o)) y x).toArray os :=
 AnyQ.slices_SortFunc_total qyW 33 Tryz.isAgg153 Tryz.sizeOf153 (qf0 o) (fun _=>qiN) (fun _=>qzg) (cfK o) (qB9 o) 81 #[] b 0 cap d w (fun args w=>Tryz.call81 args w) (fun m os dk hs x y=>qBB o ho x y _) hH hb hsz (qBJ o)
theorem q1m (p:Option Addr) (cap:Nat) (fv:Value) (w:World):Calls Tryz.prog 83 #[.slice p 0 cap,fv] w fun e w'=>e = .returned (.tuple #[])/\w' = w:=AnyF.slices_SortFunc_none qyW p cap fv w
theorem q0f {o L:List Int} (hL:∀ x ∈ L,0 <= x/\x < 16):(((L.map toFin).mergeSort fun x y=>!(ltOf (cfK o)) y x).map fun p=>(p.val:Int)) = qau o L:=by
 have hv:(L.map toFin).map (fun p=>(p.val:Int)) = L:=by
  rw [List.map_map]
  conv=>rhs; rw [<- List.map_id L]
  exact List.map_congr_left fun x hx=>qsW (hL x hx)
 rw [List.map_mergeSort (s:=fun a b=>!qS o b a) (fun a _ b _=>by rw [ltK]),hv]; rfl
theorem qyf {o o' L:List Int} (h:L.map (qC o) = L.map (qC o')):(qau o L).map (qC o) = (qau o' L).map (qC o'):=by
 have h1:∀ x ∈ L,qC o x = qC o' x:=List.map_inj_left.1 h
 have hsc:∀ x ∈ L,qO o x = qO o' x:=fun x hx=>by
  have h2:=h1 x hx
  simp only [qC,List.cons.injEq,true_and] at h2
  have h3:=congrArg (List.map qag) h2
  rw [List.map_map,List.map_map] at h3
  have e:(qag ∘ Value.int IntKind.u8) = id:=rfl
  rwa [e,List.map_id,List.map_id] at h3
 have hs:qau o L = qau o' L:=by
  have:=List.map_mergeSort (r:=fun a b=>!qS o b a) (s:=fun a b=>!qS o' b a) (f:=id) (l:=L) (fun a ha b hb=>by simp only [id,qS,hsc a ha,hsc b hb])
  rwa [List.map_id,List.map_id] at this
 rw [<- hs]
 exact List.map_congr_left fun x hx=>h1 x (q4O.1 hx)
theorem q7Y:qeK.ok Tryz.prog:=by
 refine ⟨fun args w=>Tryz.call83 args w,fun ρ w hF hO hg hd hw hs hro hp=>?_⟩
 obtain ⟨hl,hb1,o,L,ho,hD,hL⟩:=hp
 obtain ⟨h1,h2,hdis,hu,harr,_⟩:=hs
 have huniq:∀ {o' L':List Int},(ρ 3).d = L'.map (qC o')->L' = L:=fun {o' L'} h=>by
  have e:=congrArg qx (h.symm.trans hD)
  rwa [qvp,qvp] at e
 have hlen:(ρ 1).i = L.length:=by rw [hl,hD,List.length_map]
 -- the answer, once the rows are qc5
 have key:∀ (w':World) (hO':Hp),Hp.disj hF.h hO'->SH.den (ρ.set 4 { d:=(qau o L).map (qC o) }) (qvx 0 4 2) hO'->(Hp.union hF.h hO').sub w'->hF.wi w' ->
   ∃ (ai:Nat) (al:Alt) (ρ':Env),qeK.alts[ai]? = some al/\ρ'.good/\(∀ n,n < qeK.nv->ρ' n = ρ n)/\(Ending.returned (.tuple #[]):Ending) = .returned (al.ret.den ρ')/\al.post (ρ'.upto (qeK.nv + al.k))/\qs ρ' hF al.heap w':=by
  intro w' hO' a1 a2 a3 a4
  have hgood:({ d:=(qau o L).map (qC o) }:U).good:=⟨rfl,fun row hr v hv=>by
   obtain ⟨x,_,rfl⟩:=List.mem_map.1 hr
   exact qzg v hv⟩
  refine ⟨0,_,ρ.set 4 { d:=(qau o L).map (qC o) },rfl,fun n=>?_,fun n hn=>Env.set_ne _ _ (by have:n < 4:=hn; omega),rfl,?_,hO',a1,⟨hO',Hp.emp,fun _=>.inr rfl,?_,a2,trivial⟩,a3,a4⟩
  ·by_cases hn:n = 4
   ·subst hn; rw [Env.set_same]; exact hgood
   ·rw [Env.set_ne _ _ hn]; exact hg n
  ·intro o' L' ho' hD' hL'
   have hD2:(ρ 3).d = L'.map (qC o'):=hD'
   obtain rfl:=huniq hD2
   show (qau o L').map (qC o) = (qau o' L').map (qC o')
   exact qyf (hD.symm.trans hD2)
  ·funext b
   simp only [Hp.union,Hp.emp]
   cases hO' b <;> rfl
 rcases harr with ⟨hr,hd0,hc0⟩ | ⟨b,c,hr,hb,hcs,hcap,hrows⟩
 ·have hL0:L = []:=by
   have e:(ρ 3).d = []:=hd0
   rw [hD] at e
   exact List.map_eq_nil_iff.1 e
  subst hL0
  have hargs:(List.map (SV.den ρ) qeK.args).toArray = #[.slice none 0 (ρ 2).i.toNat,.func (.func 81) #[] #[]]:=by
   have hr':(ρ 0).r = none:=hr
   simp [qeK,rkS,SV.den,qc,T.den,O0.den,O3.den,hr',hlen,qm]
  rw [hargs]
  refine (q1m none _ _ w).mono fun e w' h=>?_
  obtain ⟨rfl,rfl⟩:=h
  refine key _ hO hd (.inl ⟨?_,?_,?_⟩) hw.1 hw.2
  ·rw [Env.set_ne _ _ (by decide)]; exact hr
  ·show ((ρ.set 4 _) 4).d = []
   rw [Env.set_same]; simp [qau]
  ·show ((ρ.set 4 _) 2).i = 0
   rw [Env.set_ne _ _ (by decide)]; exact hc0
 ·have hbO:hO b = some (.cells c 153 (0,0)):=by rw [hu]; simp [Hp.union,hb]
  have hbw:w.heap[b]? = some (.cells c 153 (0,0)):=hw.1 _ _ (by
   unfold Hp.union
   rcases hd b with h | h
   ·rw [h]; exact hbO
   ·rw [hbO] at h; cases h)
  have hblt:b < w.heap.size:=(Array.getElem?_eq_some_iff.1 hbw).1
  have hrows':qU c 0 kRk (L.map (qC o)):=by
   have h:=hrows
   rw [show (T.den ρ (.var 3)).d = (ρ 3).d from rfl,hD] at h
   exact h
  have hcs':c.size = (ρ 2).i.toNat * 33:=hcs
  have hcap':((ρ 3).d.length:Int) <= (ρ 2).i:=hcap
  rw [hD,List.length_map] at hcap'
  let d:Array (Fin 16):=(L.map toFin).toArray
  have hdv:d.toList.map (fun p=>(p.val:Int)) = L:=by
   simp only [d,List.toList_toArray,List.map_map]
   conv=>rhs; rw [<- List.map_id L]
   exact List.map_congr_left fun x hx=>qsW (hL x hx)
  have hds:d.size = L.length:=by simp [d]
  have hH:=qx7 hdv hbw hrows'
  have hargs:(List.map (SV.den ρ) qeK.args).toArray = #[.slice (some ⟨b,0,none⟩) d.size (ρ 2).i.toNat,.func (.func 81) #[] #[]]:=by
   have hr':(ρ 0).r = some ⟨b,0,none⟩:=hr
   simp [qeK,rkS,SV.den,qc,T.den,O0.den,O3.den,hr',hlen,qm,hds]
  rw [hargs]
  refine (q2R o ho b _ d w hH hblt (by omega)).mono fun e w' h=>?_
  obtain ⟨rfl,n,os,rfl⟩:=h
  have hsv:((d.toList.mergeSort fun x y=>!(ltOf (cfK o)) y x).toArray:Array (Fin 16)).toList.map (fun p=>(p.val:Int)) = qau o L:=by
   simp only [d,List.toList_toArray]
   exact q0f hL
  have hsl:((d.toList.mergeSort fun x y=>!(ltOf (cfK o)) y x).toArray:Array (Fin 16)).size * 33 <= c.size:=by
   rw [hcs',List.size_toArray,List.length_mergeSort]
   simp only [Array.length_toList,hds]
   omega
  refine key _ (Hp.upd hO b (.cells (putCells id 0 (flatK (qf0 o) 33 (d.toList.mergeSort fun x y=>!(ltOf (cfK o)) y x).toArray) c) 153 (0,0))) (fun x=>?_) (.inr ⟨b,putCells id 0 (flatK (qf0 o) 33 (d.toList.mergeSort fun x y=>!(ltOf (cfK o)) y x).toArray) c,?_,?_,?_,?_,?_⟩) (fun x X hX=>?_) ?_
  ·by_cases hx:x = b
   ·subst hx
    rcases hd x with h | h
    ·exact .inl h
    ·rw [hbO] at h; cases h
   ·unfold Hp.upd; rw [if_neg hx]; exact hd x
  ·rw [Env.set_ne _ _ (by decide)]; exact hr
  ·unfold Hp.upd; rw [if_pos rfl]
  ·show (putCells id 0 _ c).size = ((ρ.set 4 _) 2).i.toNat * 33
   rw [Env.set_ne _ _ (by decide),<- hcs']
   simp [putCells]
  ·show ((((ρ.set 4 { d:=(qau o L).map (qC o) }) 4).d.length:Nat):Int) <= ((ρ.set 4 _) 2).i
   rw [Env.set_same,Env.set_ne _ _ (by decide),List.length_map,qi7]; exact hcap'
  ·show qU _ 0 kRk ((ρ.set 4 { d:=(qau o L).map (qC o) }) 4).d
   rw [Env.set_same]
   exact q1M hsv hsl
  ·by_cases hx:x = b
   ·subst hx
    have hFn:hF.h x = none:=by
     rcases hd x with h | h
     ·exact h
     ·rw [hbO] at h; cases h
    simp only [Hp.union,hFn,Hp.upd,if_true,Option.none_or,Option.some.injEq] at hX
    rw [<- hX]
    exact q0a hbw
   ·have hX':Hp.union hF.h hO x = some X:=by
     simpa [Hp.union,Hp.upd,hx] using hX
    exact qxL (hw.1 _ _ hX') hx
  ·exact hw.2
end Go.Proofs

set_option linter.unusedSimpArgs false
set_option linter.unusedVariables false
set_option maxRecDepth 100000
namespace Go.Proofs
open Go Go.Eng

def q0r:Out:=(.br (.cmp .geq (.var 1) (.var 0))
 (.ret 0 (sg 2 [bt 2 (.cmp .lss (.arith .sub .u64 (.var 1) (.var 0)) (.lit 12))]))
 (.ret 0 (sg 2 [bt 2 (.bl false)])))
theorem q4U:qj ⟨Tryz.prog,qjA,[],[]⟩ 100000 Tryz.f101 = q0r:=by kernel_rfl
theorem q9T (hd:∀ c ∈ ([]:List Ctr),c.ok Tryz.prog) (h:∀ ρ:Env,ρ.good->(qjA).pre ρ->q0r.den ⟨Tryz.prog,qjA,[],[]⟩ ρ):(qjA).ok Tryz.prog :=
 qf Tryz.func101 (fun a w=>Tryz.call101 a w) hd 100000 (fun ρ hg hp=>by rw [q4U]; exact h ρ hg hp)
def qs3:Out:=(.mop .new 0 (.fresh 2 (.ret 0 (sg 0 [bg 2 0,bv 1 1,bg 0 2]))) .top)
theorem qzN:qj ⟨Tryz.prog,qey,[],[]⟩ 100000 Tryz.f61 = qs3:=by kernel_rfl
theorem q7h (hd:∀ c ∈ ([]:List Ctr),c.ok Tryz.prog) (h:∀ ρ:Env,ρ.good->(qey).pre ρ->qs3.den ⟨Tryz.prog,qey,[],[]⟩ ρ):(qey).ok Tryz.prog :=
 qf Tryz.func61 (fun a w=>Tryz.call61 a w) hd 100000 (fun ρ hg hp=>by rw [qzN]; exact h ρ hg hp)
def qxt:Out:=(.fresh 6 (.pre 0 (sg 0 [bv 0 2]) (.both (.fresh 7 (.post 0 0 (sg 0 [bv 0 2]) 7 (.br (.not (.var 7))
 (.ret 0 (sg 6 [bg 6 5]))
 (.both (.mop (.get (.var 4) [(.c2 (.xint 0) (.var 1) (.lit 0)),(.c2 (.xint 1) (.var 1) (.lit 0)),(.c2 (.xint 2) (.var 1) (.lit 0)),(.c2 (.xint 3) (.var 1) (.lit 0)),(.c2 (.xint 4) (.var 1) (.lit 0)),(.c2 (.xint 5) (.var 1) (.lit 0)),(.c2 (.xint 6) (.var 1) (.lit 0)),(.c2 (.xint 7) (.var 1) (.lit 0)),(.c2 (.xint 8) (.var 1) (.lit 0)),(.c2 (.xint 9) (.var 1) (.lit 0)),(.c2 (.xint 10) (.var 1) (.lit 0)),(.c2 (.xint 11) (.var 1) (.lit 0)),(.c2 (.xint 12) (.var 1) (.lit 0)),(.c2 (.xint 13) (.var 1) (.lit 0)),(.c2 (.xint 14) (.var 1) (.lit 0)),(.c2 (.xint 15) (.var 1) (.lit 0)),(.c2 (.xint 16) (.var 1) (.lit 0)),(.c2 (.xint 17) (.var 1) (.lit 0)),(.c2 (.xint 18) (.var 1) (.lit 0)),(.c2 (.xint 19) (.var 1) (.lit 0)),(.c2 (.xint 20) (.var 1) (.lit 0)),(.c2 (.xint 21) (.var 1) (.lit 0)),(.c2 (.xint 22) (.var 1) (.lit 0)),(.c2 (.xint 23) (.var 1) (.lit 0)),(.c2 (.xint 24) (.var 1) (.lit 0)),(.c2 (.xint 25) (.var 1) (.lit 0)),(.c2 (.xint 26) (.var 1) (.lit 0)),(.c2 (.xint 27) (.var 1) (.lit 0)),(.c2 (.xint 28) (.var 1) (.lit 0)),(.c2 (.xint 29) (.var 1) (.lit 0)),(.c2 (.xint 30) (.var 1) (.lit 0)),(.c2 (.xint 31) (.var 1) (.lit 0))] ⟨true,[.u8,.u8,.u8,.u8,.u8,.u8,.u8,.u8,.u8,.u8,.u8,.u8,.u8,.u8,.u8,.u8,.u8,.u8,.u8,.u8,.u8,.u8,.u8,.u8,.u8,.u8,.u8,.u8,.u8,.u8,.u8,.u8],false,[CK.any],[.vnilm]⟩ [5]) 8 (.both (.mop (.isnil (.vcell (.var 8) (.lit 0) 0)) 9 (.br (.var 9)
 (.both (.mop .new 10 (.both (.pack [.abs 10 1003,.abs 5 1003] 12 (.mop (.put 12 (.var 4) [(.c2 (.xint 0) (.var 1) (.lit 0)),(.c2 (.xint 1) (.var 1) (.lit 0)),(.c2 (.xint 2) (.var 1) (.lit 0)),(.c2 (.xint 3) (.var 1) (.lit 0)),(.c2 (.xint 4) (.var 1) (.lit 0)),(.c2 (.xint 5) (.var 1) (.lit 0)),(.c2 (.xint 6) (.var 1) (.lit 0)),(.c2 (.xint 7) (.var 1) (.lit 0)),(.c2 (.xint 8) (.var 1) (.lit 0)),(.c2 (.xint 9) (.var 1) (.lit 0)),(.c2 (.xint 10) (.var 1) (.lit 0)),(.c2 (.xint 11) (.var 1) (.lit 0)),(.c2 (.xint 12) (.var 1) (.lit 0)),(.c2 (.xint 13) (.var 1) (.lit 0)),(.c2 (.xint 14) (.var 1) (.lit 0)),(.c2 (.xint 15) (.var 1) (.lit 0)),(.c2 (.xint 16) (.var 1) (.lit 0)),(.c2 (.xint 17) (.var 1) (.lit 0)),(.c2 (.xint 18) (.var 1) (.lit 0)),(.c2 (.xint 19) (.var 1) (.lit 0)),(.c2 (.xint 20) (.var 1) (.lit 0)),(.c2 (.xint 21) (.var 1) (.lit 0)),(.c2 (.xint 22) (.var 1) (.lit 0)),(.c2 (.xint 23) (.var 1) (.lit 0)),(.c2 (.xint 24) (.var 1) (.lit 0)),(.c2 (.xint 25) (.var 1) (.lit 0)),(.c2 (.xint 26) (.var 1) (.lit 0)),(.c2 (.xint 27) (.var 1) (.lit 0)),(.c2 (.xint 28) (.var 1) (.lit 0)),(.c2 (.xint 29) (.var 1) (.lit 0)),(.c2 (.xint 30) (.var 1) (.lit 0)),(.c2 (.xint 31) (.var 1) (.lit 0))] [(.var 11)] ⟨true,[.u8,.u8,.u8,.u8,.u8,.u8,.u8,.u8,.u8,.u8,.u8,.u8,.u8,.u8,.u8,.u8,.u8,.u8,.u8,.u8,.u8,.u8,.u8,.u8,.u8,.u8,.u8,.u8,.u8,.u8,.u8,.u8],false,[CK.any],[.vnilm]⟩) 13 (.both (.mop (.get (.var 4) [(.c2 (.xint 0) (.var 1) (.lit 0)),(.c2 (.xint 1) (.var 1) (.lit 0)),(.c2 (.xint 2) (.var 1) (.lit 0)),(.c2 (.xint 3) (.var 1) (.lit 0)),(.c2 (.xint 4) (.var 1) (.lit 0)),(.c2 (.xint 5) (.var 1) (.lit 0)),(.c2 (.xint 6) (.var 1) (.lit 0)),(.c2 (.xint 7) (.var 1) (.lit 0)),(.c2 (.xint 8) (.var 1) (.lit 0)),(.c2 (.xint 9) (.var 1) (.lit 0)),(.c2 (.xint 10) (.var 1) (.lit 0)),(.c2 (.xint 11) (.var 1) (.lit 0)),(.c2 (.xint 12) (.var 1) (.lit 0)),(.c2 (.xint 13) (.var 1) (.lit 0)),(.c2 (.xint 14) (.var 1) (.lit 0)),(.c2 (.xint 15) (.var 1) (.lit 0)),(.c2 (.xint 16) (.var 1) (.lit 0)),(.c2 (.xint 17) (.var 1) (.lit 0)),(.c2 (.xint 18) (.var 1) (.lit 0)),(.c2 (.xint 19) (.var 1) (.lit 0)),(.c2 (.xint 20) (.var 1) (.lit 0)),(.c2 (.xint 21) (.var 1) (.lit 0)),(.c2 (.xint 22) (.var 1) (.lit 0)),(.c2 (.xint 23) (.var 1) (.lit 0)),(.c2 (.xint 24) (.var 1) (.lit 0)),(.c2 (.xint 25) (.var 1) (.lit 0)),(.c2 (.xint 26) (.var 1) (.lit 0)),(.c2 (.xint 27) (.var 1) (.lit 0)),(.c2 (.xint 28) (.var 1) (.lit 0)),(.c2 (.xint 29) (.var 1) (.lit 0)),(.c2 (.xint 30) (.var 1) (.lit 0)),(.c2 (.xint 31) (.var 1) (.lit 0))] ⟨true,[.u8,.u8,.u8,.u8,.u8,.u8,.u8,.u8,.u8,.u8,.u8,.u8,.u8,.u8,.u8,.u8,.u8,.u8,.u8,.u8,.u8,.u8,.u8,.u8,.u8,.u8,.u8,.u8,.u8,.u8,.u8,.u8],false,[CK.any],[.vnilm]⟩ [13]) 14 (.both (.mop (.put 13 (.vcell (.var 14) (.lit 0) 0) [(.var 2)] [(.vint .u64 (.var 3))] ⟨false,[.i64],false,[CK.int .u64],[(.vint .u64 (.lit 0))]⟩) 15 (.ret 0 (sg 6 [bg 6 15])) .top) .top) .top) .top) .top)) .top) .top) .top)
 (.both (.mop (.get (.var 4) [(.c2 (.xint 0) (.var 1) (.lit 0)),(.c2 (.xint 1) (.var 1) (.lit 0)),(.c2 (.xint 2) (.var 1) (.lit 0)),(.c2 (.xint 3) (.var 1) (.lit 0)),(.c2 (.xint 4) (.var 1) (.lit 0)),(.c2 (.xint 5) (.var 1) (.lit 0)),(.c2 (.xint 6) (.var 1) (.lit 0)),(.c2 (.xint 7) (.var 1) (.lit 0)),(.c2 (.xint 8) (.var 1) (.lit 0)),(.c2 (.xint 9) (.var 1) (.lit 0)),(.c2 (.xint 10) (.var 1) (.lit 0)),(.c2 (.xint 11) (.var 1) (.lit 0)),(.c2 (.xint 12) (.var 1) (.lit 0)),(.c2 (.xint 13) (.var 1) (.lit 0)),(.c2 (.xint 14) (.var 1) (.lit 0)),(.c2 (.xint 15) (.var 1) (.lit 0)),(.c2 (.xint 16) (.var 1) (.lit 0)),(.c2 (.xint 17) (.var 1) (.lit 0)),(.c2 (.xint 18) (.var 1) (.lit 0)),(.c2 (.xint 19) (.var 1) (.lit 0)),(.c2 (.xint 20) (.var 1) (.lit 0)),(.c2 (.xint 21) (.var 1) (.lit 0)),(.c2 (.xint 22) (.var 1) (.lit 0)),(.c2 (.xint 23) (.var 1) (.lit 0)),(.c2 (.xint 24) (.var 1) (.lit 0)),(.c2 (.xint 25) (.var 1) (.lit 0)),(.c2 (.xint 26) (.var 1) (.lit 0)),(.c2 (.xint 27) (.var 1) (.lit 0)),(.c2 (.xint 28) (.var 1) (.lit 0)),(.c2 (.xint 29) (.var 1) (.lit 0)),(.c2 (.xint 30) (.var 1) (.lit 0)),(.c2 (.xint 31) (.var 1) (.lit 0))] ⟨true,[.u8,.u8,.u8,.u8,.u8,.u8,.u8,.u8,.u8,.u8,.u8,.u8,.u8,.u8,.u8,.u8,.u8,.u8,.u8,.u8,.u8,.u8,.u8,.u8,.u8,.u8,.u8,.u8,.u8,.u8,.u8,.u8],false,[CK.any],[.vnilm]⟩ [5]) 10 (.both (.mop (.put 5 (.vcell (.var 10) (.lit 0) 0) [(.var 2)] [(.vint .u64 (.var 3))] ⟨false,[.i64],false,[CK.int .u64],[(.vint .u64 (.lit 0))]⟩) 11 (.ret 0 (sg 6 [bg 6 11])) .top) .top) .top) .top)) .top) .top) .top) .top)))) .top)))
theorem q2A:qj ⟨Tryz.prog,qfX,[qc7],[]⟩ 100000 Tryz.f62 = qxt:=by kernel_rfl
theorem q9s (hd:∀ c ∈ ([qc7]:List Ctr),c.ok Tryz.prog) (h:∀ ρ:Env,ρ.good->(qfX).pre ρ->qxt.den ⟨Tryz.prog,qfX,[qc7],[]⟩ ρ):(qfX).ok Tryz.prog :=
 qf Tryz.func62 (fun a w=>Tryz.call62 a w) hd 100000 (fun ρ hg hp=>by rw [q2A]; exact h ρ hg hp)
@[simp] def qje:Out:=.back 0 57 (sg 1000 [bg 1007 65,bv 1004 61,bv 1002 59,bv 1006 63,bt 1005 (.bl false),bg 1003 60,bg 1001 58,bg 1000 57])
def qmQ:Out:=(.fresh 18 (.pre 0 (sg 0 [bv 4 15,bv 3 14,bv 2 13,bv 1 12,bg 0 11]) (.both (.fresh 19 (.fresh 20 (.fresh 21 (.fresh 22 (.fresh 23 (.fresh 24 (.fresh 25 (.fresh 26 (.fresh 27 (.fresh 28 (.fresh 29 (.fresh 30 (.fresh 31 (.fresh 32 (.fresh 33 (.fresh 34 (.post 0 0 (sg 0 [bv 4 15,bv 3 14,bv 2 13,bv 1 12,bg 0 11]) 19 (.pre 0 (sg 0 [bv 4 10,bv 3 9,bv 2 8,bv 1 7,bg 0 6]) (.both (.fresh 35 (.fresh 36 (.fresh 37 (.fresh 38 (.fresh 39 (.fresh 40 (.fresh 41 (.fresh 42 (.fresh 43 (.fresh 44 (.fresh 45 (.fresh 46 (.fresh 47 (.fresh 48 (.fresh 49 (.fresh 50 (.post 0 0 (sg 0 [bv 4 10,bv 3 9,bv 2 8,bv 1 7,bg 0 6]) 35 (.fresh 51 (.fresh 52 (.both (.mop (.get (.var 4) [(.c2 (.xint 0) (.var 1) (.lit 0)),(.c2 (.xint 1) (.var 1) (.lit 0)),(.c2 (.xint 2) (.var 1) (.lit 0)),(.c2 (.xint 3) (.var 1) (.lit 0)),(.c2 (.xint 4) (.var 1) (.lit 0)),(.c2 (.xint 5) (.var 1) (.lit 0)),(.c2 (.xint 6) (.var 1) (.lit 0)),(.c2 (.xint 7) (.var 1) (.lit 0)),(.c2 (.xint 8) (.var 1) (.lit 0)),(.c2 (.xint 9) (.var 1) (.lit 0)),(.c2 (.xint 10) (.var 1) (.lit 0)),(.c2 (.xint 11) (.var 1) (.lit 0)),(.c2 (.xint 12) (.var 1) (.lit 0)),(.c2 (.xint 13) (.var 1) (.lit 0)),(.c2 (.xint 14) (.var 1) (.lit 0)),(.c2 (.xint 15) (.var 1) (.lit 0)),(.c2 (.xint 16) (.var 1) (.lit 0)),(.c2 (.xint 17) (.var 1) (.lit 0)),(.c2 (.xint 18) (.var 1) (.lit 0)),(.c2 (.xint 19) (.var 1) (.lit 0)),(.c2 (.xint 20) (.var 1) (.lit 0)),(.c2 (.xint 21) (.var 1) (.lit 0)),(.c2 (.xint 22) (.var 1) (.lit 0)),(.c2 (.xint 23) (.var 1) (.lit 0)),(.c2 (.xint 24) (.var 1) (.lit 0)),(.c2 (.xint 25) (.var 1) (.lit 0)),(.c2 (.xint 26) (.var 1) (.lit 0)),(.c2 (.xint 27) (.var 1) (.lit 0)),(.c2 (.xint 28) (.var 1) (.lit 0)),(.c2 (.xint 29) (.var 1) (.lit 0)),(.c2 (.xint 30) (.var 1) (.lit 0)),(.c2 (.xint 31) (.var 1) (.lit 0))] ⟨true,[.u8,.u8,.u8,.u8,.u8,.u8,.u8,.u8,.u8,.u8,.u8,.u8,.u8,.u8,.u8,.u8,.u8,.u8,.u8,.u8,.u8,.u8,.u8,.u8,.u8,.u8,.u8,.u8,.u8,.u8,.u8,.u8],false,[CK.any],[.vnilm]⟩ [5]) 53 (.both (.mop (.range (.vcell (.var 53) (.lit 0) 0) ⟨false,[.i64],false,[CK.int .u64],[(.vint .u64 (.lit 0))]⟩ [5]) 54 (.pack [.abs 54 1003,.abs 5 1003] 56 (.inv 0 57 (sg 1000 [bg 1007 56,bt 1004 (.rcons (.vbool (.var 35)) (.rcons (.vbool (.var 36)) (.rcons (.vbool (.var 37)) (.rcons (.vbool (.var 38)) (.rcons (.vbool (.var 39)) (.rcons (.vbool (.var 40)) (.rcons (.vbool (.var 41)) (.rcons (.vbool (.var 42)) (.rcons (.vbool (.var 43)) (.rcons (.vbool (.var 44)) (.rcons (.vbool (.var 45)) (.rcons (.vbool (.var 46)) (.rcons (.vbool (.var 47)) (.rcons (.vbool (.var 48)) (.rcons (.vbool (.var 49)) (.rcons (.vbool (.var 50)) .rnil)))))))))))))))),bt 1002 (.rcons (.vbool (.var 19)) (.rcons (.vbool (.var 20)) (.rcons (.vbool (.var 21)) (.rcons (.vbool (.var 22)) (.rcons (.vbool (.var 23)) (.rcons (.vbool (.var 24)) (.rcons (.vbool (.var 25)) (.rcons (.vbool (.var 26)) (.rcons (.vbool (.var 27)) (.rcons (.vbool (.var 28)) (.rcons (.vbool (.var 29)) (.rcons (.vbool (.var 30)) (.rcons (.vbool (.var 31)) (.rcons (.vbool (.var 32)) (.rcons (.vbool (.var 33)) (.rcons (.vbool (.var 34)) .rnil)))))))))))))))),bv 1006 55,bt 1005 (.bl false),bg 1003 52,bg 1001 51,bg 1000 18]) (.fresh 57 (.fresh 58 (.fresh 59 (.fresh 60 (.fresh 61 (.fresh 62 (.fresh 63 (.fresh 64 (.hyp 0 57 (.mop (.next 64 (.var 63) ⟨false,[.i64],false,[CK.int .u64],[(.vint .u64 (.lit 0))]⟩ [64]) 65 (.mop (.entry 65 (.var 63) ⟨false,[.i64],false,[CK.int .u64],[(.vint .u64 (.lit 0))]⟩ [65]) 68 (.br (.var 62)
 (.back 0 57 (sg 1000 [bg 1007 65,bv 1004 61,bv 1002 59,bv 1006 63,bt 1005 (.bl true),bg 1003 60,bg 1001 58,bg 1000 57]))
 (.pre 1 (sg 0 [bv 1 3,bt 0 (.c2 (.xint 0) (.var 69) (.lit 0))]) (.both (.fresh 70 (.post 1 0 (sg 0 [bv 1 3,bt 0 (.c2 (.xint 0) (.var 69) (.lit 0))]) 70 (.br (.var 70)
 (.need (.cmp .leq (.lit 0) (.c2 (.xint 0) (.var 68) (.lit 0))) (.need (.cmp .lss (.c2 (.xint 0) (.var 68) (.lit 0)) (.lit 16)) (.need (.cmp .lss (.lit 0) (.dlen (.var 61))) (.br (.c2 (.xbool 0) (.var 61) (.c2 (.xint 0) (.var 68) (.lit 0)))
 (.need (.cmp .lss (.lit 0) (.dlen (.var 59))) (.br (.not (.c2 (.xbool 0) (.var 59) (.c2 (.xint 0) (.var 68) (.lit 0))))
 (.pre 2 (sg 0 [bv 4 17,bv 2 2,bt 1 (.c2 (.xint 0) (.var 68) (.lit 0)),bt 0 (r8 1),bg 3 16]) (.both (.fresh 71 (.post 2 0 (sg 0 [bv 4 17,bv 2 2,bt 1 (.c2 (.xint 0) (.var 68) (.lit 0)),bt 0 (r8 1),bg 3 16]) 71 (.back 0 57 (sg 1000 [bg 1007 65,bv 1004 61,bv 1002 59,bv 1006 63,bv 1005 71,bg 1003 60,bg 1001 58,bg 1000 57])))) .top))
 qje))
 qje))))
 qje))) .top))) .top) (.ret 0 (sg 18 [bg 19 64,bv 18 62])))))))))))))) .top) .top) .top) .top)))))))))))))))))))) .top))))))))))))))))))) .top)))
theorem qvq:qj ⟨Tryz.prog,qc3,[qet,qjA,qbZ],[qoS]⟩ 100000 Tryz.f68 = qmQ:=by kernel_rfl
theorem q2m (hd:∀ c ∈ ([qet,qjA,qbZ]:List Ctr),c.ok Tryz.prog) (h:∀ ρ:Env,ρ.good->(qc3).pre ρ->qmQ.den ⟨Tryz.prog,qc3,[qet,qjA,qbZ],[qoS]⟩ ρ):(qc3).ok Tryz.prog :=
 qf Tryz.func68 (fun a w=>Tryz.call68 a w) hd 100000 (fun ρ hg hp=>by rw [qvq]; exact h ρ hg hp)
end Go.Proofs

set_option linter.unusedSimpArgs false
set_option linter.unusedVariables false
namespace Go.Proofs
open Go Go.Eng
theorem qtn:∀ {ks:List IntKind} {a b:List Int},a.length = ks.length->b.length = ks.length->qV ks a = qV ks b->a = b
 | [],[],[],_,_,_=>rfl
 | k :: ks,x :: a,y :: b,h1,h2,h=>by
  simp only [qV,List.zipWith_cons_cons,List.cons.injEq,Value.int.injEq,true_and] at h
  rw [h.1,qtn (ks:=ks) (by simpa using h1) (by simpa using h2) h.2]
 | [],_ :: _,_,h,_,_=>by simp at h
 | [],_,_ :: _,_,h,_=>by simp at h
 | _ :: _,[],_,h,_,_=>by simp at h
 | _ :: _,_ :: _,[],_,h,_=>by simp at h
theorem qzb {g:Bool} {a b:List Value} {n:Nat} (ha:a.length = n) (hb:b.length = n) (hg:g = true∨n = 1) (h:mkV g a = mkV g b):a = b:=by
 cases g with
 | true =>
  simp only [mkV,Value.agg.injEq] at h
  simpa using congrArg Array.toList h
 | false =>
  obtain rfl:=hg.resolve_left (by simp)
  match a,b,ha,hb with
  | [x],[y],_,_ =>
   simp only [mkV,List.headD_cons] at h
   rw [h]
theorem qu3 {mt:MT} (hk:mt.kagg = true∨mt.kks.length = 1) (hv:mt.vagg = true∨mt.vpat.length = 1):∀ {l l':List ME},(∀ x ∈ l,x.k.length = mt.kks.length/\qu mt.vpat x.v)->(∀ x ∈ l',x.k.length = mt.kks.length/\qu mt.vpat x.v)->l.map mt.ent = l'.map mt.ent->l = l'
 | [],[],_,_,_=>rfl
 | [],_ :: _,_,_,h=>by simp at h
 | _ :: _,[],_,_,h=>by simp at h
 | x :: l,y :: l',h1,h2,h=>by
  simp only [List.map_cons,List.cons.injEq] at h
  obtain ⟨e1,e2⟩:=h
  have hx:=h1 x (List.mem_cons_self ..)
  have hy:=h2 y (List.mem_cons_self ..)
  simp only [MT.ent,MapEntry.mk.injEq] at e1
  obtain ⟨a1,a2,a3⟩:=e1
  have lk:∀ {k:List Int},k.length = mt.kks.length->(qV mt.kks k).length = mt.kks.length:=fun h=>by simp [qV,h]
  have b1:=qtn hx.1 hy.1 (qzb (lk hx.1) (lk hy.1) hk a1)
  have b2:=qzb hx.2.1 hy.2.1 hv a2
  obtain ⟨xk,xv,xb⟩:=x
  obtain ⟨yk,yv,yb⟩:=y
  simp only at b1 b2 a3
  subst b1 b2 a3
  rw [qu3 hk hv (fun z hz=>h1 z (List.mem_cons_of_mem _ hz)) (fun z hz=>h2 z (List.mem_cons_of_mem _ hz)) e2]
theorem qsL {h:Hp} {b:Nat} {mt:MT} {l l':List ME} {c c':Nat} (hk:mt.kagg = true∨mt.kks.length = 1) (hv:mt.vagg = true∨mt.vpat.length = 1) (h1:qaU h b mt l c) (h2:qaU h b mt l' c'):l = l'/\c = c':=by
 have e:=h1.1.symm.trans h2.1
 simp only [MT.obj,Option.some.injEq,Obj.map.injEq] at e
 exact ⟨qu3 hk hv (fun x hx=>⟨(h1.2.1 x hx).1,(h1.2.1 x hx).2.1⟩) (fun x hx=>⟨(h2.2.1 x hx).1,(h2.2.1 x hx).2.1⟩) (by simpa using congrArg Array.toList e.1),e.2⟩
theorem qAT {h:Hp} {b:Nat} {l l':List ME} {c c':Nat} (h1:qaU h b mtO l c) (h2:qaU h b mtO l' c'):l = l'/\c = c':=qsL (.inl rfl) (.inr rfl) h1 h2
theorem q7Q {h:Hp} {b:Nat} {l l':List ME} {c c':Nat} (h1:qaU h b mtI l c) (h2:qaU h b mtI l' c'):l = l'/\c = c':=qsL (.inr rfl) (.inr rfl) h1 h2
theorem qhM {h:Hp} {v:Value} {cl cl':Cl} (h1:qX h v cl) (h2:qX h v cl'):cl' = cl:=by
 obtain ⟨b,l,c,rfl,hm,hi,_,hn,_⟩:=h1
 obtain ⟨b2,l2,c2,e,hm2,hi2,_,hn2,_⟩:=h2
 simp only [Value.map.injEq,Option.some.injEq] at e
 subst e
 obtain ⟨rfl,rfl⟩:=qAT hm hm2
 funext o i
 by_cases ho:∃ x ∈ l,x.k = o
 ·obtain ⟨x,hx,rfl⟩:=ho
  obtain ⟨b',m,c',e1,_,e2,e3⟩:=hi x hx
  obtain ⟨b2',m2,c2',e1',_,e2',e3'⟩:=hi2 x hx
  rw [e1] at e1'
  simp only [List.cons.injEq,Value.map.injEq,Option.some.injEq,and_true] at e1'
  subst e1'
  obtain ⟨rfl,_⟩:=q7Q e2 e2'
  rw [e3,e3']
 ·have:∀ x ∈ l,x.k ≠ o:=fun x hx he=>ho ⟨x,hx,he⟩
  rw [hn o i this,hn2 o i this]
theorem qgZ {h h':Hp} {b:Nat} {mt:MT} {l:List ME} {c:Nat} (hm:qaU h b mt l c) (hl:Hp.le h h'):qaU h' b mt l c:=⟨hl _ _ hm.1,hm.2⟩
theorem qzs {h h':Hp} {v:Value} {cl:Cl} (hc:qX h v cl) (hl:Hp.le h h'):qX h' v cl:=by
 obtain ⟨b,l,c,e,hm,hi,hr⟩:=hc
 exact ⟨b,l,c,e,qgZ hm hl,fun x hx=>by
  obtain ⟨b',m,c',e1,e2,e3,e4⟩:=hi x hx
  exact ⟨b',m,c',e1,e2,qgZ e3 hl,e4⟩,hr⟩
theorem qvn {l:List ME} {k:List Int}:qaE l k = true↔∃ x ∈ l,x.k = k:=by
 unfold qaE
 rw [List.any_eq_true]
 exact ⟨fun ⟨x,h1,h2⟩=>⟨x,h1,by simpa using h2⟩,fun ⟨x,h1,h2⟩=>⟨x,h1,by simpa using h2⟩⟩
theorem qlu {l:List ME} {k:List Int} (h:qaE l k = false):∀ x ∈ l,x.k ≠ k:=fun x hx he=>by
 rw [qvn.2 ⟨x,hx,he⟩] at h; cases h
theorem qws {m:List ME} {i i' t:Int} {c:Nat}:qdU (qaY m [i] [.int .u64 t] c).1 i' = if i' = i then some t else qdU m i':=by
 unfold qaY
 by_cases h:qaE m [i] = true
 ·rw [if_pos h]
  unfold qdU
  simp only
  rw [List.find?_map]
  have hp:((fun x:ME=>x.k == [i']) ∘ fun x:ME=>if x.k = [i] then { x with v:=[.int .u64 t] } else x) = fun x:ME=>x.k == [i']:=by
   funext x
   simp only [Function.comp]
   split <;> rfl
  rw [hp,Option.map_map]
  by_cases hi:i' = i
  ·subst hi
   rw [if_pos rfl]
   obtain ⟨x,hx,hk⟩:=qvn.1 h
   cases hf:m.find? fun x=>x.k == [i'] with
   | none =>
    rw [List.find?_eq_none] at hf
    exact absurd (by simpa using hk) (hf x hx)
   | some y =>
    have hy:=List.find?_some hf
    simp only [beq_iff_eq] at hy
    simp [hy,qag]
  ·rw [if_neg hi]
   cases hf:m.find? fun x=>x.k == [i'] with
   | none=>rfl
   | some y =>
    have hy:=List.find?_some hf
    simp only [beq_iff_eq] at hy
    have:y.k ≠ [i]:=by rw [hy]; simp [hi]
    simp [this]
 ·rw [if_neg h]
  have hn:=qlu (by simpa using h)
  unfold qdU
  simp only
  rw [List.find?_append]
  by_cases hi:i' = i
  ·subst hi
   rw [if_pos rfl]
   have:m.find? (fun x=>x.k == [i']) = none:=by
    rw [List.find?_eq_none]
    intro x hx hk
    exact hn x hx (by simpa using hk)
   rw [this]; simp [qag]
  ·rw [if_neg hi]
   have:([⟨[i],[.int .u64 t],c⟩]:List ME).find? (fun x=>x.k == [i']) = none:=by
    simp [Ne.symm hi]
   rw [this,Option.or_none]
theorem qiU {i t:Int}:([i]:List Int).length = mtI.kks.length/\qu mtI.vpat [.int .u64 t]:=⟨rfl,rfl,fun c k v hk hv=>by
 cases c with
 | zero=>simp only [mtI,List.getElem?_cons_zero,Option.some.injEq] at hk hv; subst hk hv; rfl
 | succ c=>simp [mtI] at hk⟩
theorem qve {h:Hp} {b x:Nat} {X:Obj} (hne:x ≠ b):Hp.upd h b X x = h x:=by unfold Hp.upd; rw [if_neg hne]
theorem qik {h:Hp} {b:Nat} {X:Obj}:Hp.upd h b X b = some X:=by unfold Hp.upd; rw [if_pos rfl]
theorem qd6 {h:Hp} {b x:Nat} {X:Obj} {mt:MT} {l:List ME} {c:Nat} (hne:x ≠ b) (hm:qaU h x mt l c):qaU (Hp.upd h b X) x mt l c:=⟨by rw [qve hne]; exact hm.1,hm.2⟩
theorem q5L {h:Hp} {b b' c c':Nat} {l m:List ME} {x:ME} {cl:Cl} {i t:Int} (hm:qaU h b mtO l c) (hi:∀ x ∈ l,∃ b' m c',x.v = [.map (some b')]/\b' ≠ b/\qaU h b' mtI m c'/\∀ i,cl x.k i = qdU m i) (hd:∀ x ∈ l,∀ y ∈ l,x.k ≠ y.k->x.v ≠ y.v) (hn:∀ o i,(∀ x ∈ l,x.k ≠ o)->cl o i = none)
  (hr:∀ o i t,cl o i = some t->0 <= i/\i < 16/\0 <= t/\t < 18446744073709551616) (hx:x ∈ l) (hb:x.v = [.map (some b')]) (hI:qaU h b' mtI m c') (i0:0 <= i) (i1:i < 16) (t0:0 <= t) (t1:t < 18446744073709551616) :
  qX (Hp.upd h b' (mtI.obj (qaY m [i] [.int .u64 t] c'))) (.map (some b)) (qeC cl x.k i t):=by
 obtain ⟨b2,m2,c2,e1,e2,e3,e4⟩:=hi x hx
 rw [hb] at e1
 simp only [List.cons.injEq,Value.map.injEq,Option.some.injEq,and_true] at e1
 subst e1
 obtain ⟨rfl,rfl⟩:=q7Q hI e3
 have hF:∀ o' i',qeC cl x.k i t o' i' = if o' = x.k/\i' = i then some t else cl o' i':=fun o' i'=>by unfold qeC; rw [if_pos ⟨i0,i1⟩]
 refine ⟨b,l,c,rfl,qd6 (Ne.symm e2) hm,fun y hy=>?_,hd,fun o' i' ho=>?_,fun o' i' t' ht=>?_⟩
 ·by_cases hk:y.k = x.k
  ·have hvv:y.v = [.map (some b')]:=by
    obtain ⟨jx,hjx⟩:=List.getElem?_of_mem hx
    obtain ⟨jy,hjy⟩:=List.getElem?_of_mem hy
    have hj:=qij hm.2 hjy hjx hk
    rw [hj,hjx] at hjy
    rw [<- Option.some.inj hjy]; exact hb
   refine ⟨b',(qaY m [i] [.int .u64 t] c').1,(qaY m [i] [.int .u64 t] c').2,hvv,e2,⟨qik,qjM hI.2 (qiU (i:=i) (t:=t)).1 (qiU (i:=i) (t:=t)).2⟩,fun i'=>?_⟩
   rw [hF,qws,hk,e4]
   by_cases hii:i' = i
   ·simp [hii]
   ·simp [hii]
  ·obtain ⟨b3,m3,c3,f1,f2,f3,f4⟩:=hi y hy
   have hne:b3 ≠ b':=fun he=>hd y hy x hx hk (by rw [f1,hb,he])
   refine ⟨b3,m3,c3,f1,f2,qd6 hne f3,fun i'=>?_⟩
   rw [hF,if_neg (fun h=>hk h.1),f4]
 ·rw [hF,if_neg (fun h=>ho x hx h.1.symm),hn o' i' ho]
 ·rw [hF] at ht
  split at ht
  ·rename_i he
   obtain rfl:=Option.some.inj ht
   exact ⟨by omega,by omega,t0,t1⟩
  ·exact hr _ _ _ ht
theorem q64 {h:Hp} {b b' c:Nat} {l:List ME} {cl:Cl} {o:List Int} {i t:Int} (hm:qaU h b mtO l c) (hi:∀ x ∈ l,∃ b' m c',x.v = [.map (some b')]/\b' ≠ b/\qaU h b' mtI m c'/\∀ i,cl x.k i = qdU m i) (hd:∀ x ∈ l,∀ y ∈ l,x.k ≠ y.k->x.v ≠ y.v) (hn:∀ o i,(∀ x ∈ l,x.k ≠ o)->cl o i = none)
  (hr:∀ o i t,cl o i = some t->0 <= i/\i < 16/\0 <= t/\t < 18446744073709551616) (ho:qaE l o = false) (hol:o.length = 32) (hbb:b' ≠ b) (hfree:∀ x ∈ l,x.v ≠ [.map (some b')]) (i0:0 <= i) (i1:i < 16) (t0:0 <= t) (t1:t < 18446744073709551616) :
  qX (Hp.upd (Hp.upd h b (mtO.obj (qaY l o [.map (some b')] c))) b' (mtI.obj (qaY [] [i] [.int .u64 t] 0))) (.map (some b)) (qeC cl o i t):=by
 have hF:∀ o' i',qeC cl o i t o' i' = if o' = o/\i' = i then some t else cl o' i':=fun o' i'=>by unfold qeC; rw [if_pos ⟨i0,i1⟩]
 have hput:qaY l o [.map (some b')] c = (l ++ [⟨o,[.map (some b')],c⟩],c + 1):=by unfold qaY; rw [if_neg (by rw [ho]; simp)]
 have hfit:qu mtO.vpat [.map (some b')]:=⟨rfl,fun c k v hk hv=>by
  cases c with
  | zero=>simp only [mtO,List.getElem?_cons_zero,Option.some.injEq] at hk hv; subst hk hv; rfl
  | succ c=>simp [mtO] at hk⟩
 have hno:=qlu ho
 refine ⟨b,(qaY l o [.map (some b')] c).1,(qaY l o [.map (some b')] c).2,rfl,⟨by rw [qve (Ne.symm hbb)]; exact qik,qjM hm.2 (by rw [hol]; rfl) hfit⟩,fun y hy=>?_,fun x hx y hy hk=>?_,fun o' i' ho'=>?_,fun o' i' t' ht=>?_⟩
 ·rw [hput] at hy
  rcases List.mem_append.1 hy with hy | hy
  ·obtain ⟨b3,m3,c3,f1,f2,f3,f4⟩:=hi y hy
   have hne:b3 ≠ b':=fun he=>hfree y hy (by rw [f1,he])
   refine ⟨b3,m3,c3,f1,f2,qd6 hne (qd6 f2 f3),fun i'=>?_⟩
   rw [hF,if_neg (fun h=>hno y hy h.1),f4]
  ·rw [List.mem_singleton] at hy
   subst hy
   refine ⟨b',(qaY [] [i] [.int .u64 t] 0).1,(qaY [] [i] [.int .u64 t] 0).2,rfl,hbb,⟨qik,qjM (c:=0) (l:=[]) ⟨fun x hx=>(by cases hx),List.Pairwise.nil⟩ (qiU (i:=i) (t:=t)).1 (qiU (i:=i) (t:=t)).2⟩,fun i'=>?_⟩
   rw [hF,qws,hn o i' hno]
   by_cases hii:i' = i
   ·simp [hii]
   ·simp [hii,qdU]
 ·rw [hput] at hx hy
  rcases List.mem_append.1 hx with hx | hx <;> rcases List.mem_append.1 hy with hy | hy
  ·exact hd x hx y hy hk
  ·rw [List.mem_singleton] at hy; subst hy; exact hfree x hx
  ·rw [List.mem_singleton] at hx; subst hx; exact (hfree y hy).symm
  ·rw [List.mem_singleton] at hx hy; subst hx hy; exact absurd rfl hk
 ·rw [hput] at ho'
  rw [hF,if_neg (fun h=>ho' _ (List.mem_append_right _ (List.mem_singleton.2 rfl)) h.1.symm),hn o' i' fun x hx=>ho' x (List.mem_append_left _ hx)]
 ·rw [hF] at ht
  split at ht
  ·obtain rfl:=Option.some.inj ht
   rename_i he
   exact ⟨by omega,by omega,t0,t1⟩
  ·exact hr _ _ _ ht
end Go.Proofs

set_option linter.unusedSimpArgs false
set_option linter.unusedVariables false
namespace Go.Proofs
open Go Go.Eng
theorem qz0 {m:List ME} {c:Nat} (hM:MWf mtI m c) {e:ME} (he:e ∈ m):∃ z,e.k = [z]:=qjP (hM.1 e he).1
theorem q4G {m:List ME} {i t:Int} (h:qdU m i = some t):∃ e ∈ m,e.k = [i]/\qag (e.v.headD .nilFunc) = t:=by
 unfold qdU at h
 obtain ⟨e,he,rfl⟩:=Option.map_eq_some_iff.1 h
 exact ⟨e,List.mem_of_find?_eq_some he,by simpa using List.find?_some he,rfl⟩
theorem qu6 {m:List ME} {c:Nat} (hM:MWf mtI m c) {e:ME} (he:e ∈ m) {z:Int} (hk:e.k = [z]):qdU m z = some (qag (e.v.headD .nilFunc)):=by
 unfold qdU
 cases hf:m.find? fun x=>x.k == [z] with
 | none =>
  rw [List.find?_eq_none] at hf
  exact absurd (by simpa using hk) (hf e he)
 | some y =>
  have hy:y.k = [z]:=by simpa using List.find?_some hf
  obtain ⟨j,hj⟩:=List.getElem?_of_mem he
  obtain ⟨j',hj'⟩:=List.getElem?_of_mem (List.mem_of_find?_eq_some hf)
  have hjj:=qij hM hj hj' (hk.trans hy.symm)
  rw [hjj,hj'] at hj
  rw [Option.some.inj hj]; rfl
theorem qvF {m:List ME} {c:Nat} {cl:Cl} {o:List Int} {s t:Int} {L Hs:List Int} (hM:MWf mtI m c) (he:∀ i,cl o i = qdU m i) (hr:∀ o i t,cl o i = some t->0 <= i/\i < 16/\0 <= t/\t < 18446744073709551616):m.any (qjg o s t L Hs) = qej cl o s t L Hs:=by
 apply Bool.eq_iff_iff.2
 unfold qej
 rw [List.any_eq_true,List.any_eq_true]
 constructor
 ·rintro ⟨e,hem,hb⟩
  obtain ⟨z,hz⟩:=qz0 hM hem
  have hg:=qu6 hM hem hz
  have hc:=(he z).trans hg
  obtain ⟨z0,z1,_⟩:=hr _ _ _ hc
  refine ⟨z.toNat,List.mem_range.2 (by omega),?_⟩
  rw [Int.toNat_of_nonneg z0,hc]
  unfold qjg at hb
  rw [hz] at hb
  exact hb
 ·rintro ⟨i,hi,hb⟩
  cases hc:cl o i with
  | none=>rw [hc] at hb; cases hb
  | some tt =>
   rw [hc] at hb
   obtain ⟨e,hem,hk,hv⟩:=q4G ((he i).symm.trans hc)
   refine ⟨e,hem,?_⟩
   unfold qjg
   rw [hk,hv]
   exact hb
theorem qy7 {h:Hp} {v:Value} {cl:Cl} {bi:Nat} {mo:Option Nat} {since st:Nat} {seen:Array Nat} {X:Obj} (hc:qX h v cl) (hb:h bi = some (.mapIter mo since seen st)):qX (Hp.upd h bi X) v cl:=by
 have hne:∀ {b:Nat} {mt:MT} {l:List ME} {c:Nat},qaU h b mt l c->b ≠ bi:=fun hm he=>by
  rw [he] at hm
  have:=hm.1.symm.trans hb
  simp [MT.obj] at this
 obtain ⟨b,l,c,e,hm,hi,hr⟩:=hc
 exact ⟨b,l,c,e,qd6 (hne hm) hm,fun x hx=>by
  obtain ⟨b',m,c',e1,e2,e3,e4⟩:=hi x hx
  exact ⟨b',m,c',e1,e2,qd6 (hne e3) e3,e4⟩,hr⟩
theorem q62 {m:List ME} {c:Nat} (hM:MWf mtI m c) {e:ME} (he:e ∈ m) {seen:List Nat} {p:ME->Bool}:((m.filter fun y=>(seen ++ [e.born]).contains y.born).any p) = ((m.filter fun y=>seen.contains y.born).any p || p e):=by
 apply Bool.eq_iff_iff.2
 rw [Bool.or_eq_true,List.any_eq_true,List.any_eq_true]
 constructor
 ·rintro ⟨y,hy,hp⟩
  rw [List.mem_filter] at hy
  obtain ⟨hy1,hy2⟩:=hy
  simp only [List.contains_eq_mem,List.mem_append,List.mem_singleton,decide_eq_true_eq] at hy2
  rcases hy2 with h | h
  ·exact .inl ⟨y,List.mem_filter.2 ⟨hy1,by simpa using h⟩,hp⟩
  ·right
   have:y = e:=by
    obtain ⟨i,hi⟩:=List.getElem?_of_mem hy1
    obtain ⟨j,hj⟩:=List.getElem?_of_mem he
    have hij:i = j:=born_get hM hi hj h
    rw [hij,hj] at hi
    exact (Option.some.inj hi).symm
   rw [<- this]; exact hp
 ·rintro (⟨y,hy,hp⟩ | hp)
  ·rw [List.mem_filter] at hy
   exact ⟨y,List.mem_filter.2 ⟨hy.1,by have:=hy.2; simp only [List.contains_eq_mem,decide_eq_true_eq] at this; simp [this]⟩,hp⟩
  ·exact ⟨e,List.mem_filter.2 ⟨he,by simp⟩,hp⟩
where
 born_get {m:List ME} {c:Nat} (hM:MWf mtI m c) {i j:Nat} {x y:ME} (hi:m[i]? = some x) (hj:m[j]? = some y) (h:x.born = y.born):i = j:=by
  have hp:=List.pairwise_iff_getElem.1 hM.2
  obtain ⟨h1,e1⟩:=List.getElem?_eq_some_iff.1 hi
  obtain ⟨h2,e2⟩:=List.getElem?_eq_some_iff.1 hj
  rcases Nat.lt_trichotomy i j with hlt | heq | hlt
  ·have:=(hp i j h1 h2 hlt).1; rw [e1,e2] at this; omega
  ·exact heq
  ·have:=(hp j i h2 h1 hlt).1; rw [e1,e2] at this; omega
theorem qnY {h:Hp} {it:Value} {bi b since st c:Nat} {seen:List Nat} {m:List ME} (hit:it = .pointer (some ⟨bi,0,none⟩)) (hb:h bi = some (.mapIter (some b) since seen.toArray st)) (hM:qaU h b mtI m c):qiw h it = (m.filter fun y=>!(seen.contains y.born)).length:=by
 subst hit
 unfold qiw
 simp only [hb,hM.1,MT.obj,List.toList_toArray,List.contains_toArray]
 rw [List.filter_map,List.length_map]
 rfl
theorem q4A {m:List ME} {e:ME} (he:e ∈ m) {seen:List Nat} (hn:¬ e.born ∈ seen):(m.filter fun y=>!((seen ++ [e.born]).contains y.born)).length < (m.filter fun y=>!(seen.contains y.born)).length:=by
 have h1:(m.filter fun y=>!((seen ++ [e.born]).contains y.born)) = ((m.filter fun y=>!(seen.contains y.born)).filter fun y=>!((seen ++ [e.born]).contains y.born)):=by
  rw [List.filter_filter]
  refine List.filter_congr fun y hy=>?_
  by_cases hs:y.born ∈ seen <;> simp [hs]
 rw [h1]
 refine List.length_filter_lt_length_iff_exists.2 ⟨e,List.mem_filter.2 ⟨he,by simp [hn]⟩,by simp⟩
section
variable {h0 H:Hp} {v it:Value} {o:List Int} {s t:Int} {L Hs:List Int} {cl:Cl}
theorem qtK {bi:Nat} (hc:qX h0 v cl) (hno:∀ i,cl o i = none) (hle:Hp.le h0 H) (hit:it = .pointer (some ⟨bi,0,none⟩)) (hb:H bi = some (.mapIter none 0 #[] 0)):qrz h0 H v it o s t L Hs false:=fun cl' h'=>by
 rw [qhM hc h']
 exact ⟨qzs hc hle,[],[],⟨bi,none,0,0,hit,hb,.inl ⟨rfl,rfl⟩⟩,fun i=>by rw [hno]; rfl,rfl⟩
theorem qtH {bi b c:Nat} {m:List ME} (hc:qX h0 v cl) (hm:qaU h0 b mtI m c) (he:∀ i,cl o i = qdU m i) (hle:Hp.le h0 H) (hit:it = .pointer (some ⟨bi,0,none⟩)) (hb:H bi = some (.mapIter (some b) c #[] c)):qrz h0 H v it o s t L Hs false:=fun cl' h'=>by
 rw [qhM hc h']
 have hmH:=qgZ hm hle
 have hne:bi ≠ b:=fun e=>by
  rw [e] at hb
  have:=hmH.1.symm.trans hb
  simp [MT.obj] at this
 refine ⟨qzs hc hle,m,[],⟨bi,some b,c,c,hit,hb,.inr ⟨b,c,rfl,hne,hmH,Nat.le_refl _,.inl rfl,fun n hn=>by cases hn⟩⟩,he,?_⟩
 have:(m.filter fun e=>([]:List Nat).contains e.born) = []:=by simp
 rw [this]; rfl
theorem q95 {bi b since st c:Nat} {m:List ME} {seen:List Nat} {e:ME} {x y:Bool} (hc:qX h0 v cl) (hcH:qX H v cl) (hit:it = .pointer (some ⟨bi,0,none⟩)) (hb:H bi = some (.mapIter (some b) since seen.toArray st)) (hne:bi ≠ b) (hm:qaU H b mtI m c) (hcs:c <= since) (hseen:∀ n ∈ seen,∃ e ∈ m,e.born = n)
  (he:∀ i,cl o i = qdU m i) (hem:e ∈ m) (hx:x = (m.filter fun e=>seen.contains e.born).any (qjg o s t L Hs)) (hy:y = (x || qjg o s t L Hs e)):qrz h0 (Hp.upd H bi (.mapIter (some b) since (seen ++ [e.born]).toArray c)) v it o s t L Hs y:=fun cl' h'=>by
 rw [qhM hc h']
 refine ⟨qy7 hcH hb,m,seen ++ [e.born],⟨bi,some b,since,c,hit,qik,.inr ⟨b,c,rfl,hne,qd6 (Ne.symm hne) hm,hcs,.inr (.inr ⟨e,hem,(hm.2.1 e hem).2.2⟩),fun n hn=>?_⟩⟩,he,?_⟩
 ·rcases List.mem_append.1 hn with h | h
  ·exact hseen n h
  ·rw [List.mem_singleton] at h; exact ⟨e,hem,h.symm⟩
 ·rw [q62 hm.2 hem,<- hx,hy]
theorem q4N {since c:Nat} {m:List ME} {seen:List Nat} {x:Bool} (hM:MWf mtI m c) (hc:qX h0 v cl) (hcH:qX H v cl) (hcs:c <= since) (he:∀ i,cl o i = qdU m i) (hx:x = (m.filter fun e=>seen.contains e.born).any (qjg o s t L Hs)) (hall:∀ e ∈ m,e.born < since->e.born ∈ seen) :
  ∀ cl',qX h0 v cl'->qX H v cl'/\x = qej cl' o s t L Hs:=fun cl' h'=>by
 rw [qhM hc h']
 refine ⟨hcH,?_⟩
 have hf:(m.filter fun e=>seen.contains e.born) = m:=List.filter_eq_self.2 fun e hem=>by
  have:=hall e hem (by have:=(hM.1 e hem).2.2; omega)
  simpa using this
 obtain ⟨b,l,c0,rfl,_,_,_,_,hr⟩:=hc
 rw [hf] at hx
 rw [hx]; exact qvF hM he hr
end
end Go.Proofs

set_option linter.unusedSimpArgs false
set_option linter.unusedVariables false
namespace Go.Proofs
open Go Go.Eng
set_option maxRecDepth 20000
theorem q71:qey.ok Tryz.prog:=q7h (by simp) fun ρ hg hp=>by
 simp (config:={ maxSteps:=4000000 }) [qs3,qey]
 intro u _ v _ b hv hu
 exact ⟨b,[],0,hv,⟨by rw [hu]; simp [Hp.one,MT.obj],fun x hx=>(by cases hx),List.Pairwise.nil⟩,fun x hx=>(by cases hx),fun x hx=>(by cases hx),fun _ _ _=>rfl,fun _ _ _ h=>(by cases h)⟩
theorem qAg:qjA.ok Tryz.prog:=q9T (by simp) fun ρ hg hp=>by
 obtain ⟨h0,h1,h2,h3⟩:=hp
 simp (config:={ maxSteps:=4000000 }) [q0r,qjA]
 have hu:(ρ 0).i <= (ρ 1).i->qe .sub .u64 (ρ 1).i (ρ 0).i = (ρ 1).i - (ρ 0).i:=fun h=>by
  show IntKind.wrap .u64 _ = _
  rw [q8N]; omega
 refine ⟨fun h=>?_,fun h=>?_⟩
 ·rw [hu h]; unfold qkG; rw [decide_eq_true h,Bool.true_and]; rfl
 ·unfold qkG; rw [decide_eq_false (by omega),Bool.false_and]
theorem qxh (d:qd):[qa d 0,qa d 1,qa d 2,qa d 3,qa d 4,qa d 5,qa d 6,qa d 7,qa d 8,qa d 9,qa d 10,qa d 11,qa d 12,qa d 13,qa d 14,qa d 15,qa d 16,qa d 17,qa d 18,qa d 19,qa d 20,qa d 21,qa d 22,qa d 23,qa d 24,qa d 25,qa d 26,qa d 27,qa d 28,qa d 29,qa d 30,qa d 31] = qg d 32:=rfl
theorem qvl:(⟨true,[.u8,.u8,.u8,.u8,.u8,.u8,.u8,.u8,.u8,.u8,.u8,.u8,.u8,.u8,.u8,.u8,.u8,.u8,.u8,.u8,.u8,.u8,.u8,.u8,.u8,.u8,.u8,.u8,.u8,.u8,.u8,.u8],false,[.any],[.vnilm]⟩:MT) = mtO:=rfl
theorem qxy:(⟨false,[.i64],false,[.int .u64],[.vint .u64 (.lit 0)]⟩:MT) = mtI:=rfl
theorem q7C (ρ:Env):List.map (fun t=>(T.den ρ t).v) mtO.zero = [.map none]:=rfl
theorem q7N (ρ:Env):List.map (fun t=>(T.den ρ t).v) mtI.zero = [.int .u64 0]:=rfl
theorem qtB (row:List Value):qF [row] 0 0 = row.headD .nilFunc:=by cases row <;> rfl
theorem qvQ {l:List ME} {k:List Int} {z:List Value} (h:qaE l k = true):∃ x ∈ l,x.k = k/\qcU l k z = x.v:=by
 obtain ⟨j,x,hj,hk,_,hg⟩:=qeI (mt:=mtO) (i:=0) h
 exact ⟨x,List.mem_of_getElem? hj,hk,hg z⟩
theorem q7y {cl:Cl} {o:List Int} {i t:Int} (h:qqH i = false):qeC cl o i t = cl:=by
 unfold qeC
 rw [if_neg (of_decide_eq_false h)]
theorem q7g {l:List ME} {k:List Int} {v z:List Value} {c:Nat} (h:qaE l k = false):qcU (qaY l k v c).1 k z = v:=by
 have hn:=qlu h
 unfold qaY
 rw [if_neg (by rw [h]; simp)]
 unfold qcU
 simp only
 rw [List.find?_append]
 have:l.find? (fun x=>x.k == k) = none:=by
  rw [List.find?_eq_none]
  intro x hx hk
  exact hn x hx (by simpa using hk)
 rw [this]; simp
theorem qb2 {ρ:Env} {l:List SH} {H:Hp} (n t:Nat) (hs:qW ρ l H) (hm:SH.abs n t ∈ l):Hp.le (ρ n).h H:=by
 obtain ⟨hb,lb,db⟩:=qbQ hs hm
 exact Hp.le_trans db lb
theorem q0S {ρ:Env} {n m t t':Nat} {H:Hp} (hs:qW ρ [SH.abs n t,SH.abs m t'] H):Hp.disj (ρ n).h (ρ m).h:=by
 obtain ⟨h1,h2,hd,hu,hx,h3,h4,hd2,hu2,hy,_⟩:=hs
 intro b
 cases hb1:(ρ n).h b with
 | none=>exact .inl rfl
 | some X =>
  cases hb2:(ρ m).h b with
  | none=>exact .inr rfl
  | some Y =>
   have e1:=hx.1 b X hb1
   have e2:=hy.1 b Y hb2
   have e3:h2 b = some Y:=by rw [hu2]; simp [Hp.union,e2]
   rcases hd b with h | h
   ·rw [e1] at h; cases h
   ·rw [e3] at h; cases h
theorem q8o {b:Nat}:qu mtO.vpat [.map (some b)]:=⟨rfl,fun c k v hk hv=>by
 cases c with
 | zero=>simp only [mtO,List.getElem?_cons_zero,Option.some.injEq] at hk hv; subst hk hv; rfl
 | succ c=>simp [mtO] at hk⟩
theorem q9l:qfX.ok Tryz.prog:=q9s (by simp [qrR]) fun ρ hg hp=>by
 obtain ⟨⟨cl,hcl⟩,h0,h1⟩:=hp
 have hcl0:=hcl
 simp (config:={ maxSteps:=4000000 }) [qxt,qfX,qc7,qxh,qvl,qxy,qtB,qc,q7C,q7N]
 obtain ⟨b,l,c,hv,hm,hi,hd,hn,hr⟩:=hcl
 intro u _ p _ hp
 refine ⟨fun hpf cl' h'=>by rw [q7y (hp ▸ hpf)]; exact h',fun hpt=>⟨l,.inr ⟨b,hv,c,hm⟩,?_⟩⟩
 have hpp:0 <= (ρ 2).i/\(ρ 2).i < 16:=of_decide_eq_true (hp ▸ hpt:qqH (ρ 2).i = true)
 cases hh:qaE l (qg (ρ 1).d 32) with
 | false =>
  refine .inl ⟨by rw [qiV hh]; rfl,fun m _ v _ b' hvv hmh H _ hst=>?_⟩
  obtain ⟨hA,lA,dA⟩:=qbQ hst (n:=10) (t:=1003) (by simp)
  obtain ⟨hB,lB,dB⟩:=qbQ hst (n:=5) (t:=1003) (by simp)
  have hle:Hp.le (ρ 5).h H.h:=by
   have h:=qb2 5 1003 hst (by simp)
   simpa using h
  have hone:H.h b' = some (.map #[] 0):=by
   have h:=qb2 10 1003 hst (by simp)
   have h:Hp.le m.h H.h:=by simpa using h
   exact h b' _ (by rw [hmh]; simp [Hp.one])
  have hnew:∀ X,(ρ 5).h b' = some X->False:=by
   intro X hX
   have h:=q0S hst
   have h:Hp.disj m.h (ρ 5).h:=by simpa using h
   rcases h b' with h | h
   ·rw [hmh] at h; simp [Hp.one] at h
   ·rw [hX] at h; cases h
  have hbb:b' ≠ b:=fun he=>hnew _ (by rw [he]; exact hm.1)
  have hfree:∀ x ∈ l,x.v ≠ [.map (some b')]:=fun x hx he=>by
   obtain ⟨b3,m3,c3,f1,f2,f3,f4⟩:=hi x hx
   rw [he] at f1
   simp only [List.cons.injEq,Value.map.injEq,Option.some.injEq,and_true] at f1
   exact hnew _ (by rw [f1]; exact f3.1)
  have hmH:=qgZ hm hle
  have hiH:∀ x ∈ l,∃ b' m c',x.v = [.map (some b')]/\b' ≠ b/\qaU H.h b' mtI m c'/\∀ i,cl x.k i = qdU m i:=fun x hx=>by
   obtain ⟨b3,m3,c3,f1,f2,f3,f4⟩:=hi x hx
   exact ⟨b3,m3,c3,f1,f2,qgZ f3 hle,f4⟩
  have hput:=q7g (z:=[.map none]) (v:=[v.v]) (c:=c) hh
  have hfit:qu mtO.vpat [v.v]:=by rw [hvv]; exact q8o
  refine ⟨b,hv,l,c,hmH,fun u4 _ h4=>⟨(qaY l (qg (ρ 1).d 32) [v.v] c).1,.inr ⟨b,hv,(qaY l (qg (ρ 1).d 32) [v.v] c).2,⟨by rw [h4]; exact qik,qjM hm.2 (by simp [qg,mtO]) hfit⟩⟩,b',by rw [hput,hvv]; rfl,[],0,⟨by rw [h4,qve hbb,hone]; rfl,fun x hx=>(by cases hx),List.Pairwise.nil⟩,fun u5 _ h5 cl' h'=>?_⟩⟩
  rw [qhM hcl0 h',h5,hv,h4,hvv]
  exact q64 hmH hiH hd hn hr hh (by simp [qg]) hbb hfree hpp.1 hpp.2 h0 h1
 | true =>
  obtain ⟨x,hx,hk,hgx⟩:=qvQ (z:=[.map none]) hh
  obtain ⟨b',m,c',e1,e2,e3,e4⟩:=hi x hx
  refine .inr ⟨⟨b',by rw [hgx,e1]; rfl⟩,l,.inr ⟨b,hv,c,hm⟩,b',by rw [hgx,e1]; rfl,m,c',e3,fun u5 _ h5 cl' h'=>?_⟩
  rw [qhM hcl0 h',h5,hv,<- hk]
  exact q5L hm hi hd hn hr hx e1 e3 hpp.1 hpp.2 h0 h1
theorem q0L:qc3.ok Tryz.prog:=q2m (by simp [q3k,qAg,qtg]) fun ρ hg hp=>by
 obtain ⟨⟨cl,hcl⟩,hO,⟨hl,h1,hr⟩,⟨hl2,h12,hr2⟩,⟨hGr,hGd⟩,t0,t1⟩:=hp
 simp only [Nat.reduceAdd] at hl h1 hr hl2 h12 hr2
 have hcl0:=hcl
 simp (config:={ maxSteps:=4000000 }) [qmQ,qc3,qoS,qet,qjA,qbZ,qeU,qcw,gOk,qxh,qvl,qxy,qtB,qc,q7C,q7N,hl,hl2,hO,hGr,hGd]
 obtain ⟨b,l,c,hv,hm,hi,hd,hn,hrr⟩:=hcl
 repeat' (first | with_reducible apply And.intro | with_reducible intro _)
 all_goals first
  | omega
  | exact qjC (by assumption) (by assumption)
  | skip
 refine ⟨l,.inr ⟨b,hv,c,hm⟩,?_⟩
 have hstart:∃ (mo:Option Nat) (clock:Nat),((qcU l (qg (ρ 1).d 32) [Value.map none]).head?.getD .nilFunc = .map none/\mo = none/\clock = 0∨∃ b:Nat,(qcU l (qg (ρ 1).d 32) [Value.map none]).head?.getD .nilFunc = .map (some b)/\mo = some b/\∃ l,qaU (ρ 5).h b mtI l clock)/\∀ (H:Hp) (bi:Nat) (it:Value),Hp.le (ρ 5).h H->it = .pointer (some ⟨bi,0,none⟩)->H bi = some (.mapIter mo clock #[] clock)->qrz (ρ 5).h H (ρ 4).v it (qg (ρ 1).d 32) (ρ 2).i (ρ 3).i (qx (ρ 9).d) (qx (ρ 14).d) false:=by
  cases hh:qaE l (qg (ρ 1).d 32) with
  | false =>
   have hg0:=qiV (z:=[.map none]) hh
   exact ⟨none,0,.inl ⟨by rw [hg0]; rfl,rfl,rfl⟩,fun H bi it hle hit hb=>qtK hcl0 (fun i=>hn _ _ (qlu hh)) hle hit hb⟩
  | true =>
   obtain ⟨x,hx,hk,hgx⟩:=qvQ (z:=[.map none]) hh
   obtain ⟨b',m,c',e1,e2,e3,e4⟩:=hi x hx
   exact ⟨some b',c',.inr ⟨b',by rw [hgx,e1]; rfl,rfl,m,e3⟩,fun H bi it hle hit hb=>qtH hcl0 e3 (fun i=>by rw [<- hk]; exact e4 i) hle hit hb⟩
 obtain ⟨mo,clock,hmo,hst0⟩:=hstart
 refine ⟨mo,clock,hmo,?_⟩
 intro I1 _ I2 _ bi hit hI1 H _ hst
 have hle:Hp.le I1.h H.h/\Hp.le (ρ 5).h H.h:=by
  have h1:=qb2 54 1003 hst (by simp)
  have h2:=qb2 5 1003 hst (by simp)
  exact ⟨by simpa using h1,by simpa using h2⟩
 have hbi:H.h bi = some (.mapIter mo clock #[] clock):=hle.1 _ _ (by rw [hI1]; simp [Hp.one])
 refine ⟨⟨qdy (l:=[_,_,_,_,_,_,_,_,_,_,_,_,_,_,_,_]) (by assumption) qez,qdy (l:=[_,_,_,_,_,_,_,_,_,_,_,_,_,_,_,_]) (by assumption) qez,hst0 H.h bi I2.v hle.2 hit hbi⟩,?_⟩
 intro F13 _ F14 _ x _ it _ H2 _ hs13 hs14 hB
 obtain ⟨hcH,m,seen,⟨bi2,mo2,since,stp,hit2,hbi2,hmo2⟩,hco,hx⟩:=hB cl hcl0
 refine ⟨bi2,hit2,since,seen,stp,mo2,hbi2,?_⟩
 rcases hmo2 with ⟨rfl,rfl⟩ | ⟨b2,c2,rfl,hne,hM,hcs,hstt,hseen⟩
 ·exact q4N (m:=[]) (c:=0) (since:=0) ⟨fun x hx=>(by cases hx),List.Pairwise.nil⟩ hcl0 hcH (Nat.le_refl _) hco hx (fun e he=>by cases he)
 ·refine ⟨m,c2,hM,hstt,fun hall=>q4N hM.2 hcl0 hcH hcs hco hx hall,fun e he hns u2 _ hu2=>⟨bi2,hit2,since,seen,c2,b2,m,e,by rw [hu2]; exact qik,by rw [hu2]; exact qd6 (Ne.symm hne) hM,he,?_⟩⟩
  have hbl:∀ y:Bool,y = (x.b || qjg (qg (ρ 1).d 32) (ρ 2).i (ρ 3).i (qx (ρ 9).d) (qx (ρ 14).d) e)->qrz (ρ 5).h u2.h (ρ 4).v it.v (qg (ρ 1).d 32) (ρ 2).i (ρ 3).i (qx (ρ 9).d) (qx (ρ 14).d) y:=fun y hy=>by
   rw [hu2]; exact q95 hcl0 hcH hit2 hbi2 hne hM hcs hseen hco he hx hy
  have hless:qiw u2.h it.v < qiw H2.h it.v:=by
   rw [qnY (h:=H2.h) hit2 hbi2 hM,qnY (h:=u2.h) (seen:=seen ++ [e.born]) hit2 (by rw [hu2]; exact qik) (by rw [hu2]; exact qd6 (Ne.symm hne) hM)]
   exact q4A he hns
  obtain ⟨z,hz⟩:=qz0 hM.2 he
  have hg:=(hco z).trans (qu6 hM.2 he hz)
  obtain ⟨z0,z1,v0,v1⟩:=hrr _ _ _ hg
  have hcv:qa [e.v] 0 = qag (e.v.headD .nilFunc):=by unfold qa; cases e.v <;> rfl
  have hbe:∀ a b c d:Bool,a = qkG (qag (e.v.headD .nilFunc)) (ρ 3).i->b = decide (z ∈ qx (ρ 9).d)->c = decide (z ∈ qx (ρ 14).d)->d = qS (qg (ρ 1).d 32) z (ρ 2).i->qjg (qg (ρ 1).d 32) (ρ 2).i (ρ 3).i (qx (ρ 9).d) (qx (ρ 14).d) e = (a && b && !c && d):=by
   intro a b c d ha hb hc hd
   unfold qjg
   rw [hz,ha,hb,hc,hd,List.headD_cons]
  have hkx:qa [qV [IntKind.i64] e.k] 0 = z:=by rw [hz]; rfl
  have hkx':qa [qV mtI.kks e.k] 0 = z:=hkx
  rw [hcv,hkx']
  have hB:=fun (r:U) (hr':r.b = qkG (qag (e.v.headD .nilFunc)) (ρ 3).i)=>hbe r.b (decide (z ∈ qx (ρ 9).d)) (decide (z ∈ qx (ρ 14).d)) (qS (qg (ρ 1).d 32) z (ρ 2).i) hr' rfl rfl rfl
  refine ⟨fun hxt=>⟨⟨hs13,hs14,hbl true (by rw [hxt,Bool.true_or])⟩,hless⟩,fun hxf=>⟨⟨v0,v1,t0,t1⟩,fun r _ hr'=>⟨fun hrt=>⟨z0,z1,qw0 hs14,fun hf14=>⟨qw0 hs13,fun hf13 w _ hw=>⟨⟨hs13,hs14,hbl w.b ?_⟩,hless⟩,fun hf13=>⟨⟨hs13,hs14,hbl false ?_⟩,hless⟩⟩,fun hf14=>⟨⟨hs13,hs14,hbl false ?_⟩,hless⟩⟩,fun hrf=>⟨⟨hs13,hs14,hbl false ?_⟩,hless⟩⟩⟩⟩
  ·rw [hxf,hB r hr',hrt,decide_eq_true ((qfx hs14 qez z0 z1).1 hf14),decide_eq_false (qkV hs13 qez z0 z1 hf13),hw]; generalize qS (qg (ρ 1).d 32) z (ρ 2).i = q; cases q <;> rfl
  ·rw [hxf,hB r hr',hrt,decide_eq_true ((qfx hs14 qez z0 z1).1 hf14),decide_eq_true ((qfx hs13 qez z0 z1).1 hf13)]; generalize qS (qg (ρ 1).d 32) z (ρ 2).i = q; cases q <;> rfl
  ·rw [hxf,hB r hr',hrt,decide_eq_false (qkV hs14 qez z0 z1 hf14)]; generalize qS (qg (ρ 1).d 32) z (ρ 2).i = q; cases q <;> rfl
  ·rw [hxf,hB r hr',hrf]; generalize qS (qg (ρ 1).d 32) z (ρ 2).i = q; cases q <;> simp
end Go.Proofs

set_option linter.unusedSimpArgs false
set_option linter.unusedVariables false
set_option maxRecDepth 100000
namespace Go.Proofs
open Go Go.Eng

def qsk:Out:=(.fresh 1 (.fresh 2 (.ret 0 (sg 1 [bg 1 2]))))
theorem q08:qj ⟨Tryz.prog,qc2,[],[]⟩ 100000 Tryz.f45 = qsk:=by kernel_rfl
theorem q7x (hd:∀ c ∈ ([]:List Ctr),c.ok Tryz.prog) (h:∀ ρ:Env,ρ.good->(qc2).pre ρ->qsk.den ⟨Tryz.prog,qc2,[],[]⟩ ρ):(qc2).ok Tryz.prog :=
 qf Tryz.func45 (fun a w=>Tryz.call45 a w) hd 100000 (fun ρ hg hp=>by rw [q08]; exact h ρ hg hp)
def qrX:Out:=(.br (.not (.and (.cmp .eql (.dlen (.var 3)) (.lit 0)) (.isnil 2)))
 (.need (.cmp .leq (.lit 0) (.var 6)) (.need (.cmp .lss (.lit 0) (.dlen (.var 3))) (.ret 0 (sg 10 [bt 10 (.cmp .geq (.var 6) (.icell (.var 3) (.lit 0) 0))]))))
 (.ret 0 (sg 10 [bt 10 (.bl false)])))
theorem qzW:qj ⟨Tryz.prog,qb1,[],[]⟩ 100000 Tryz.f47 = qrX:=by kernel_rfl
theorem q68 (hd:∀ c ∈ ([]:List Ctr),c.ok Tryz.prog) (h:∀ ρ:Env,ρ.good->(qb1).pre ρ->qrX.den ⟨Tryz.prog,qb1,[],[]⟩ ρ):(qb1).ok Tryz.prog :=
 qf Tryz.func47 (fun a w=>Tryz.call47 a w) hd 100000 (fun ρ hg hp=>by rw [qzW]; exact h ρ hg hp)
def qso:Out:=(.pre 0 (sg 0 [bg 9 9,bv 8 8,bv 4 4,bv 3 3,bv 7 7,bv 6 6,bg 5 5,bg 2 2,bt 1 (r8 1),bg 0 0]) (.both (.fresh 10 (.post 0 0 (sg 0 [bg 9 9,bv 8 8,bv 4 4,bv 3 3,bv 7 7,bv 6 6,bg 5 5,bg 2 2,bt 1 (r8 1),bg 0 0]) 10 (.br (.not (.var 10))
 (.ret 0 (sg 10 [bt 10 (.lit 12)]))
 (.ret 0 (sg 10 [bt 10 (.lit 0)]))))) .top))
theorem q1Y:qj ⟨Tryz.prog,qcG,[qb1],[]⟩ 100000 Tryz.f89 = qso:=by kernel_rfl
theorem q6I (hd:∀ c ∈ ([qb1]:List Ctr),c.ok Tryz.prog) (h:∀ ρ:Env,ρ.good->(qcG).pre ρ->qso.den ⟨Tryz.prog,qcG,[qb1],[]⟩ ρ):(qcG).ok Tryz.prog :=
 qf Tryz.func89 (fun a w=>Tryz.call89 a w) hd 100000 (fun ρ hg hp=>by rw [q1Y]; exact h ρ hg hp)
def qvr:Out:=(.fresh 10 (.need (.cmp .leq (.lit 0) (.var 6)) (.inv 0 11 (sg 1000 [bt 1003 .dnil,bt 1004 (.lit 0),bt 1002 (.lit 0),bt 1001 (.lit 0),bg 1000 10]) (.fresh 11 (.fresh 12 (.fresh 13 (.fresh 14 (.fresh 15 (.hyp 0 11 (.br (.cmp .lss (.var 15) (.var 6))
 (.need (.cmp .leq (.lit 0) (.var 15)) (.need (.cmp .lss (.var 15) (.dlen (.var 8))) (.fresh 16 (.fresh 17 (.need (.cmp .eql (.var 12) (.dlen (.var 14))) (.need (.cmp .leq (.tims (.lit 8) (.plus (.var 12) (.lit 1))) (.lit 140737488355328)) (.fresh 18 (.fresh 19 (.back 0 11 (sg 1000 [bt 1003 (.dapp (.var 14) (.rcons (.vint .i64 (.icell (.var 8) (.var 15) 0)) .rnil)),bt 1004 (.arith .add .i64 (.var 15) (.lit 1)),bv 1002 19,bt 1001 (.plus (.var 12) (.lit 1)),bg 1000 18]))))))))))
 (.ret 0 (sg 10 [bv 13 14,bv 12 13,bv 11 12,bg 10 11]))))))))))))
theorem q3R:qj ⟨Tryz.prog,qci,[],[q0u]⟩ 100000 Tryz.f55 = qvr:=by kernel_rfl
theorem q94 (hd:∀ c ∈ ([]:List Ctr),c.ok Tryz.prog) (h:∀ ρ:Env,ρ.good->(qci).pre ρ->qvr.den ⟨Tryz.prog,qci,[],[q0u]⟩ ρ):(qci).ok Tryz.prog :=
 qf Tryz.func55 (fun a w=>Tryz.call55 a w) hd 100000 (fun ρ hg hp=>by rw [q3R]; exact h ρ hg hp)
def qos:Out:=(.br (.and (.cmp .eql (.dlen (.var 3)) (.lit 0)) (.isnil 0))
 (.need (.cmp .eql (.var 1) (.lit 0)) (.ret 0 (sg 5 [bt 7 .dnil,bt 6 (.lit 0),(5,.nil)])))
 (.fresh 5 (.need (.cmp .leq (.lit 0) (.var 1)) (.need (.cmp .leq (.var 1) (.dlen (.var 3))) (.need (.cmp .leq (.tims (.lit 32) (.var 1)) (.lit 140737488355328)) (.fresh 6 (.fresh 7 (.ret 0 (sg 5 [bt 7 (.dtake (.var 3) (.var 1)),bv 6 7,bg 5 6])))))))))
theorem qyn:qj ⟨Tryz.prog,qca,[],[]⟩ 100000 Tryz.f90 = qos:=by kernel_rfl
theorem q4F (hd:∀ c ∈ ([]:List Ctr),c.ok Tryz.prog) (h:∀ ρ:Env,ρ.good->(qca).pre ρ->qos.den ⟨Tryz.prog,qca,[],[]⟩ ρ):(qca).ok Tryz.prog :=
 qf Tryz.func90 (fun a w=>Tryz.call90 a w) hd 100000 (fun ρ hg hp=>by rw [qyn]; exact h ρ hg hp)
@[simp] def qiE:Sg:=sg 0 [bg 9 9,bv 8 8,bv 4 4,bv 3 3,bv 7 7,bv 6 6,bg 5 5,bg 2 2,bt 1 (r8 1),bg 0 0]
@[simp] def qsN:Sg:=sg 0 [bv 11 27,bv 9 19,bv 8 18,bv 7 17,bv 6 16,bg 5 15,bv 3 13,bv 2 12,bv 1 11,bv 0 10,bt 4 (r8 14),bg 10 26]
@[simp] def qt0:Sg:=sg 0 [bv 17 27,bv 15 25,bv 14 24,bv 9 19,bv 8 18,bv 13 23,bv 12 22,bg 11 21,bv 10 20,bv 7 17,bv 6 16,bg 5 15,bv 3 13,bv 2 12,bv 1 11,bv 0 10,bt 4 (r8 14),bg 16 26]
def qrC:Out:=(.fresh 28 (.fresh 29 (.pre 0 qsN (.both (.fresh 30 (.fresh 31 (.post 0 0 qsN 30 (.fresh 32 (.br (.cmp .neq (.var 31) (.lit 0))
 (.pack [.cells 32 24 [(x8 0 30),(x8 1 30),(x8 2 30),(x8 3 30),(x8 4 30),(x8 5 30),(x8 6 30),(x8 7 30),(x8 8 30),(x8 9 30),(x8 10 30),(x8 11 30),(x8 12 30),(x8 13 30),(x8 14 30),(x8 15 30),(x8 16 30),(x8 17 30),(x8 18 30),(x8 19 30),(x8 20 30),(x8 21 30),(x8 22 30),(x8 23 30),(x8 24 30),(x8 25 30),(x8 26 30),(x8 27 30),(x8 28 30),(x8 29 30),(x8 30 30),(x8 31 30)],.cells 29 86 [(.vint .i64 (.var 20)),(.vslice 21 (.lit 0) (.var 22) (.var 23) 1)],.cells 28 27 [(.vint .i64 (.var 10)),(.vint .i64 (.var 11)),(.vint .i64 (.var 12)),(.vint .i64 (.var 13)),(x8 0 14),(x8 1 14),(x8 2 14),(x8 3 14),(x8 4 14),(x8 5 14),(x8 6 14),(x8 7 14),(x8 8 14),(x8 9 14),(x8 10 14),(x8 11 14),(x8 12 14),(x8 13 14),(x8 14 14),(x8 15 14),(x8 16 14),(x8 17 14),(x8 18 14),(x8 19 14),(x8 20 14),(x8 21 14),(x8 22 14),(x8 23 14),(x8 24 14),(x8 25 14),(x8 26 14),(x8 27 14),(x8 28 14),(x8 29 14),(x8 30 14),(x8 31 14),(.vslice 15 (.lit 0) (.var 16) (.var 17) 32)],.abs 9 20] 33 (.ret 0 (sg 28 [bg 35 33,bv 34 8,bv 30 4,bv 29 3,bv 33 7,bv 32 6,bg 31 5,bg 28 2,bv 36 31])))
 (.br (.not (.c2 .req (r8 30) (r8 1)))
 (.pack [.cells 32 24 [(x8 0 30),(x8 1 30),(x8 2 30),(x8 3 30),(x8 4 30),(x8 5 30),(x8 6 30),(x8 7 30),(x8 8 30),(x8 9 30),(x8 10 30),(x8 11 30),(x8 12 30),(x8 13 30),(x8 14 30),(x8 15 30),(x8 16 30),(x8 17 30),(x8 18 30),(x8 19 30),(x8 20 30),(x8 21 30),(x8 22 30),(x8 23 30),(x8 24 30),(x8 25 30),(x8 26 30),(x8 27 30),(x8 28 30),(x8 29 30),(x8 30 30),(x8 31 30)],.cells 29 86 [(.vint .i64 (.var 20)),(.vslice 21 (.lit 0) (.var 22) (.var 23) 1)],.cells 28 27 [(.vint .i64 (.var 10)),(.vint .i64 (.var 11)),(.vint .i64 (.var 12)),(.vint .i64 (.var 13)),(x8 0 14),(x8 1 14),(x8 2 14),(x8 3 14),(x8 4 14),(x8 5 14),(x8 6 14),(x8 7 14),(x8 8 14),(x8 9 14),(x8 10 14),(x8 11 14),(x8 12 14),(x8 13 14),(x8 14 14),(x8 15 14),(x8 16 14),(x8 17 14),(x8 18 14),(x8 19 14),(x8 20 14),(x8 21 14),(x8 22 14),(x8 23 14),(x8 24 14),(x8 25 14),(x8 26 14),(x8 27 14),(x8 28 14),(x8 29 14),(x8 30 14),(x8 31 14),(.vslice 15 (.lit 0) (.var 16) (.var 17) 32)],.abs 9 20] 33 (.ret 0 (sg 28 [bg 35 33,bv 34 8,bv 30 4,bv 29 3,bv 33 7,bv 32 6,bg 31 5,bg 28 2,bt 36 (.lit 20)])))
 (.pre 1 qt0 (.both (.fresh 33 (.post 1 0 qt0 33 (.br (.cmp .neq (.var 33) (.lit 0))
 (.pack [.cells 32 24 [(x8 0 30),(x8 1 30),(x8 2 30),(x8 3 30),(x8 4 30),(x8 5 30),(x8 6 30),(x8 7 30),(x8 8 30),(x8 9 30),(x8 10 30),(x8 11 30),(x8 12 30),(x8 13 30),(x8 14 30),(x8 15 30),(x8 16 30),(x8 17 30),(x8 18 30),(x8 19 30),(x8 20 30),(x8 21 30),(x8 22 30),(x8 23 30),(x8 24 30),(x8 25 30),(x8 26 30),(x8 27 30),(x8 28 30),(x8 29 30),(x8 30 30),(x8 31 30)],.cells 29 86 [(.vint .i64 (.var 20)),(.vslice 21 (.lit 0) (.var 22) (.var 23) 1)],.cells 28 27 [(.vint .i64 (.var 10)),(.vint .i64 (.var 11)),(.vint .i64 (.var 12)),(.vint .i64 (.var 13)),(x8 0 14),(x8 1 14),(x8 2 14),(x8 3 14),(x8 4 14),(x8 5 14),(x8 6 14),(x8 7 14),(x8 8 14),(x8 9 14),(x8 10 14),(x8 11 14),(x8 12 14),(x8 13 14),(x8 14 14),(x8 15 14),(x8 16 14),(x8 17 14),(x8 18 14),(x8 19 14),(x8 20 14),(x8 21 14),(x8 22 14),(x8 23 14),(x8 24 14),(x8 25 14),(x8 26 14),(x8 27 14),(x8 28 14),(x8 29 14),(x8 30 14),(x8 31 14),(.vslice 15 (.lit 0) (.var 16) (.var 17) 32)],.abs 9 20] 34 (.ret 0 (sg 28 [bg 35 34,bv 34 8,bv 30 4,bv 29 3,bv 33 7,bv 32 6,bg 31 5,bg 28 2,bv 36 33])))
 (.both (.pre 2 qiE (.both (.fresh 34 (.fresh 35 (.fresh 36 (.fresh 37 (.post 2 0 qiE 34 (.both (.pre 3 (sg 0 [bv 4 36,bv 3 37,bv 5 20,bv 2 36,bv 1 35,bg 0 34]) (.both (.fresh 38 (.post 3 0 (sg 0 [bv 4 36,bv 3 37,bv 5 20,bv 2 36,bv 1 35,bg 0 34]) 38 (.br (.var 38)
 (.pack [.arr 34 3 [CK.int .i64] (.var 37) (.var 36),.cells 32 24 [(x8 0 30),(x8 1 30),(x8 2 30),(x8 3 30),(x8 4 30),(x8 5 30),(x8 6 30),(x8 7 30),(x8 8 30),(x8 9 30),(x8 10 30),(x8 11 30),(x8 12 30),(x8 13 30),(x8 14 30),(x8 15 30),(x8 16 30),(x8 17 30),(x8 18 30),(x8 19 30),(x8 20 30),(x8 21 30),(x8 22 30),(x8 23 30),(x8 24 30),(x8 25 30),(x8 26 30),(x8 27 30),(x8 28 30),(x8 29 30),(x8 30 30),(x8 31 30)],.cells 29 86 [(.vint .i64 (.var 20)),(.vslice 21 (.lit 0) (.var 22) (.var 23) 1)],.cells 28 27 [(.vint .i64 (.var 10)),(.vint .i64 (.var 11)),(.vint .i64 (.var 12)),(.vint .i64 (.var 13)),(x8 0 14),(x8 1 14),(x8 2 14),(x8 3 14),(x8 4 14),(x8 5 14),(x8 6 14),(x8 7 14),(x8 8 14),(x8 9 14),(x8 10 14),(x8 11 14),(x8 12 14),(x8 13 14),(x8 14 14),(x8 15 14),(x8 16 14),(x8 17 14),(x8 18 14),(x8 19 14),(x8 20 14),(x8 21 14),(x8 22 14),(x8 23 14),(x8 24 14),(x8 25 14),(x8 26 14),(x8 27 14),(x8 28 14),(x8 29 14),(x8 30 14),(x8 31 14),(.vslice 15 (.lit 0) (.var 16) (.var 17) 32)],.abs 9 20] 39 (.ret 0 (sg 28 [bg 35 39,bv 34 8,bv 30 4,bv 29 3,bv 33 7,bv 32 6,bg 31 5,bg 28 2,bt 36 (.lit 7)])))
 (.pre 4 qiE (.both (.fresh 39 (.post 4 0 qiE 39 (.br (.var 39)
 (.pack [.arr 34 3 [CK.int .i64] (.var 37) (.var 36),.cells 32 24 [(x8 0 30),(x8 1 30),(x8 2 30),(x8 3 30),(x8 4 30),(x8 5 30),(x8 6 30),(x8 7 30),(x8 8 30),(x8 9 30),(x8 10 30),(x8 11 30),(x8 12 30),(x8 13 30),(x8 14 30),(x8 15 30),(x8 16 30),(x8 17 30),(x8 18 30),(x8 19 30),(x8 20 30),(x8 21 30),(x8 22 30),(x8 23 30),(x8 24 30),(x8 25 30),(x8 26 30),(x8 27 30),(x8 28 30),(x8 29 30),(x8 30 30),(x8 31 30)],.cells 29 86 [(.vint .i64 (.var 20)),(.vslice 21 (.lit 0) (.var 22) (.var 23) 1)],.cells 28 27 [(.vint .i64 (.var 10)),(.vint .i64 (.var 11)),(.vint .i64 (.var 12)),(.vint .i64 (.var 13)),(x8 0 14),(x8 1 14),(x8 2 14),(x8 3 14),(x8 4 14),(x8 5 14),(x8 6 14),(x8 7 14),(x8 8 14),(x8 9 14),(x8 10 14),(x8 11 14),(x8 12 14),(x8 13 14),(x8 14 14),(x8 15 14),(x8 16 14),(x8 17 14),(x8 18 14),(x8 19 14),(x8 20 14),(x8 21 14),(x8 22 14),(x8 23 14),(x8 24 14),(x8 25 14),(x8 26 14),(x8 27 14),(x8 28 14),(x8 29 14),(x8 30 14),(x8 31 14),(.vslice 15 (.lit 0) (.var 16) (.var 17) 32)],.abs 9 20] 40 (.ret 0 (sg 28 [bg 35 40,bv 34 8,bv 30 4,bv 29 3,bv 33 7,bv 32 6,bg 31 5,bg 28 2,bt 36 (.lit 8)])))
 (.pre 5 (sg 0 [bv 4 19,bv 3 18,bv 2 17,bv 1 16,bg 0 15]) (.both (.fresh 40 (.fresh 41 (.fresh 42 (.post 5 0 (sg 0 [bv 4 19,bv 3 18,bv 2 17,bv 1 16,bg 0 15]) 40 (.both (.pre 6 (sg 0 [bv 4 25,bv 3 24,bv 2 23,bv 1 22,bg 0 21]) (.both (.fresh 43 (.fresh 44 (.fresh 45 (.post 6 0 (sg 0 [bv 4 25,bv 3 24,bv 2 23,bv 1 22,bg 0 21]) 43 (.both (.both (.fresh 46 (.both (.need (.cmp .eql (.var 6) (.dlen (.var 8))) (.need (.cmp .leq (.tims (.lit 32) (.plus (.var 6) (.lit 1))) (.lit 140737488355328)) (.fresh 47 (.fresh 48 (.both (.both (.both (.pack [.cells 46 86 [(.vint .i64 (.var 20)),(.vslice 43 (.lit 0) (.var 22) (.var 44) 1)],.arr 43 5 [CK.int .u8] (.var 45) (.var 44),.arr 40 24 [CK.int .u8,CK.int .u8,CK.int .u8,CK.int .u8,CK.int .u8,CK.int .u8,CK.int .u8,CK.int .u8,CK.int .u8,CK.int .u8,CK.int .u8,CK.int .u8,CK.int .u8,CK.int .u8,CK.int .u8,CK.int .u8,CK.int .u8,CK.int .u8,CK.int .u8,CK.int .u8,CK.int .u8,CK.int .u8,CK.int .u8,CK.int .u8,CK.int .u8,CK.int .u8,CK.int .u8,CK.int .u8,CK.int .u8,CK.int .u8,CK.int .u8,CK.int .u8] (.var 42) (.var 41),.arr 34 3 [CK.int .i64] (.var 37) (.var 36),.cells 32 24 [(x8 0 30),(x8 1 30),(x8 2 30),(x8 3 30),(x8 4 30),(x8 5 30),(x8 6 30),(x8 7 30),(x8 8 30),(x8 9 30),(x8 10 30),(x8 11 30),(x8 12 30),(x8 13 30),(x8 14 30),(x8 15 30),(x8 16 30),(x8 17 30),(x8 18 30),(x8 19 30),(x8 20 30),(x8 21 30),(x8 22 30),(x8 23 30),(x8 24 30),(x8 25 30),(x8 26 30),(x8 27 30),(x8 28 30),(x8 29 30),(x8 30 30),(x8 31 30)],.cells 29 86 [(.vint .i64 (.var 20)),(.vslice 21 (.lit 0) (.var 22) (.var 23) 1)],.arr 2 27 [CK.int .i64,CK.int .i64,CK.int .i64,CK.int .i64,CK.int .u8,CK.int .u8,CK.int .u8,CK.int .u8,CK.int .u8,CK.int .u8,CK.int .u8,CK.int .u8,CK.int .u8,CK.int .u8,CK.int .u8,CK.int .u8,CK.int .u8,CK.int .u8,CK.int .u8,CK.int .u8,CK.int .u8,CK.int .u8,CK.int .u8,CK.int .u8,CK.int .u8,CK.int .u8,CK.int .u8,CK.int .u8,CK.int .u8,CK.int .u8,CK.int .u8,CK.int .u8,CK.int .u8,CK.int .u8,CK.int .u8,CK.int .u8,CK.any] (.var 3) (.var 4),.abs 9 20] 49 (.ret 0 (sg 28 [bg 35 49,bt 34 (.dapp (.var 8) (.rcons (.vint .i64 (.var 20)) (.rcons (.vslice 43 (.lit 0) (.var 22) (.var 44) 1) .rnil))),bt 30 (.lit 1),bt 29 (.rcons (.vint .i64 (.var 10)) (.rcons (.vint .i64 (.var 11)) (.rcons (.vint .i64 (.var 12)) (.rcons (.vint .i64 (.var 13)) (.rcons (x8 0 14) (.rcons (x8 1 14) (.rcons (x8 2 14) (.rcons (x8 3 14) (.rcons (x8 4 14) (.rcons (x8 5 14) (.rcons (x8 6 14) (.rcons (x8 7 14) (.rcons (x8 8 14) (.rcons (x8 9 14) (.rcons (x8 10 14) (.rcons (x8 11 14) (.rcons (x8 12 14) (.rcons (x8 13 14) (.rcons (x8 14 14) (.rcons (x8 15 14) (.rcons (x8 16 14) (.rcons (x8 17 14) (.rcons (x8 18 14) (.rcons (x8 19 14) (.rcons (x8 20 14) (.rcons (x8 21 14) (.rcons (x8 22 14) (.rcons (x8 23 14) (.rcons (x8 24 14) (.rcons (x8 25 14) (.rcons (x8 26 14) (.rcons (x8 27 14) (.rcons (x8 28 14) (.rcons (x8 29 14) (.rcons (x8 30 14) (.rcons (x8 31 14) (.rcons (.vslice 40 (.lit 0) (.var 16) (.var 41) 32) .rnil))))))))))))))))))))))))))))))))))))),bv 33 48,bt 32 (.plus (.var 6) (.lit 1)),bg 31 47,bg 28 28,bt 36 (.lit 0)]))) .top) .top) .top))))) .top)) .top) .top))))) .top)) .top))))) .top))))) .top))))) .top)) .top)))))) .top)) .top)))) .top)))))))) .top))))
theorem q1O:qj ⟨Tryz.prog,qcu,[idC,qbb,qci,qaZ,qb1,qca,qcc],[]⟩ 100000 Tryz.f48 = qrC:=by kernel_rfl
theorem q5K (hd:∀ c ∈ ([idC,qbb,qci,qaZ,qb1,qca,qcc]:List Ctr),c.ok Tryz.prog) (h:∀ ρ:Env,ρ.good->(qcu).pre ρ->qrC.den ⟨Tryz.prog,qcu,[idC,qbb,qci,qaZ,qb1,qca,qcc],[]⟩ ρ):(qcu).ok Tryz.prog :=
 qf Tryz.func48 (fun a w=>Tryz.call48 a w) hd 100000 (fun ρ hg hp=>by rw [q1O]; exact h ρ hg hp)
end Go.Proofs

set_option linter.unusedSimpArgs false
set_option linter.unusedVariables false
namespace Go.Proofs
open Go Go.Eng
set_option maxRecDepth 20000
theorem qvL:qc2.ok Tryz.prog:=q7x (by simp) fun ρ hg hp=>by
 simp (config:={ maxSteps:=4000000 }) [qsk,qc2]
theorem qsY:qca.ok Tryz.prog:=q4F (by simp) fun ρ hg hp=>by
 obtain ⟨h0,hl,h1⟩:=hp
 simp (config:={ maxSteps:=4000000 }) [qos,qca,hl]
 exact ⟨fun h _=>h,fun _=>by omega⟩
section
variable {h:Hp} {r:Option Addr} {d P:qd} {c n:Int} {M M':Option ManV} {L L':PcL}
theorem q5s (h1:qpm h P L) (h2:qpm h P L'):L = L':=by
 refine List.ext_getElem? fun j=>?_
 by_cases hj:j < P.length
 ·have e:=(h1.2.2 j hj).symm.trans (h2.2.2 j hj)
  rw [List.getD_eq_getElem?_getD,List.getD_eq_getElem?_getD,List.getElem?_eq_getElem (by have:=h1.1; omega),List.getElem?_eq_getElem (by have:=h2.1; omega)] at e
  rw [List.getElem?_eq_getElem (by have:=h1.1; omega),List.getElem?_eq_getElem (by have:=h2.1; omega)]
  exact congrArg some e
 ·rw [List.getElem?_eq_none (by have:=h1.1; omega),List.getElem?_eq_none (by have:=h2.1; omega)]
theorem q5x {m m':ManV} (h1:qfS h d m) (h2:qfS h d m'):m = m':=by
 obtain ⟨row,D,e,hf,hr,hD,a1,a2,a3,a4,a5,a6,_,_⟩:=h1
 obtain ⟨row',D',e',hf',hr',hD',b1,b2,b3,b4,b5,b6,_,_⟩:=h2
 rw [e] at e'
 simp only [List.cons.injEq,and_true] at e'
 subst e'
 obtain rfl:=qiY hr hr'
 obtain ⟨k,n,t,s,o,D1⟩:=m
 obtain ⟨k',n',t',s',o',D1'⟩:=m'
 simp only at a1 a2 a3 a4 a5 a6 b1 b2 b3 b4 b5 b6
 simp only [ManV.mk.injEq]
 exact ⟨by rw [<- a2,<- b2],by rw [<- a3,<- b3],by rw [<- a4,<- b4],by rw [<- a5,<- b5],by rw [<- a6,<- b6],by rw [<- a1,<- b1]⟩
theorem qdM (h1:qaL h r d c n P M L) (h2:qaL h r d c n P M' L'):M' = M/\L' = L:=by
 obtain ⟨_,p1,_,_,q1⟩:=h1
 obtain ⟨_,p2,_,_,q2⟩:=h2
 refine ⟨?_,(q5s p1 p2).symm⟩
 rcases q1 with ⟨rfl,_,c0,_⟩ | ⟨m,rfl,c1,hm,_⟩ <;> rcases q2 with ⟨rfl,_,c0',_⟩ | ⟨m',rfl,c1',hm',_⟩
 ·rfl
 ·omega
 ·omega
 ·rw [q5x hm hm']
theorem qAA (h1:qaL h r d c n P M L):qc9 P P.length = L.map Prod.fst:=by
 obtain ⟨_,p1,_⟩:=h1
 refine List.ext_getElem? fun j=>?_
 by_cases hj:j < P.length
 ·have e:=congrArg Prod.fst (p1.2.2 j hj)
  rw [List.getD_eq_getElem?_getD,List.getElem?_eq_getElem (by have:=p1.1; omega)] at e
  rw [qc9,List.getElem?_map,List.getElem?_range hj,List.getElem?_map,List.getElem?_eq_getElem (by have:=p1.1; omega)]
  exact congrArg some e
 ·rw [List.getElem?_eq_none (by simp [qc9]; omega),List.getElem?_eq_none (by rw [List.length_map]; have:=p1.1; omega)]
theorem q7o {i:Nat}:qc9 P (i + 1) = qc9 P i ++ [pcI P i]:=by
 unfold qc9
 rw [List.range_succ,List.map_append]; rfl
end
theorem qoL:qb1.ok Tryz.prog:=q68 (by simp) fun ρ hg hp=>by
 obtain ⟨M,L,h⟩:=hp
 simp (config:={ maxSteps:=4000000 }) [qrX,qb1,gaB]
 have h0:qaL (ρ 9).h (ρ 2).r (ρ 3).d (ρ 4).i (ρ 6).i (ρ 8).d M L:=h
 obtain ⟨hn,hp,_,_,hc⟩:=h
 rcases hc with ⟨rfl,hr,c0,hd,hL⟩ | ⟨m,rfl,c1,hm,hL⟩
 ·refine ⟨fun hcon=>?_,fun _ _ M' L' h'=>?_⟩
  ·rw [hd,hr] at hcon; simp at hcon
  ·obtain ⟨rfl,rfl⟩:=qdM h0 h'; rfl
 ·obtain ⟨row,D,e,hf,hrd,hD,a1,a2,_⟩:=hm
  have e:(ρ 3).d = [row]:=e
  refine ⟨fun _=>⟨by have hn':(ρ 6).i = ((ρ 8).d.length:Int):=hn; omega,by rw [e]; exact Nat.one_pos,fun M' L' h'=>?_⟩,fun hd _=>by rw [e] at hd; cases hd⟩
  obtain ⟨rfl,rfl⟩:=qdM h0 h'
  have hk:qb (ρ 3).d 0 0 = m.k:=by rw [<- a2,e]; rfl
  have hn':(ρ 6).i = ((ρ 8).d.length:Int):=hn
  have hp1:(ρ 8).d.length = L'.length:=hp.1
  rw [hk,hn',hp1]; rfl
theorem qrJ:qci.ok Tryz.prog:=q94 (by simp) fun ρ hg hp=>by
 obtain ⟨M,L,h⟩:=hp
 have h0:qaL (ρ 9).h (ρ 2).r (ρ 3).d (ρ 4).i (ρ 6).i (ρ 8).d M L:=h
 obtain ⟨hn,hp,_,h255,hc⟩:=h
 have hpl:=hp.1
 simp (config:={ maxSteps:=4000000 }) [qvr,qci,q0u,qdC,gaB]
 have hn:(ρ 6).i = ((ρ 8).d.length:Int):=hn
 have hpl:(ρ 8).d.length = L.length:=hpl
 refine ⟨by omega,⟨by omega,rfl⟩,fun a _ D _ i _ i0 i1 ha hD hr=>⟨fun hi=>?_,fun hi M' L' h'=>?_⟩⟩
 ·have hDl:D.d.length = i.i.toNat:=by
   have:=congrArg List.length hD
   rw [qdb] at this
   simpa [qc9] using this
  have hnx:(qe .add .i64 i.i 1).toNat = i.i.toNat + 1:=by rw [qeR i0 (by omega)]; omega
  refine ⟨i0,by omega,ha,by omega,⟨by rw [qeR i0 (by omega)]; omega,by rw [qeR i0 (by omega)]; omega,ha,?_,fun row h=>qrH h hr⟩,by rw [qeR i0 (by omega)]; omega⟩
  rw [hnx,q7o,qms,hD]
  unfold pcI
  rw [Int.toNat_of_nonneg i0]
 ·obtain ⟨rfl,rfl⟩:=qdM h0 h'
  refine ⟨ha,?_,hr⟩
  rw [hD,<- qAA h0,show i.i.toNat = (ρ 8).d.length by omega]
theorem quP:qcG.ok Tryz.prog:=q6I (by simp [qoL]) fun ρ hg hp=>by
 obtain ⟨M,L,h⟩:=hp
 have h0:qaL (ρ 9).h (ρ 2).r (ρ 3).d (ρ 4).i (ρ 6).i (ρ 8).d M L:=h
 simp (config:={ maxSteps:=4000000 }) [qso,qcG,qb1,gaB]
 exact ⟨⟨M,L,h0⟩,fun u _ hu=>⟨fun hf M' L' h'=>by rw [<- hu M' L' h',hf],fun ht M' L' h'=>by rw [<- hu M' L' h',ht]⟩⟩
section
variable {h h':Hp} {r:Option Addr} {d P:qd} {c n e i:Int} {M:Option ManV} {L:PcL} {o b:List Int} {m:ManV}
theorem q6m (h1:qpm h P L) (hl:Hp.le h h'):qpm h' P L:=by
 refine ⟨h1.1,fun j hj=>?_,fun j hj=>?_⟩
 ·obtain ⟨i,v,d,e1,e2,e3⟩:=h1.2.1 j hj
  exact ⟨i,v,d,e1,qfE e2 hl,e3⟩
 ·rw [<- h1.2.2 j hj]
  obtain ⟨i,v,d,e1,e2,e3⟩:=h1.2.1 j hj
  have hv:qF P j 1 = v:=by simp only [qF,Int.toNat_natCast,e1,Option.getD_some]; rfl
  unfold pcD
  rw [hv,qfM e2,qfM (qfE e2 hl)]
theorem q6f (h1:qfS h d m) (hl:Hp.le h h'):qfS h' d m:=by
 obtain ⟨row,D,e,hf,hr,hx⟩:=h1
 exact ⟨row,D,e,hf,qfE hr hl,hx⟩
theorem qdo (h1:qaL h r d c n P M L) (hl:Hp.le h h'):qaL h' r d c n P M L:=by
 obtain ⟨a1,a2,a3,a4,a5⟩:=h1
 refine ⟨a1,q6m a2 hl,a3,a4,?_⟩
 rcases a5 with a5 | ⟨m,b1,b3,b4,b5⟩
 ·exact .inl a5
 ·exact .inr ⟨m,b1,b3,q6f b4 hl,b5⟩
theorem q9G (h1:qaL h r d c n P M L) (hl:Hp.le h h') (hne:¬ e = 0):qaL h' r d c n P (if e = 0 then some m else M) (if e = 0 then L ++ [(i,b)] else L):=by
 rw [if_neg hne,if_neg hne]; exact qdo h1 hl
section
variable {k n' t s l u:Int} {O R S z:List Int} {D J:qd} {x y:Bool}
theorem qki (hl:l = (D.length:Int)):ManV.ok ⟨k,n',t,s,O,dgs D⟩ = qz k n' t s l:=by
 unfold ManV.ok
 rw [hl]; simp [dgs]
theorem qBt (hl:l = (D.length:Int)) (hid:(qz k n' t s l = false/\e = 2/\R = z)∨(qz k n' t s l = true/\e = 0/\R = S)) (hne:¬ e = 0):e = qfy o M L ⟨k,n',t,s,O,dgs D⟩ i b:=by
 rcases hid with ⟨h1,h2,_⟩ | ⟨_,h2,_⟩
 ·unfold qfy; rw [qki hl,if_pos h1,h2]
 ·exact absurd h2 hne
theorem qpC (hid:(qz k n' t s l = false/\e = 2/\R = z)∨(qz k n' t s l = true/\e = 0/\R = S)) (he:e = 0):qz k n' t s l = true/\R = S:=by
 rcases hid with ⟨_,h2,_⟩ | ⟨h1,_,h3⟩
 ·omega
 ·exact ⟨h1,h3⟩
theorem q9I (hl:l = (D.length:Int)) (hid:(qz k n' t s l = false/\e = 2/\R = z)∨(qz k n' t s l = true/\e = 0/\R = sha (qaP k n' t s O ++ (dgs D).flatten))) (he:e = 0) (hR:¬ R = o):20 = qfy o M L ⟨k,n',t,s,O,dgs D⟩ i b:=by
 obtain ⟨h1,h2⟩:=qpC hid he
 unfold qfy
 rw [qki hl,if_neg (by rw [h1]; simp),if_pos (by show sha (qaP k n' t s O ++ (dgs D).flatten) ≠ o; rw [<- h2]; exact hR)]
theorem qBj (hl:l = (D.length:Int)) (hid:(qz k n' t s l = false/\e = 2/\R = z)∨(qz k n' t s l = true/\e = 0/\R = sha (qaP k n' t s O ++ (dgs D).flatten))) (he:e = 0) (hR:R = o) (hc:u = qcg k n' t s l (dgs D) i b) (hne:¬ u = 0):u = qfy o M L ⟨k,n',t,s,O,dgs D⟩ i b:=by
 obtain ⟨h1,h2⟩:=qpC hid he
 have hl':(((dgs D).length:Nat):Int) = l:=by rw [hl]; simp [dgs]
 unfold qfy
 simp only [hl']
 rw [qki hl,if_neg (by rw [h1]; simp),if_neg (fun h=>h (by rw [<- hR,h2]; rfl)),if_pos (by rw [<- hc]; exact hne),hc]
theorem qvB (hl:l = (D.length:Int)) (hid:(qz k n' t s l = false/\e = 2/\R = z)∨(qz k n' t s l = true/\e = 0/\R = sha (qaP k n' t s O ++ (dgs D).flatten))) (he:e = 0) (hR:R = o) (hc:u = qcg k n' t s l (dgs D) i b) (hu:u = 0):qfy o M L ⟨k,n',t,s,O,dgs D⟩ i b = if i ∈ L.map Prod.fst then 7 else if qbf M L then 8 else 0:=by
 obtain ⟨h1,h2⟩:=qpC hid he
 have hl':(((dgs D).length:Nat):Int) = l:=by rw [hl]; simp [dgs]
 unfold qfy
 simp only [hl']
 rw [qki hl,if_neg (by rw [h1]; simp),if_neg (fun h=>h (by rw [<- hR,h2]; rfl)),if_neg (by rw [<- hc,hu]; simp)]
theorem qpa (hq:∀ (M:Option ManV) (L:PcL),qaL h r d c n P M L->u = (J.length:Int)/\qx J = L.map Prod.fst/\∀ row,row ∈ J->row.length = 1) (h1:qaL h r d c n P M L):u = (J.length:Int)/\u <= 1000/\qx J = L.map Prod.fst/\∀ row,row ∈ J->row.length = 1:=by
 obtain ⟨a,b,e⟩:=hq M L h1
 refine ⟨a,?_,b,e⟩
 have h2:=congrArg List.length b
 rw [qdb,List.length_map] at h2
 have:=h1.2.2.2.1
 omega
theorem qBm (hl:l = (D.length:Int)) (hid:(qz k n' t s l = false/\e = 2/\R = z)∨(qz k n' t s l = true/\e = 0/\R = sha (qaP k n' t s O ++ (dgs D).flatten))) (he:e = 0) (hR:R = o) (hc:u = qcg k n' t s l (dgs D) i b) (hu:u = 0) {u':Int}
  (hq:∀ (M:Option ManV) (L:PcL),qaL h r d c n P M L->u' = (J.length:Int)/\qx J = L.map Prod.fst/\∀ row,row ∈ J->row.length = 1) (h1:qaL h r d c n P M L) (hx:x = decide (i ∈ qx J)) (ht:x = true):7 = qfy o M L ⟨k,n',t,s,O,dgs D⟩ i b:=by
 rw [qvB hl hid he hR hc hu,if_pos]
 rw [<- (hq M L h1).2.1]; exact qBu hx ht
theorem qAY (hl:l = (D.length:Int)) (hid:(qz k n' t s l = false/\e = 2/\R = z)∨(qz k n' t s l = true/\e = 0/\R = sha (qaP k n' t s O ++ (dgs D).flatten))) (he:e = 0) (hR:R = o) (hc:u = qcg k n' t s l (dgs D) i b) (hu:u = 0) {u':Int}
  (hq:∀ (M:Option ManV) (L:PcL),qaL h r d c n P M L->u' = (J.length:Int)/\qx J = L.map Prod.fst/\∀ row,row ∈ J->row.length = 1) (h1:qaL h r d c n P M L) (hx:x = decide (i ∈ qx J)) (ht:x = false) (hr:∀ (M:Option ManV) (L:PcL),qaL h r d c n P M L->y = qbf M L):qfy o M L ⟨k,n',t,s,O,dgs D⟩ i b = if y then 8 else 0:=by
 rw [qvB hl hid he hR hc hu,if_neg,<- hr M L h1]
 rw [<- (hq M L h1).2.1]; exact q0w hx ht
theorem q8y {v:Value} (hv:v.oneCell' = true) (hRd:Rd h k32 v D) (hD:qcC D) (hO:qL (qg J 32)) (hok:qz k n' t s l = true) (hl:l = (D.length:Int)) :
  qfS h [[Value.int .i64 k,Value.int .i64 n',Value.int .i64 t,Value.int .i64 s] ++ ((qg J 32).map (Value.int .u8) ++ [v])] ⟨k,n',t,s,qg J 32,dgs D⟩:=by
 refine ⟨_,D,rfl,⟨by simp [qrQ,qg],fun c kk w hk hw=>?_⟩,hRd,hD,rfl,rfl,rfl,rfl,rfl,rfl,hO,by rw [qki hl]; exact hok⟩
 unfold qrQ at hk
 rcases Nat.lt_or_ge c 4 with h4 | h4
 ·rw [List.getElem?_append_left (by simpa using h4),List.getElem?_replicate,if_pos h4] at hk
  rw [List.getElem?_append_left (by simpa using h4)] at hw
  obtain rfl:=(Option.some.inj hk).symm
  match c,h4 with
  | 0,_=>obtain rfl:=(Option.some.inj hw).symm; rfl
  | 1,_=>obtain rfl:=(Option.some.inj hw).symm; rfl
  | 2,_=>obtain rfl:=(Option.some.inj hw).symm; rfl
  | 3,_=>obtain rfl:=(Option.some.inj hw).symm; rfl
 ·rw [List.getElem?_append_right (by simpa using h4)] at hk
  rw [List.getElem?_append_right (by simpa using h4)] at hw
  simp only [List.length_replicate,List.length_cons,List.length_nil] at hk hw
  rcases Nat.lt_or_ge (c - 4) 32 with h5 | h5
  ·rw [List.getElem?_append_left (by simpa using h5),List.getElem?_replicate,if_pos h5] at hk
   rw [List.getElem?_append_left (by simp [qg]; omega),List.getElem?_map] at hw
   obtain rfl:=(Option.some.inj hk).symm
   obtain ⟨q,_,rfl⟩:=Option.map_eq_some_iff.1 hw
   rfl
  ·rw [List.getElem?_append_right (by simpa using h5)] at hk
   rw [List.getElem?_append_right (by simp [qg]; omega)] at hw
   simp only [List.length_replicate,List.length_map] at hk hw
   rw [show (qg J 32).length = 32 by simp [qg]] at hw
   match hc:c - 4 - 32,hk with
   | 0,hk =>
    rw [hc] at hw
    obtain rfl:=(Option.some.inj hk).symm
    obtain rfl:=(Option.some.inj hw).symm
    unfold CK.fits; exact hv
   | q + 1,hk=>simp at hk
theorem q9Z {v:Value} {B d':qd} {r':Option Addr} {m:ManV} (h1:qaL h r d c n P M L) (hl:Hp.le h h') (hRd:Rd h' kB v B) (hB:qn B) (hb9:(B.length:Int) <= 9000) (hm:qfS h' d' m) (hy:qbf M L = false):qaL h' r' d' 1 (n + 1) (P ++ [[.int .i64 i,v]]) (some m) (L ++ [(i,bI B)]):=by
 have h2:=qdo h1 hl
 obtain ⟨a1,a2,a3,a4,a5⟩:=h2
 have hlen:L.length < 255:=by
  rcases a5 with ⟨_,_,_,_,rfl⟩ | ⟨m0,rfl,_,hm0,_⟩
  ·decide
  ·obtain ⟨_,_,_,_,_,_,_,_,_,_,_,_,_,hok⟩:=hm0
   unfold qbf at hy
   have hk:=of_decide_eq_false hy
   have hk2:m0.k <= 255:=by
    unfold ManV.ok qz qbe at hok
    simp at hok
    omega
   omega
 have hPl:=a2.1
 refine ⟨by rw [List.length_append,List.length_singleton]; omega,⟨by rw [List.length_append,List.length_append,hPl]; rfl,fun j hj=>?_,fun j hj=>?_⟩,fun x hx=>?_,by rw [List.length_append,List.length_singleton]; omega,.inr ⟨m,rfl,rfl,hm,by simp⟩⟩
 ·rw [List.length_append,List.length_singleton] at hj
  rcases Nat.lt_or_ge j P.length with hjP | hjP
  ·obtain ⟨i0,v0,d0,e1,e2⟩:=a2.2.1 j hjP
   exact ⟨i0,v0,d0,by rw [List.getElem?_append_left hjP]; exact e1,e2⟩
  ·have:j = P.length:=by omega
   subst this
   exact ⟨i,v,B,by rw [List.getElem?_append_right (Nat.le_refl _),Nat.sub_self]; rfl,hRd,hB⟩
 ·rw [List.length_append,List.length_singleton] at hj
  rcases Nat.lt_or_ge j P.length with hjP | hjP
  ·have h3:=a2.2.2 j hjP
   have e1:pcI (P ++ [[.int .i64 i,v]]) j = pcI P j:=by unfold pcI qb qF; rw [Int.toNat_natCast,List.getElem?_append_left hjP]
   have e2:pcD h' (P ++ [[.int .i64 i,v]]) j = pcD h' P j:=by unfold pcD qF; rw [Int.toNat_natCast,List.getElem?_append_left hjP]
   rw [e1,e2,h3,List.getD_eq_getElem?_getD,List.getD_eq_getElem?_getD,List.getElem?_append_left (by omega)]
  ·have:j = P.length:=by omega
   subst this
   have e1:pcI (P ++ [[.int .i64 i,v]]) P.length = i:=by unfold pcI qb qF; rw [Int.toNat_natCast,List.getElem?_append_right (Nat.le_refl _),Nat.sub_self]; rfl
   have e2:pcD h' (P ++ [[.int .i64 i,v]]) P.length = bI B:=by
    unfold pcD qF
    rw [Int.toNat_natCast,List.getElem?_append_right (Nat.le_refl _),Nat.sub_self]
    exact qfM hRd
   rw [e1,e2,hPl,List.getD_eq_getElem?_getD,List.getElem?_append_right (Nat.le_refl _),Nat.sub_self]; rfl
 ·rcases List.mem_append.1 hx with hx | hx
  ·exact a3 x hx
  ·rw [List.mem_singleton.1 hx,bI_len]; exact hb9
end
end
theorem q82 {h h':Hp} {r r':Option Addr} {d P:qd} {c n e i:Int} {M:Option ManV} {L:PcL} {k n' t s l:Int} {R S z:List Int} {D D' B B' J:qd} {y:Bool} {a a':Option Addr} {x x' q q':Nat} (h1:qaL h r d c n P M L) (hl:Hp.le h h')
  (hid:(qz k n' t s l = false/\e = 2/\R = z)∨(qz k n' t s l = true/\e = 0/\R = S)) (he:e = 0) (hy:∀ (M:Option ManV) (L:PcL),qaL h r d c n P M L->y = qbf M L) (hyf:y = false) (hRb:Rd h' kB (.slice a B'.length q) B') (eB:B' = B) (hRd:Rd h' k32 (.slice a' D'.length q') D') (eD:D' = D)
  (hx:x = B.length) (hx':x' = D.length) (hB:qn B) (hb9:(B.length:Int) <= 9000) (hD:qcC D) (hO:qL (qg J 32)) (hml:l = (D.length:Int)) :
  qaL h' r' [[Value.int .i64 k,Value.int .i64 n',Value.int .i64 t,Value.int .i64 s] ++ ((qg J 32).map (Value.int .u8) ++ [.slice a' x' q'])] 1 (n + 1) (P ++ [[.int .i64 i,.slice a x q]]) (some ⟨k,n',t,s,qg J 32,dgs D⟩) (L ++ [(i,bI B)]):=by
 subst eB eD hx hx'
 exact q9Z h1 hl hRb hB hb9 (q8y rfl hRd hD hO (qpC hid he).1 hml) (by rw [<- hy M L h1]; exact hyf)
theorem qzv {ρ:Env} {l:List SH} {H:Hp} (r ty d c:Nat) (pat:List CK) (hs:qW ρ l H) (hm:SH.arr r ty pat (.var d) (.var c) ∈ l):Rd H pat (.slice (qm (ρ r).r 0) (ρ d).d.length (ρ c).i.toNat) (ρ d).d:=by
 obtain ⟨hx,hl,hd⟩:=qii hs hm
 exact qv4 hd hl rfl rfl
set_option maxHeartbeats 4000000 in
theorem quy:qcu.ok Tryz.prog:=q5K (by simp [qzI,qlV,qrJ,qod,qoL,qsY,qtp]) fun ρ hg hp=>by
 obtain ⟨⟨⟨M,L,h⟩,hO,hMan,hi64,hpa,h9⟩,hGr,hGd⟩:=hp
 have h0:qaL (ρ 9).h (ρ 2).r (ρ 3).d (ρ 4).i (ρ 6).i (ρ 8).d M L:=h
 obtain ⟨q0,q1,q2,q3,hOm,hml,hml2,hD⟩:=hMan
 obtain ⟨p0,p1,p2,p3⟩:=hpa
 simp only [Nat.reduceAdd] at q0 q1 q2 q3 hOm hml hml2 hD p0 p1 p2 p3
 obtain ⟨hn0,hp0,_,h255,_⟩:=id h0
 have hpl0:=hp0.1
 simp (config:={ maxSteps:=4000000 }) [qrC,qcu,idC,qlZ,qul,qbb,qkg,qqM,qci,qaZ,qb1,qca,qcc,gaB,qeU,qcw,qdC,qfz,qeO,qkx,qr9,qvh,qdT,qaG,gOk,hGr,hGd]
 repeat' (first | with_reducible apply And.intro | with_reducible intro _)
 all_goals first
  | assumption
  | omega
  | exact ⟨M,L,h0⟩
  | exact qBt (by assumption) (by assumption) (by assumption)
  | exact q9I (by assumption) (by assumption) (by assumption) (by assumption)
  | exact qBm (by assumption) (by assumption) (by assumption) (by assumption) (by assumption) (by assumption) (by assumption) (by assumption) (by assumption) (by assumption)
  | (rw [qAY (by assumption) (by assumption) (by assumption) (by assumption) (by assumption) (by assumption) (by assumption) (by assumption) (by assumption) (by assumption) (by assumption)]; simp [*]; done)
  | exact (qpa (by assumption) h0).1
  | exact Int.le_trans (qpa (by assumption) h0).2.1 (by decide)
  | exact (qpa (by assumption) h0).2.2.2 _ (by assumption)
  | exact qBj (by assumption) (by assumption) (by assumption) (by assumption) (by assumption) (by assumption)
  | exact q9G (by assumption) (by have h:=qb2 9 20 (by assumption) (by simp); simpa using h) (by assumption)
  | exact qdo (by assumption) (by have h:=qb2 9 20 (by assumption) (by simp); simpa using h)
  | skip
 rename_i hst M1 L1 h1
 have hle:=qb2 9 20 hst (by simp)
 have hRb:=qzv 43 5 45 44 kB hst (by simp [kB])
 have hRd:=qzv 40 24 42 41 k32 hst (by simp [k32])
 simp at hRb hRd hle
 exact q82 (J:=(ρ 14).d) h1 hle (by assumption) (by assumption) (by assumption) (by assumption) hRb (by assumption) hRd (by assumption) (by omega) (by omega) p3 (by omega) hD hOm hml
end Go.Proofs
