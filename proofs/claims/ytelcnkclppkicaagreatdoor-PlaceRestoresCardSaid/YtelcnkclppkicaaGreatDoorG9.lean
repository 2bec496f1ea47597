/- Texts PX, PW, QB, QC, QE, QD, QG, QH, QJ, QK, QL, RQ, RJ, RG, RM, RL, RU, RR, RP, RF, TA, TC, TI, TJ, TK, TL, TM, TO, TP, TQ. -/
import Derived.Test.YtelcnkclppkicaaGreatDoorProg
import Derived.Shelf.SlSortCmp.NoneTotal
import Derived.Ground.SlsfProg
import Derived.Test.YtelcnkclppkicaaGreatDoorG1
import Derived.Test.YtelcnkclppkicaaGreatDoorG8
import Derived.Test.YtelcnkclppkicaaGreatDoorG3
import Derived.Test.YtelcnkclppkicaaGreatDoorG6
import Derived.Test.YtelcnkclppkicaaGreatDoorG7
import Derived.Test.YtelcnkclppkicaaGreatDoorG5
import Derived.Shelf.Sort.Plain
import Derived.Shelf.Slices.In.SortNone
import Derived.Ground.Names2Prog
set_option linter.unusedSimpArgs false
set_option linter.unusedVariables false
namespace Go.Proofs
open Go Go.Shelf Go.RowKit Go.Lib Go.Sort
def qxA:Go.Shelf.Ren:=⟨fun | 6=>83 | 15=>120 | 14=>119 | 28=>148 | 29=>149 | 20=>140 | 21=>141 | 22=>142 | 23=>143 | 24=>144 | 25=>145 | 26=>146 | 27=>147 | 46=>172 | 47=>173 | 48=>174 | 49=>175 | 50=>176 | 57=>186 | n=>n,fun | 22=>156 | 24=>153 | 25=>155 | 3=>3 | 39=>187 | 0=>0 | 53=>131 | 55=>113 | 4=>4 | 46=>234 | 45=>233 | 50=>238 | 5=>5 | 9=>9 | 66=>258 | 70=>262 | 76=>271 | 77=>272 | n=>n,fun | n=>n⟩
theorem qyj:SlLaysF0.n6 Tryz.prog qxA:={
 mixed:=by kernel_rfl
 f6:=⟨Tryz.f83.name,by decide,Tryz.func83.trans (congrArg some (by kernel_rfl))⟩
 f14:=⟨Tryz.f119.name,by decide,Tryz.func119.trans (congrArg some (by kernel_rfl))⟩
 f15:=Tryz.func120.trans (congrArg some (by kernel_rfl))
 f20:=⟨Tryz.f140.name,by decide,Tryz.func140.trans (congrArg some (by kernel_rfl))⟩
 f21:=⟨Tryz.f141.name,by decide,Tryz.func141.trans (congrArg some (by kernel_rfl))⟩
 f22:=⟨Tryz.f142.name,by decide,Tryz.func142.trans (congrArg some (by kernel_rfl))⟩
 f23:=⟨Tryz.f143.name,by decide,Tryz.func143.trans (congrArg some (by kernel_rfl))⟩
 f24:=⟨Tryz.f144.name,by decide,Tryz.func144.trans (congrArg some (by kernel_rfl))⟩
 f25:=⟨Tryz.f145.name,by decide,Tryz.func145.trans (congrArg some (by kernel_rfl))⟩
 f26:=⟨Tryz.f146.name,by decide,Tryz.func146.trans (congrArg some (by kernel_rfl))⟩
 f27:=⟨Tryz.f147.name,by decide,Tryz.func147.trans (congrArg some (by kernel_rfl))⟩
 f28:=Tryz.func148.trans (congrArg some (by kernel_rfl))
 f29:=Tryz.func149.trans (congrArg some (by kernel_rfl))
 f46:=⟨Tryz.f172.name,by decide,Tryz.func172.trans (congrArg some (by kernel_rfl))⟩
 f47:=Tryz.func173.trans (congrArg some (by kernel_rfl))
 f48:=Tryz.func174.trans (congrArg some (by kernel_rfl))
 f49:=⟨Tryz.f175.name,by decide,Tryz.func175.trans (congrArg some (by kernel_rfl))⟩
 f50:=⟨Tryz.f176.name,by decide,Tryz.func176.trans (congrArg some (by kernel_rfl))⟩
 f57:=⟨Tryz.f186.name,by decide,Tryz.func186.trans (congrArg some (by kernel_rfl))⟩
 t0:=Tryz.underlying0
 a0:=Tryz.isAgg0
 z0:=Tryz.sizeOf0
 v0:=Tryz.zeroValue0
 t3:=Tryz.underlying3
 a3:=Tryz.isAgg3
 z3:=Tryz.sizeOf3
 v3:=Tryz.zeroValue3
 t4:=Tryz.underlying4
 a4:=Tryz.isAgg4
 z4:=Tryz.sizeOf4
 v4:=Tryz.zeroValue4
 t5:=Tryz.underlying5
 a5:=Tryz.isAgg5
 z5:=Tryz.sizeOf5
 v5:=Tryz.zeroValue5
 t9:=Tryz.underlying9
 a9:=Tryz.isAgg9
 z9:=Tryz.sizeOf9
 v9:=Tryz.zeroValue9
 t22:=Tryz.underlying156
 a22:=Tryz.isAgg156
 z22:=Tryz.sizeOf156
 v22:=Tryz.zeroValue156
 t25:=Tryz.underlying155
 a25:=Tryz.isAgg155
 z25:=Tryz.sizeOf155
 v25:=Tryz.zeroValue155
 t39:=Tryz.underlying187
 a39:=Tryz.isAgg187
 z39:=Tryz.sizeOf187
 v39:=Tryz.zeroValue187
 t45:=Tryz.underlying233
 a45:=Tryz.isAgg233
 z45:=Tryz.sizeOf233
 v45:=Tryz.zeroValue233
 t46:=Tryz.underlying234
 a46:=Tryz.isAgg234
 z46:=Tryz.sizeOf234
 v46:=Tryz.zeroValue234
 t50:=Tryz.underlying238
 a50:=Tryz.isAgg238
 z50:=Tryz.sizeOf238
 v50:=Tryz.zeroValue238
 t53:=Tryz.underlying131
 a53:=Tryz.isAgg131
 z53:=Tryz.sizeOf131
 v53:=Tryz.zeroValue131
 t55:=Tryz.underlying113
 a55:=Tryz.isAgg113
 z55:=Tryz.sizeOf113
 v55:=Tryz.zeroValue113
 t66:=Tryz.underlying258
 a66:=Tryz.isAgg258
 z66:=Tryz.sizeOf258
 v66:=Tryz.zeroValue258
 t70:=Tryz.underlying262
 a70:=Tryz.isAgg262
 z70:=Tryz.sizeOf262
 v70:=Tryz.zeroValue262
 t76:=Tryz.underlying271
 a76:=Tryz.isAgg271
 z76:=Tryz.sizeOf271
 v76:=Tryz.zeroValue271
 t77:=Tryz.underlying272
 a77:=Tryz.isAgg272
 z77:=Tryz.sizeOf272
 v77:=Tryz.zeroValue272 }
end Go.Proofs
namespace Go.Proofs
open Go Go.Eng Go.Shelf Go.RowKit Go.Lib Go.Sort
def qeH (o:List Int) (p:Fin 16):List Value:=qC o (p.val:Int)
def cfK (o:List Int) (a b:Fin 16):Int:=qdf o (a.val:Int) (b.val:Int)
theorem ltK {o:List Int} {a b:Fin 16}:ltOf (cfK o) a b = qR o (a.val:Int) (b.val:Int):=by unfold ltOf cfK; rw [qeQ]
theorem qBd (o:List Int):SWO (ltOf (cfK o)) where
 irrefl x:=by rw [ltK]; exact qzJ
 trans x y z h1 h2:=by rw [ltK] at *; exact q3a h1 h2
 ntrans x y z h1 h2:=by
  rw [ltK] at *
  have e1:(!qR o (x.val:Int) (y.val:Int)) = true:=by rw [h1]; rfl
  have e2:(!qR o (y.val:Int) (z.val:Int)) = true:=by rw [h2]; rfl
  rw [qjM] at e1 e2
  have e3:(!qR o (x.val:Int) (z.val:Int)) = true:=by
   rw [qjM]
   by_cases c1:qdf o (y.val:Int) (x.val:Int) = 0
   ·rw [<- qeV.1 c1]; exact e2
   ·by_cases c2:qdf o (z.val:Int) (y.val:Int) = 0
    ·rw [qeV.1 c2]; exact e1
    ·have:=qkV (o:=o) (a:=(z.val:Int)) (b:=(y.val:Int)) (c:=(x.val:Int)) (by omega) (by omega)
     omega
  simpa using e3
theorem qBi (o:List Int) (x y:Fin 16) (h1:ltOf (cfK o) x y = false) (h2:ltOf (cfK o) y x = false):x = y:=by
 rw [ltK] at h1 h2
 by_cases h:x = y
 ·exact h
 ·have hv:(x.val:Int) ≠ (y.val:Int):=fun e=>h (Fin.ext (by omega))
  rcases qrB (o:=o) hv with e | e
  ·rw [e] at h1; cases h1
  ·rw [e] at h2; cases h2
theorem qAi {o:List Int} {p:Int}:qv kRk (qC o p):=by
 refine ⟨by rw [qiJ]; rfl,fun c k v hk hv=>?_⟩
 cases c with
 | zero =>
  simp only [kRk,qC,jax,jaa] at hk hv
  subst hk hv; rfl
 | succ c =>
  simp only [kRk,qC,ja6] at hk hv
  rw [jbg] at hk
  split at hk
  ·simp only [jaa] at hk
   rw [jan] at hv
   obtain ⟨z,_,rfl⟩:=jai.1 hv
   subst hk; rfl
  ·cases hk
theorem qyW {o:List Int} {p:Int}:∀ v ∈ qC o p,v.oneCell' = true:=fun v hv=>by
 rcases jbo.1 hv with rfl | hv
 ·rfl
 ·obtain ⟨z,_,rfl⟩:=jbl.1 hv; rfl
def toFin (x:Int):Fin 16:=⟨x.toNat % 16,by omega⟩
theorem qsv {x:Int} (h:0 <= x/\x < 16):((toFin x).val:Int) = x:=by simp only [toFin]; omega
theorem qyy {M:List Int} {d:Array (Fin 16)} (h:d.toList.map (fun p=>(p.val:Int)) = M) {i:Nat} (hi:i < d.size):M[i]? = some ((d[i]!).val:Int):=by
 rw [<- h,jan,jac (by simpa using hi),jaw]
 rw [jfs d i hi]; rfl
theorem qtV {o:List Int} {M:List Int} {d:Array (Fin 16)} (h:d.toList.map (fun p=>(p.val:Int)) = M) {i k:Nat} {row:List Value} {v:Value} (hr:(M.map (qC o))[i]? = some row) (hv:row[k]? = some v) :
  i < d.size/\k < 33/\(flatK (qeH o) 33 d)[i * 33 + k]! = v:=by
 rw [jan] at hr
 obtain ⟨x,hx,rfl⟩:=jai.1 hr
 have hi:i < d.size:=by
  have:=(jam.1 hx).1
  rw [<- h] at this; simpa using this
 have hk:k < 33:=by
  have:=(jam.1 hv).1
  rwa [qiJ] at this
 rw [qyy h hi,jaa] at hx
 refine ⟨hi,hk,?_⟩
 have hlt:i * 33 + k < d.size * 33:=by omega
 rw [get_flatK _ _ _ _ hlt,show (i * 33 + k) / 33 = i by omega,show (i * 33 + k) % 33 = k by omega]
 unfold qeH
 rw [hx,List.getElem!_eq_getElem?_getD,hv]; rfl
theorem qxF {o:List Int} {L:List Int} {d:Array (Fin 16)} (h:d.toList.map (fun p=>(p.val:Int)) = L) {w:World} {b:Nat} {c:Array Value} {ty:TypeId} (hb:w.heap[b]? = some (.cells c ty (0,0))) (hr:qP c 0 kRk (L.map (qC o))):HoldsK (qeH o) 33 w b 0 d:=by
 intro j hj
 rw [size_flatK] at hj
 have hi:j / 33 < d.size:=by omega
 have hrow:(L.map (qC o))[j / 33]? = some (qC o ((d[j / 33]!).val:Int)):=by rw [jan,qyy h hi]; rfl
 have hkl:j % 33 < (qC o ((d[j / 33]!).val:Int)).length:=by rw [qiJ]; omega
 have hv:=(hr _ _ hrow).2 (j % 33) _ (jac hkl)
 have hf:=(qtV h hrow (jac hkl)).2.2
 rw [show j / 33 * 33 + j % 33 = j by omega] at hf
 have hlen:kRk.length = 33:=rfl
 rw [hlen,show 0 + j / 33 * 33 + j % 33 = j by omega] at hv
 refine ⟨?_,by simp [World.frozen?,hb]⟩
 show w.cell? ⟨b,0 + j,none⟩ = some (id (flatK (qeH o) 33 d)[j]!)
 simp only [World.cell?,hb,jbr,id]
 rw [hf,hv]; rfl
theorem q12 {o:List Int} {w:World} {b n:Nat} {d:Array (Fin 16)} {os:Array Obj} {c:Array Value} {ty:TypeId} (hb:w.heap[b]? = some (.cells c ty (0,0))) :
  (sortWorldK (qeH o) 33 w b 0 n d os).heap[b]? = some (.cells (putCells id 0 (flatK (qeH o) 33 d) c) ty (0,0)):=by
 have hlt:b < w.heap.size:=(jcl.1 hb).1
 unfold sortWorldK grow putRowK putRow mapBlock
 have e:(Go.Sort.ahead w n).heap = w.heap:=rfl
 simp only [e]
 rw [jcv (by simpa using hlt),jcb,jah rfl,hb]; rfl
theorem qxP {o:List Int} {w:World} {b x n:Nat} {d:Array (Fin 16)} {os:Array Obj} {X:Obj} (hx:w.heap[x]? = some X) (hne:x ≠ b):(sortWorldK (qeH o) 33 w b 0 n d os).heap[x]? = some X:=by
 have hlt:x < w.heap.size:=(jcl.1 hx).1
 unfold sortWorldK grow putRowK putRow mapBlock
 have e:(Go.Sort.ahead w n).heap = w.heap:=rfl
 simp only [e]
 rw [jcv (by simpa using hlt),jcb,jaf (Ne.symm hne),hx]
theorem q0a {o:List Int} {M:List Int} {d:Array (Fin 16)} (h:d.toList.map (fun p=>(p.val:Int)) = M) {c:Array Value} (hc:d.size * 33 <= c.size):qP (putCells id 0 (flatK (qeH o) 33 d) c) 0 kRk (M.map (qC o)):=by
 intro i row hi
 have hfit:qv kRk row:=by
  rw [jan] at hi
  obtain ⟨x,_,rfl⟩:=jai.1 hi
  exact qAi
 refine ⟨hfit,fun k v hv=>?_⟩
 obtain ⟨h1,h2,h3⟩:=qtV h hi hv
 have hlen:kRk.length = 33:=rfl
 rw [hlen,jbr]
 have hlt:i * 33 + k < d.size * 33:=by omega
 unfold putCells
 rw [Array.getElem?_mapIdx,jcn (by omega),jaw,jah ⟨by omega,by rw [size_flatK]; omega⟩,jeb,h3]; rfl
theorem qAV (o:List Int) (ho:qU o) (x y:Fin 16) (W:World):Calls Tryz.prog 81 #[.agg (qeH o x).toArray,.agg (qeH o y).toArray] W fun e w'=>e = .returned (.int .i64 (cfK o x y))/\∃ q os',w' = grow (W.drewN q) os':=by
 refine (q3L (x.val:Int) (y.val:Int) (qO o x.val) (qO o y.val) qkG qkG W).mono fun e w' h=>?_
 obtain ⟨rfl,h⟩:=h
 refine ⟨?_,h⟩
 rw [qlD qnz qnz]
 have hx:=x.isLt
 have hy:=y.isLt
 unfold cfK qdf
 by_cases he:qO o (x.val:Int) = qO o (y.val:Int)
 ·rw [jah (qfa.2 he),jah he]
  have:RowKit.wrap64 ((x.val:Int) - (y.val:Int)) = (x.val:Int) - (y.val:Int):=by unfold RowKit.wrap64; omega
  rw [this]
 ·rw [jaf (fun h=>he (qfa.1 h)),jaf he]
theorem q3W (o:List Int) (ho:qU o) (b cap:Nat) (d:Array (Fin 16)) (w:World) (hH:HoldsK (qeH o) 33 w b 0 d) (hb:b < w.heap.size) (hsz:d.size < 4611686018427387904) :
  Calls Tryz.prog 83 #[.slice (some ⟨b,0,none⟩) d.size cap,.func (.func 81) #[] #[]] w fun e w'=>e = .returned (.tuple #[])/\∃ n os,w' = sortWorldK (qeH o) 33 w b 0 n (d.toList.mergeSort fun x y=>!(ltOf (cfK o)) y x).toArray os :=
 AnyQ.slices_SortFunc_total qyj 33 Tryz.isAgg153 Tryz.sizeOf153 (qeH o) (fun _=>qiJ) (fun _=>qyW) (cfK o) (qBd o) 81 #[] b 0 cap d w (fun args w=>Tryz.call81 args w) (fun m os dk hs x y=>qAV o ho x y _) hH hb hsz (qBi o)
theorem q0Z (p:Option Addr) (cap:Nat) (fv:Value) (w:World):Calls Tryz.prog 83 #[.slice p 0 cap,fv] w fun e w'=>e = .returned (.tuple #[])/\w' = w:=AnyF.slices_SortFunc_none qyj p cap fv w
theorem q15 {o L:List Int} (hL:∀ x ∈ L,0 <= x/\x < 16):(((L.map toFin).mergeSort fun x y=>!(ltOf (cfK o)) y x).map fun p=>(p.val:Int)) = qau o L:=by
 have hv:(L.map toFin).map (fun p=>(p.val:Int)) = L:=by
  rw [jdx]
  conv=>rhs; rw [<- jeh L]
  exact jbz fun x hx=>qsv (hL x hx)
 rw [List.map_mergeSort (s:=fun a b=>!qR o b a) (fun a _ b _=>by rw [ltK]),hv]; rfl
theorem qxK {o o' L:List Int} (h:L.map (qC o) = L.map (qC o')):(qau o L).map (qC o) = (qau o' L).map (qC o'):=by
 have h1:∀ x ∈ L,qC o x = qC o' x:=List.map_inj_left.1 h
 have hsc:∀ x ∈ L,qO o x = qO o' x:=fun x hx=>by
  have h2:=h1 x hx
  simp only [qC,jb9,true_and] at h2
  have h3:=congrArg (List.map qaj) h2
  rw [jdx,jdx] at h3
  have e:(qaj ∘ Value.int IntKind.u8) = id:=rfl
  rwa [e,jeh,jeh] at h3
 have hs:qau o L = qau o' L:=by
  have:=List.map_mergeSort (r:=fun a b=>!qR o b a) (s:=fun a b=>!qR o' b a) (f:=id) (l:=L) (fun a ha b hb=>by simp only [id,qR,hsc a ha,hsc b hb])
  rwa [jeh,jeh] at this
 rw [<- hs]
 exact jbz fun x hx=>h1 x (q3h.1 hx)
theorem q7O:qfB.ok Tryz.prog:=by
 refine ⟨fun args w=>Tryz.call83 args w,fun Z w hF hO hg hd hw hs hro hp=>?_⟩
 obtain ⟨hl,hb1,o,L,ho,hD,hL⟩:=hp
 obtain ⟨h1,h2,hdis,hu,harr,_⟩:=hs
 have huniq:∀ {o' L':List Int},(Z 3).d = L'.map (qC o')->L' = L:=fun {o' L'} h=>by
  have e:=congrArg qy (h.symm.trans hD)
  rwa [qw0,qw0] at e
 have hlen:(Z 1).i = L.length:=by rw [hl,hD,ja7]
 -- the answer, once the rows are qcf
 have key:∀ (w':World) (hO':Hp),Hp.disj hF.h hO'->SH.den (Z.set 4 { d:=(qau o L).map (qC o) }) (qwb 0 4 2) hO'->(Hp.union hF.h hO').sub w'->hF.wi w' ->
   ∃ (ai:Nat) (al:Alt) (Z':Env),qfB.alts[ai]? = some al/\Z'.good/\(∀ n,n < qfB.nv->Z' n = Z n)/\(Ending.returned (.tuple #[]):Ending) = .returned (al.ret.den Z')/\al.post (Z'.upto (qfB.nv + al.k))/\qu Z' hF al.heap w':=by
  intro w' hO' a1 a2 a3 a4
  have hgood:({ d:=(qau o L).map (qC o) }:U).good:=⟨rfl,fun row hr v hv=>by
   obtain ⟨x,_,rfl⟩:=jbl.1 hr
   exact qyW v hv⟩
  refine ⟨0,_,Z.set 4 { d:=(qau o L).map (qC o) },rfl,fun n=>?_,fun n hn=>Env.set_ne _ _ (by have:n < 4:=hn; omega),rfl,?_,hO',a1,⟨hO',Hp.emp,fun _=>.inr rfl,?_,a2,trivial⟩,a3,a4⟩
  ·by_cases hn:n = 4
   ·subst hn; rw [Env.set_same]; exact hgood
   ·rw [Env.set_ne _ _ hn]; exact hg n
  ·intro o' L' ho' hD' hL'
   have hD2:(Z 3).d = L'.map (qC o'):=hD'
   obtain rfl:=huniq hD2
   show (qau o L').map (qC o) = (qau o' L').map (qC o')
   exact qxK (hD.symm.trans hD2)
  ·funext b
   simp only [Hp.union,Hp.emp]
   cases hO' b <;> rfl
 rcases harr with ⟨hr,hd0,hc0⟩ | ⟨b,c,hr,hb,hcs,hcap,hrows⟩
 ·have hL0:L = []:=by
   have e:(Z 3).d = []:=hd0
   rw [hD] at e
   exact List.map_eq_nil_iff.1 e
  subst hL0
  have hargs:(List.map (SV.den Z) qfB.args).toArray = #[.slice none 0 (Z 2).i.toNat,.func (.func 81) #[] #[]]:=by
   have hr':(Z 0).r = none:=hr
   simp [qfB,rkS,SV.den,qc,T.den,O0.den,O3.den,hr',hlen,qm]
  rw [hargs]
  refine (q0Z none _ _ w).mono fun e w' h=>?_
  obtain ⟨rfl,rfl⟩:=h
  refine key _ hO hd (.inl ⟨?_,?_,?_⟩) hw.1 hw.2
  ·rw [Env.set_ne _ _ (by decide)]; exact hr
  ·show ((Z.set 4 _) 4).d = []
   rw [Env.set_same]; simp [qau]
  ·show ((Z.set 4 _) 2).i = 0
   rw [Env.set_ne _ _ (by decide)]; exact hc0
 ·have hbO:hO b = some (.cells c 153 (0,0)):=by rw [hu]; simp [Hp.union,hb]
  have hbw:w.heap[b]? = some (.cells c 153 (0,0)):=hw.1 _ _ (by
   unfold Hp.union
   rcases hd b with h | h
   ·rw [h]; exact hbO
   ·rw [hbO] at h; cases h)
  have hblt:b < w.heap.size:=(jcl.1 hbw).1
  have hrows':qP c 0 kRk (L.map (qC o)):=by
   have h:=hrows
   rw [show (T.den Z (.var 3)).d = (Z 3).d from rfl,hD] at h
   exact h
  have hcs':c.size = (Z 2).i.toNat * 33:=hcs
  have hcap':((Z 3).d.length:Int) <= (Z 2).i:=hcap
  rw [hD,ja7] at hcap'
  let d:Array (Fin 16):=(L.map toFin).toArray
  have hdv:d.toList.map (fun p=>(p.val:Int)) = L:=by
   simp only [d,jcj,jdx]
   conv=>rhs; rw [<- jeh L]
   exact jbz fun x hx=>qsv (hL x hx)
  have hds:d.size = L.length:=by simp [d]
  have hH:=qxF hdv hbw hrows'
  have hargs:(List.map (SV.den Z) qfB.args).toArray = #[.slice (some ⟨b,0,none⟩) d.size (Z 2).i.toNat,.func (.func 81) #[] #[]]:=by
   have hr':(Z 0).r = some ⟨b,0,none⟩:=hr
   simp [qfB,rkS,SV.den,qc,T.den,O0.den,O3.den,hr',hlen,qm,hds]
  rw [hargs]
  refine (q3W o ho b _ d w hH hblt (by omega)).mono fun e w' h=>?_
  obtain ⟨rfl,n,os,rfl⟩:=h
  have hsv:((d.toList.mergeSort fun x y=>!(ltOf (cfK o)) y x).toArray:Array (Fin 16)).toList.map (fun p=>(p.val:Int)) = qau o L:=by
   simp only [d,jcj]
   exact q15 hL
  have hsl:((d.toList.mergeSort fun x y=>!(ltOf (cfK o)) y x).toArray:Array (Fin 16)).size * 33 <= c.size:=by
   rw [hcs',jev,List.length_mergeSort]
   simp only [jfe,hds]
   omega
  refine key _ (Hp.upd hO b (.cells (putCells id 0 (flatK (qeH o) 33 (d.toList.mergeSort fun x y=>!(ltOf (cfK o)) y x).toArray) c) 153 (0,0))) (fun x=>?_) (.inr ⟨b,putCells id 0 (flatK (qeH o) 33 (d.toList.mergeSort fun x y=>!(ltOf (cfK o)) y x).toArray) c,?_,?_,?_,?_,?_⟩) (fun x X hX=>?_) ?_
  ·by_cases hx:x = b
   ·subst hx
    rcases hd x with h | h
    ·exact .inl h
    ·rw [hbO] at h; cases h
   ·unfold Hp.upd; rw [jaf hx]; exact hd x
  ·rw [Env.set_ne _ _ (by decide)]; exact hr
  ·unfold Hp.upd; rw [jah rfl]
  ·show (putCells id 0 _ c).size = ((Z.set 4 _) 2).i.toNat * 33
   rw [Env.set_ne _ _ (by decide),<- hcs']
   simp [putCells]
  ·show ((((Z.set 4 { d:=(qau o L).map (qC o) }) 4).d.length:Nat):Int) <= ((Z.set 4 _) 2).i
   rw [Env.set_same,Env.set_ne _ _ (by decide),ja7,qi4]; exact hcap'
  ·show qP _ 0 kRk ((Z.set 4 { d:=(qau o L).map (qC o) }) 4).d
   rw [Env.set_same]
   exact q0a hsv hsl
  ·by_cases hx:x = b
   ·subst hx
    have hFn:hF.h x = none:=by
     rcases hd x with h | h
     ·exact h
     ·rw [hbO] at h; cases h
    simp only [Hp.union,hFn,Hp.upd,jby,jb2,jaa] at hX
    rw [<- hX]
    exact q12 hbw
   ·have hX':Hp.union hF.h hO x = some X:=by
     simpa [Hp.union,Hp.upd,hx] using hX
    exact qxP (hw.1 _ _ hX') hx
  ·exact hw.2
end Go.Proofs
set_option maxRecDepth 100000
namespace Go.Proofs
open Go Go.Eng
def q7a:Out:=(.br (.cmp .geq (tv 1) (tv 0))
 (.ret 0 (sg 2 [bt 2 (.cmp .lss (.arith .sub .u64 (tv 1) (tv 0)) (tl 12))]))
 (.ret 0 (sg 2 [bt 2 (.bl false)])))
theorem q8U:qn Tryz.prog qt2 [] [] q7a:=qh Tryz.func101 Tryz.call101 (by kernel_rfl)
def qxW:Out:=(.mop .new 0 (.fresh 2 (.ret 0 (sg 0 [bg 2 0,bv 1 1,bg 0 2]))) .top)
theorem q5m:qn Tryz.prog qjz [] [] qxW:=qh Tryz.func61 Tryz.call61 (by kernel_rfl)
def q36:Out:=(.fresh 6 (.pre 0 (sg 0 [bv 0 2]) (.both (.fresh 7 (.post 0 0 (sg 0 [bv 0 2]) 7 (.br (.not (tv 7))
 (.ret 0 (sg 6 [bg 6 5]))
 (.both (.mop (.get (tv 4) [(.c2 (.xint 0) (tv 1) (tl 0)),(.c2 (.xint 1) (tv 1) (tl 0)),(.c2 (.xint 2) (tv 1) (tl 0)),(.c2 (.xint 3) (tv 1) (tl 0)),(.c2 (.xint 4) (tv 1) (tl 0)),(.c2 (.xint 5) (tv 1) (tl 0)),(.c2 (.xint 6) (tv 1) (tl 0)),(.c2 (.xint 7) (tv 1) (tl 0)),(.c2 (.xint 8) (tv 1) (tl 0)),(.c2 (.xint 9) (tv 1) (tl 0)),(.c2 (.xint 10) (tv 1) (tl 0)),(.c2 (.xint 11) (tv 1) (tl 0)),(.c2 (.xint 12) (tv 1) (tl 0)),(.c2 (.xint 13) (tv 1) (tl 0)),(.c2 (.xint 14) (tv 1) (tl 0)),(.c2 (.xint 15) (tv 1) (tl 0)),(.c2 (.xint 16) (tv 1) (tl 0)),(.c2 (.xint 17) (tv 1) (tl 0)),(.c2 (.xint 18) (tv 1) (tl 0)),(.c2 (.xint 19) (tv 1) (tl 0)),(.c2 (.xint 20) (tv 1) (tl 0)),(.c2 (.xint 21) (tv 1) (tl 0)),(.c2 (.xint 22) (tv 1) (tl 0)),(.c2 (.xint 23) (tv 1) (tl 0)),(.c2 (.xint 24) (tv 1) (tl 0)),(.c2 (.xint 25) (tv 1) (tl 0)),(.c2 (.xint 26) (tv 1) (tl 0)),(.c2 (.xint 27) (tv 1) (tl 0)),(.c2 (.xint 28) (tv 1) (tl 0)),(.c2 (.xint 29) (tv 1) (tl 0)),(.c2 (.xint 30) (tv 1) (tl 0)),(.c2 (.xint 31) (tv 1) (tl 0))] ⟨true,[.u8,.u8,.u8,.u8,.u8,.u8,.u8,.u8,.u8,.u8,.u8,.u8,.u8,.u8,.u8,.u8,.u8,.u8,.u8,.u8,.u8,.u8,.u8,.u8,.u8,.u8,.u8,.u8,.u8,.u8,.u8,.u8],false,[CK.any],[.vnilm]⟩ [5]) 8 (.both (.mop (.isnil (.vcell (tv 8) (tl 0) 0)) 9 (.br (tv 9)
 (.both (.mop .new 10 (.both (.pack [.abs 10 1003,.abs 5 1003] 12 (.mop (.put 12 (tv 4) [(.c2 (.xint 0) (tv 1) (tl 0)),(.c2 (.xint 1) (tv 1) (tl 0)),(.c2 (.xint 2) (tv 1) (tl 0)),(.c2 (.xint 3) (tv 1) (tl 0)),(.c2 (.xint 4) (tv 1) (tl 0)),(.c2 (.xint 5) (tv 1) (tl 0)),(.c2 (.xint 6) (tv 1) (tl 0)),(.c2 (.xint 7) (tv 1) (tl 0)),(.c2 (.xint 8) (tv 1) (tl 0)),(.c2 (.xint 9) (tv 1) (tl 0)),(.c2 (.xint 10) (tv 1) (tl 0)),(.c2 (.xint 11) (tv 1) (tl 0)),(.c2 (.xint 12) (tv 1) (tl 0)),(.c2 (.xint 13) (tv 1) (tl 0)),(.c2 (.xint 14) (tv 1) (tl 0)),(.c2 (.xint 15) (tv 1) (tl 0)),(.c2 (.xint 16) (tv 1) (tl 0)),(.c2 (.xint 17) (tv 1) (tl 0)),(.c2 (.xint 18) (tv 1) (tl 0)),(.c2 (.xint 19) (tv 1) (tl 0)),(.c2 (.xint 20) (tv 1) (tl 0)),(.c2 (.xint 21) (tv 1) (tl 0)),(.c2 (.xint 22) (tv 1) (tl 0)),(.c2 (.xint 23) (tv 1) (tl 0)),(.c2 (.xint 24) (tv 1) (tl 0)),(.c2 (.xint 25) (tv 1) (tl 0)),(.c2 (.xint 26) (tv 1) (tl 0)),(.c2 (.xint 27) (tv 1) (tl 0)),(.c2 (.xint 28) (tv 1) (tl 0)),(.c2 (.xint 29) (tv 1) (tl 0)),(.c2 (.xint 30) (tv 1) (tl 0)),(.c2 (.xint 31) (tv 1) (tl 0))] [(tv 11)] ⟨true,[.u8,.u8,.u8,.u8,.u8,.u8,.u8,.u8,.u8,.u8,.u8,.u8,.u8,.u8,.u8,.u8,.u8,.u8,.u8,.u8,.u8,.u8,.u8,.u8,.u8,.u8,.u8,.u8,.u8,.u8,.u8,.u8],false,[CK.any],[.vnilm]⟩) 13 (.both (.mop (.get (tv 4) [(.c2 (.xint 0) (tv 1) (tl 0)),(.c2 (.xint 1) (tv 1) (tl 0)),(.c2 (.xint 2) (tv 1) (tl 0)),(.c2 (.xint 3) (tv 1) (tl 0)),(.c2 (.xint 4) (tv 1) (tl 0)),(.c2 (.xint 5) (tv 1) (tl 0)),(.c2 (.xint 6) (tv 1) (tl 0)),(.c2 (.xint 7) (tv 1) (tl 0)),(.c2 (.xint 8) (tv 1) (tl 0)),(.c2 (.xint 9) (tv 1) (tl 0)),(.c2 (.xint 10) (tv 1) (tl 0)),(.c2 (.xint 11) (tv 1) (tl 0)),(.c2 (.xint 12) (tv 1) (tl 0)),(.c2 (.xint 13) (tv 1) (tl 0)),(.c2 (.xint 14) (tv 1) (tl 0)),(.c2 (.xint 15) (tv 1) (tl 0)),(.c2 (.xint 16) (tv 1) (tl 0)),(.c2 (.xint 17) (tv 1) (tl 0)),(.c2 (.xint 18) (tv 1) (tl 0)),(.c2 (.xint 19) (tv 1) (tl 0)),(.c2 (.xint 20) (tv 1) (tl 0)),(.c2 (.xint 21) (tv 1) (tl 0)),(.c2 (.xint 22) (tv 1) (tl 0)),(.c2 (.xint 23) (tv 1) (tl 0)),(.c2 (.xint 24) (tv 1) (tl 0)),(.c2 (.xint 25) (tv 1) (tl 0)),(.c2 (.xint 26) (tv 1) (tl 0)),(.c2 (.xint 27) (tv 1) (tl 0)),(.c2 (.xint 28) (tv 1) (tl 0)),(.c2 (.xint 29) (tv 1) (tl 0)),(.c2 (.xint 30) (tv 1) (tl 0)),(.c2 (.xint 31) (tv 1) (tl 0))] ⟨true,[.u8,.u8,.u8,.u8,.u8,.u8,.u8,.u8,.u8,.u8,.u8,.u8,.u8,.u8,.u8,.u8,.u8,.u8,.u8,.u8,.u8,.u8,.u8,.u8,.u8,.u8,.u8,.u8,.u8,.u8,.u8,.u8],false,[CK.any],[.vnilm]⟩ [13]) 14 (.both (.mop (.put 13 (.vcell (tv 14) (tl 0) 0) [(tv 2)] [(.vint .u64 (tv 3))] ⟨false,[.i64],false,[CK.int .u64],[(.vint .u64 (tl 0))]⟩) 15 (.ret 0 (sg 6 [bg 6 15])) .top) .top) .top) .top) .top)) .top) .top) .top)
 (.both (.mop (.get (tv 4) [(.c2 (.xint 0) (tv 1) (tl 0)),(.c2 (.xint 1) (tv 1) (tl 0)),(.c2 (.xint 2) (tv 1) (tl 0)),(.c2 (.xint 3) (tv 1) (tl 0)),(.c2 (.xint 4) (tv 1) (tl 0)),(.c2 (.xint 5) (tv 1) (tl 0)),(.c2 (.xint 6) (tv 1) (tl 0)),(.c2 (.xint 7) (tv 1) (tl 0)),(.c2 (.xint 8) (tv 1) (tl 0)),(.c2 (.xint 9) (tv 1) (tl 0)),(.c2 (.xint 10) (tv 1) (tl 0)),(.c2 (.xint 11) (tv 1) (tl 0)),(.c2 (.xint 12) (tv 1) (tl 0)),(.c2 (.xint 13) (tv 1) (tl 0)),(.c2 (.xint 14) (tv 1) (tl 0)),(.c2 (.xint 15) (tv 1) (tl 0)),(.c2 (.xint 16) (tv 1) (tl 0)),(.c2 (.xint 17) (tv 1) (tl 0)),(.c2 (.xint 18) (tv 1) (tl 0)),(.c2 (.xint 19) (tv 1) (tl 0)),(.c2 (.xint 20) (tv 1) (tl 0)),(.c2 (.xint 21) (tv 1) (tl 0)),(.c2 (.xint 22) (tv 1) (tl 0)),(.c2 (.xint 23) (tv 1) (tl 0)),(.c2 (.xint 24) (tv 1) (tl 0)),(.c2 (.xint 25) (tv 1) (tl 0)),(.c2 (.xint 26) (tv 1) (tl 0)),(.c2 (.xint 27) (tv 1) (tl 0)),(.c2 (.xint 28) (tv 1) (tl 0)),(.c2 (.xint 29) (tv 1) (tl 0)),(.c2 (.xint 30) (tv 1) (tl 0)),(.c2 (.xint 31) (tv 1) (tl 0))] ⟨true,[.u8,.u8,.u8,.u8,.u8,.u8,.u8,.u8,.u8,.u8,.u8,.u8,.u8,.u8,.u8,.u8,.u8,.u8,.u8,.u8,.u8,.u8,.u8,.u8,.u8,.u8,.u8,.u8,.u8,.u8,.u8,.u8],false,[CK.any],[.vnilm]⟩ [5]) 10 (.both (.mop (.put 5 (.vcell (tv 10) (tl 0) 0) [(tv 2)] [(.vint .u64 (tv 3))] ⟨false,[.i64],false,[CK.int .u64],[(.vint .u64 (tl 0))]⟩) 11 (.ret 0 (sg 6 [bg 6 11])) .top) .top) .top) .top)) .top) .top) .top) .top)))) .top)))
theorem q7G:qn Tryz.prog qmM [qfz] [] q36:=qh Tryz.func62 Tryz.call62 (by kernel_rfl)
@[simp] def qjc:Out:=.back 0 57 (sg 1000 [bg 1007 65,bv 1004 61,bv 1002 59,bv 1006 63,bt 1005 (.bl false),bg 1003 60,bg 1001 58,bg 1000 57])
def qsf:Out:=(.fresh 18 (.pre 0 (sg 0 [bv 4 15,bv 3 14,bv 2 13,bv 1 12,bg 0 11]) (.both (fr 19 16 (.post 0 0 (sg 0 [bv 4 15,bv 3 14,bv 2 13,bv 1 12,bg 0 11]) 19 (.pre 0 (sg 0 [bv 4 10,bv 3 9,bv 2 8,bv 1 7,bg 0 6]) (.both (fr 35 16 (.post 0 0 (sg 0 [bv 4 10,bv 3 9,bv 2 8,bv 1 7,bg 0 6]) 35 (fr 51 2 (.both (.mop (.get (tv 4) [(.c2 (.xint 0) (tv 1) (tl 0)),(.c2 (.xint 1) (tv 1) (tl 0)),(.c2 (.xint 2) (tv 1) (tl 0)),(.c2 (.xint 3) (tv 1) (tl 0)),(.c2 (.xint 4) (tv 1) (tl 0)),(.c2 (.xint 5) (tv 1) (tl 0)),(.c2 (.xint 6) (tv 1) (tl 0)),(.c2 (.xint 7) (tv 1) (tl 0)),(.c2 (.xint 8) (tv 1) (tl 0)),(.c2 (.xint 9) (tv 1) (tl 0)),(.c2 (.xint 10) (tv 1) (tl 0)),(.c2 (.xint 11) (tv 1) (tl 0)),(.c2 (.xint 12) (tv 1) (tl 0)),(.c2 (.xint 13) (tv 1) (tl 0)),(.c2 (.xint 14) (tv 1) (tl 0)),(.c2 (.xint 15) (tv 1) (tl 0)),(.c2 (.xint 16) (tv 1) (tl 0)),(.c2 (.xint 17) (tv 1) (tl 0)),(.c2 (.xint 18) (tv 1) (tl 0)),(.c2 (.xint 19) (tv 1) (tl 0)),(.c2 (.xint 20) (tv 1) (tl 0)),(.c2 (.xint 21) (tv 1) (tl 0)),(.c2 (.xint 22) (tv 1) (tl 0)),(.c2 (.xint 23) (tv 1) (tl 0)),(.c2 (.xint 24) (tv 1) (tl 0)),(.c2 (.xint 25) (tv 1) (tl 0)),(.c2 (.xint 26) (tv 1) (tl 0)),(.c2 (.xint 27) (tv 1) (tl 0)),(.c2 (.xint 28) (tv 1) (tl 0)),(.c2 (.xint 29) (tv 1) (tl 0)),(.c2 (.xint 30) (tv 1) (tl 0)),(.c2 (.xint 31) (tv 1) (tl 0))] ⟨true,[.u8,.u8,.u8,.u8,.u8,.u8,.u8,.u8,.u8,.u8,.u8,.u8,.u8,.u8,.u8,.u8,.u8,.u8,.u8,.u8,.u8,.u8,.u8,.u8,.u8,.u8,.u8,.u8,.u8,.u8,.u8,.u8],false,[CK.any],[.vnilm]⟩ [5]) 53 (.both (.mop (.range (.vcell (tv 53) (tl 0) 0) ⟨false,[.i64],false,[CK.int .u64],[(.vint .u64 (tl 0))]⟩ [5]) 54 (.pack [.abs 54 1003,.abs 5 1003] 56 (.inv 0 57 (sg 1000 [bg 1007 56,bt 1004 (.rcons (.vbool (tv 35)) (.rcons (.vbool (tv 36)) (.rcons (.vbool (tv 37)) (.rcons (.vbool (tv 38)) (.rcons (.vbool (tv 39)) (.rcons (.vbool (tv 40)) (.rcons (.vbool (tv 41)) (.rcons (.vbool (tv 42)) (.rcons (.vbool (tv 43)) (.rcons (.vbool (tv 44)) (.rcons (.vbool (tv 45)) (.rcons (.vbool (tv 46)) (.rcons (.vbool (tv 47)) (.rcons (.vbool (tv 48)) (.rcons (.vbool (tv 49)) (.rcons (.vbool (tv 50)) .rnil)))))))))))))))),bt 1002 (.rcons (.vbool (tv 19)) (.rcons (.vbool (tv 20)) (.rcons (.vbool (tv 21)) (.rcons (.vbool (tv 22)) (.rcons (.vbool (tv 23)) (.rcons (.vbool (tv 24)) (.rcons (.vbool (tv 25)) (.rcons (.vbool (tv 26)) (.rcons (.vbool (tv 27)) (.rcons (.vbool (tv 28)) (.rcons (.vbool (tv 29)) (.rcons (.vbool (tv 30)) (.rcons (.vbool (tv 31)) (.rcons (.vbool (tv 32)) (.rcons (.vbool (tv 33)) (.rcons (.vbool (tv 34)) .rnil)))))))))))))))),bv 1006 55,bt 1005 (.bl false),bg 1003 52,bg 1001 51,bg 1000 18]) (fr 57 8 (.hyp 0 57 (.mop (.next 64 (tv 63) ⟨false,[.i64],false,[CK.int .u64],[(.vint .u64 (tl 0))]⟩ [64]) 65 (.mop (.entry 65 (tv 63) ⟨false,[.i64],false,[CK.int .u64],[(.vint .u64 (tl 0))]⟩ [65]) 68 (.br (tv 62)
 (.back 0 57 (sg 1000 [bg 1007 65,bv 1004 61,bv 1002 59,bv 1006 63,bt 1005 (.bl true),bg 1003 60,bg 1001 58,bg 1000 57]))
 (.pre 1 (sg 0 [bv 1 3,bt 0 (.c2 (.xint 0) (tv 69) (tl 0))]) (.both (.fresh 70 (.post 1 0 (sg 0 [bv 1 3,bt 0 (.c2 (.xint 0) (tv 69) (tl 0))]) 70 (.br (tv 70)
 (.need (.cmp .leq (tl 0) (.c2 (.xint 0) (tv 68) (tl 0))) (.need (.cmp .lss (.c2 (.xint 0) (tv 68) (tl 0)) (tl 16)) (.need (.cmp .lss (tl 0) (.dlen (tv 61))) (.br (.c2 (.xbool 0) (tv 61) (.c2 (.xint 0) (tv 68) (tl 0)))
 (.need (.cmp .lss (tl 0) (.dlen (tv 59))) (.br (.not (.c2 (.xbool 0) (tv 59) (.c2 (.xint 0) (tv 68) (tl 0))))
 (.pre 2 (sg 0 [bv 4 17,bv 2 2,bt 1 (.c2 (.xint 0) (tv 68) (tl 0)),bt 0 (r8 1),bg 3 16]) (.both (.fresh 71 (.post 2 0 (sg 0 [bv 4 17,bv 2 2,bt 1 (.c2 (.xint 0) (tv 68) (tl 0)),bt 0 (r8 1),bg 3 16]) 71 (.back 0 57 (sg 1000 [bg 1007 65,bv 1004 61,bv 1002 59,bv 1006 63,bv 1005 71,bg 1003 60,bg 1001 58,bg 1000 57])))) .top))
 qjc))
 qjc))))
 qjc))) .top))) .top) (.ret 0 (sg 18 [bg 19 64,bv 18 62]))))))) .top) .top) .top) .top)))) .top)))) .top)))
theorem q0U:qn Tryz.prog qgb [qjk,qt2,qdW] [qv9] qsf:=qh Tryz.func68 Tryz.call68 (by kernel_rfl)
theorem qsE:∀ {ks:List IntKind} {a b:List Int},a.length = ks.length->b.length = ks.length->qW ks a = qW ks b->a = b
 | [],[],[],_,_,_=>rfl
 | k :: ks,x :: a,y :: b,h1,h2,h=>by
  simp only [qW,List.zipWith_cons_cons,jb9,Value.int.injEq,true_and] at h
  rw [h.1,qsE (ks:=ks) (by simpa using h1) (by simpa using h2) h.2]
 | [],_ :: _,_,h,_,_=>by simp at h
 | [],_,_ :: _,_,h,_=>by simp at h
 | _ :: _,[],_,h,_,_=>by simp at h
 | _ :: _,_ :: _,[],_,h,_=>by simp at h
theorem qy0 {g:Bool} {a b:List Value} {n:Nat} (ha:a.length = n) (hb:b.length = n) (hg:g = true∨n = 1) (h:mkV g a = mkV g b):a = b:=by
 cases g with
 | true =>
  simp only [mkV,Value.agg.injEq] at h
  simpa using congrArg Array.toList h
 | false =>
  obtain rfl:=hg.resolve_left (by simp)
  match a,b,ha,hb with
  | [x],[y],_,_ =>
   simp only [mkV,jbp] at h
   rw [h]
theorem qul {mt:MT} (hk:mt.kagg = true∨mt.kks.length = 1) (hv:mt.vagg = true∨mt.vpat.length = 1):∀ {l l':List ME},(∀ x ∈ l,x.k.length = mt.kks.length/\qv mt.vpat x.v)->(∀ x ∈ l',x.k.length = mt.kks.length/\qv mt.vpat x.v)->l.map mt.ent = l'.map mt.ent->l = l'
 | [],[],_,_,_=>rfl
 | [],_ :: _,_,_,h=>by simp at h
 | _ :: _,[],_,_,h=>by simp at h
 | x :: l,y :: l',h1,h2,h=>by
  simp only [ja3,jb9] at h
  obtain ⟨e1,e2⟩:=h
  have hx:=h1 x (jae ..)
  have hy:=h2 y (jae ..)
  simp only [MT.ent,MapEntry.mk.injEq] at e1
  obtain ⟨a1,a2,a3⟩:=e1
  have lk:∀ {k:List Int},k.length = mt.kks.length->(qW mt.kks k).length = mt.kks.length:=fun h=>by simp [qW,h]
  have b1:=qsE hx.1 hy.1 (qy0 (lk hx.1) (lk hy.1) hk a1)
  have b2:=qy0 hx.2.1 hy.2.1 hv a2
  obtain ⟨xk,xv,xb⟩:=x
  obtain ⟨yk,yv,yb⟩:=y
  simp only at b1 b2 a3
  subst b1 b2 a3
  rw [qul hk hv (fun z hz=>h1 z (jad _ hz)) (fun z hz=>h2 z (jad _ hz)) e2]
theorem qrD {h:Hp} {b:Nat} {mt:MT} {l l':List ME} {c c':Nat} (hk:mt.kagg = true∨mt.kks.length = 1) (hv:mt.vagg = true∨mt.vpat.length = 1) (h1:qaF h b mt l c) (h2:qaF h b mt l' c'):l = l'/\c = c':=by
 have e:=h1.1.symm.trans h2.1
 simp only [MT.obj,jaa,Obj.map.injEq] at e
 exact ⟨qul hk hv (fun x hx=>⟨(h1.2.1 x hx).1,(h1.2.1 x hx).2.1⟩) (fun x hx=>⟨(h2.2.1 x hx).1,(h2.2.1 x hx).2.1⟩) (by simpa using congrArg Array.toList e.1),e.2⟩
theorem qAL {h:Hp} {b:Nat} {l l':List ME} {c c':Nat} (h1:qaF h b mtO l c) (h2:qaF h b mtO l' c'):l = l'/\c = c':=qrD (.inl rfl) (.inr rfl) h1 h2
theorem q6D {h:Hp} {b:Nat} {l l':List ME} {c c':Nat} (h1:qaF h b mtI l c) (h2:qaF h b mtI l' c'):l = l'/\c = c':=qrD (.inr rfl) (.inr rfl) h1 h2
theorem qh1 {h:Hp} {v:Value} {cl cl':Cl} (h1:qX h v cl) (h2:qX h v cl'):cl' = cl:=by
 obtain ⟨b,l,c,rfl,hm,hi,_,hn,_⟩:=h1
 obtain ⟨b2,l2,c2,e,hm2,hi2,_,hn2,_⟩:=h2
 simp only [Value.map.injEq,jaa] at e
 subst e
 obtain ⟨rfl,rfl⟩:=qAL hm hm2
 funext o i
 by_cases ho:∃ x ∈ l,x.k = o
 ·obtain ⟨x,hx,rfl⟩:=ho
  obtain ⟨b',m,c',e1,_,e2,e3⟩:=hi x hx
  obtain ⟨b2',m2,c2',e1',_,e2',e3'⟩:=hi2 x hx
  rw [e1] at e1'
  simp only [jb9,Value.map.injEq,jaa,and_true] at e1'
  subst e1'
  obtain ⟨rfl,_⟩:=q6D e2 e2'
  rw [e3,e3']
 ·have:∀ x ∈ l,x.k ≠ o:=fun x hx he=>ho ⟨x,hx,he⟩
  rw [hn o i this,hn2 o i this]
theorem qgC {h h':Hp} {b:Nat} {mt:MT} {l:List ME} {c:Nat} (hm:qaF h b mt l c) (hl:Hp.le h h'):qaF h' b mt l c:=⟨hl _ _ hm.1,hm.2⟩
theorem qye {h h':Hp} {v:Value} {cl:Cl} (hc:qX h v cl) (hl:Hp.le h h'):qX h' v cl:=by
 obtain ⟨b,l,c,e,hm,hi,hr⟩:=hc
 exact ⟨b,l,c,e,qgC hm hl,fun x hx=>by
  obtain ⟨b',m,c',e1,e2,e3,e4⟩:=hi x hx
  exact ⟨b',m,c',e1,e2,qgC e3 hl,e4⟩,hr⟩
theorem qud {l:List ME} {k:List Int}:qaA l k = true↔∃ x ∈ l,x.k = k:=by
 unfold qaA
 rw [jdy]
 exact ⟨fun ⟨x,h1,h2⟩=>⟨x,h1,by simpa using h2⟩,fun ⟨x,h1,h2⟩=>⟨x,h1,by simpa using h2⟩⟩
theorem qkS {l:List ME} {k:List Int} (h:qaA l k = false):∀ x ∈ l,x.k ≠ k:=fun x hx he=>by
 rw [qud.2 ⟨x,hx,he⟩] at h; cases h
theorem qvz {m:List ME} {i i' t:Int} {c:Nat}:qdy (qaQ m [i] [.int .u64 t] c).1 i' = if i' = i then some t else qdy m i':=by
 unfold qaQ
 by_cases h:qaA m [i] = true
 ·rw [jah h]
  unfold qdy
  simp only
  rw [List.find?_map]
  have hp:((fun x:ME=>x.k == [i']) ∘ fun x:ME=>if x.k = [i] then { x with v:=[.int .u64 t] } else x) = fun x:ME=>x.k == [i']:=by
   funext x
   simp only [Function.comp]
   split <;> rfl
  rw [hp,Option.map_map]
  by_cases hi:i' = i
  ·subst hi
   rw [jah rfl]
   obtain ⟨x,hx,hk⟩:=qud.1 h
   cases hf:m.find? fun x=>x.k == [i'] with
   | none =>
    rw [jd5] at hf
    exact absurd (by simpa using hk) (hf x hx)
   | some y =>
    have hy:=List.find?_some hf
    simp only [beq_iff_eq] at hy
    simp [hy,qaj]
  ·rw [jaf hi]
   cases hf:m.find? fun x=>x.k == [i'] with
   | none=>rfl
   | some y =>
    have hy:=List.find?_some hf
    simp only [beq_iff_eq] at hy
    have:y.k ≠ [i]:=by rw [hy]; simp [hi]
    simp [this]
 ·rw [jaf h]
  have hn:=qkS (by simpa using h)
  unfold qdy
  simp only
  rw [List.find?_append]
  by_cases hi:i' = i
  ·subst hi
   rw [jah rfl]
   have:m.find? (fun x=>x.k == [i']) = none:=by
    rw [jd5]
    intro x hx hk
    exact hn x hx (by simpa using hk)
   rw [this]; simp [qaj]
  ·rw [jaf hi]
   have:([⟨[i],[.int .u64 t],c⟩]:List ME).find? (fun x=>x.k == [i']) = none:=by
    simp [Ne.symm hi]
   rw [this,jfz]
theorem qi6 {i t:Int}:([i]:List Int).length = mtI.kks.length/\qv mtI.vpat [.int .u64 t]:=⟨rfl,rfl,fun c k v hk hv=>by
 cases c with
 | zero=>simp only [mtI,jax,jaa] at hk hv; subst hk hv; rfl
 | succ c=>simp [mtI] at hk⟩
theorem qtT {h:Hp} {b x:Nat} {X:Obj} (hne:x ≠ b):Hp.upd h b X x = h x:=by unfold Hp.upd; rw [jaf hne]
theorem qhM {h:Hp} {b:Nat} {X:Obj}:Hp.upd h b X b = some X:=by unfold Hp.upd; rw [jah rfl]
theorem qdb {h:Hp} {b x:Nat} {X:Obj} {mt:MT} {l:List ME} {c:Nat} (hne:x ≠ b) (hm:qaF h x mt l c):qaF (Hp.upd h b X) x mt l c:=⟨by rw [qtT hne]; exact hm.1,hm.2⟩
theorem q6c {h:Hp} {b b' c c':Nat} {l m:List ME} {x:ME} {cl:Cl} {i t:Int} (hm:qaF h b mtO l c) (hi:∀ x ∈ l,∃ b' m c',x.v = [.map (some b')]/\b' ≠ b/\qaF h b' mtI m c'/\∀ i,cl x.k i = qdy m i) (hd:∀ x ∈ l,∀ y ∈ l,x.k ≠ y.k->x.v ≠ y.v) (hn:∀ o i,(∀ x ∈ l,x.k ≠ o)->cl o i = none)
  (hr:∀ o i t,cl o i = some t->0 <= i/\i < 16/\0 <= t/\t < 18446744073709551616) (hx:x ∈ l) (hb:x.v = [.map (some b')]) (hI:qaF h b' mtI m c') (i0:0 <= i) (i1:i < 16) (t0:0 <= t) (t1:t < 18446744073709551616) :
  qX (Hp.upd h b' (mtI.obj (qaQ m [i] [.int .u64 t] c'))) (.map (some b)) (qed cl x.k i t):=by
 obtain ⟨b2,m2,c2,e1,e2,e3,e4⟩:=hi x hx
 rw [hb] at e1
 simp only [jb9,Value.map.injEq,jaa,and_true] at e1
 subst e1
 obtain ⟨rfl,rfl⟩:=q6D hI e3
 have hF:∀ o' i',qed cl x.k i t o' i' = if o' = x.k/\i' = i then some t else cl o' i':=fun o' i'=>by unfold qed; rw [jah ⟨i0,i1⟩]
 refine ⟨b,l,c,rfl,qdb (Ne.symm e2) hm,fun y hy=>?_,hd,fun o' i' ho=>?_,fun o' i' t' ht=>?_⟩
 ·by_cases hk:y.k = x.k
  ·have hvv:y.v = [.map (some b')]:=by
    obtain ⟨jx,hjx⟩:=jbd hx
    obtain ⟨jy,hjy⟩:=jbd hy
    have hj:=qiq hm.2 hjy hjx hk
    rw [hj,hjx] at hjy
    rw [<- jaz hjy]; exact hb
   refine ⟨b',(qaQ m [i] [.int .u64 t] c').1,(qaQ m [i] [.int .u64 t] c').2,hvv,e2,⟨qhM,qjG hI.2 (qi6 (i:=i) (t:=t)).1 (qi6 (i:=i) (t:=t)).2⟩,fun i'=>?_⟩
   rw [hF,qvz,hk,e4]
   by_cases hii:i' = i
   ·simp [hii]
   ·simp [hii]
  ·obtain ⟨b3,m3,c3,f1,f2,f3,f4⟩:=hi y hy
   have hne:b3 ≠ b':=fun he=>hd y hy x hx hk (by rw [f1,hb,he])
   refine ⟨b3,m3,c3,f1,f2,qdb hne f3,fun i'=>?_⟩
   rw [hF,jaf (fun h=>hk h.1),f4]
 ·rw [hF,jaf (fun h=>ho x hx h.1.symm),hn o' i' ho]
 ·rw [hF] at ht
  split at ht
  ·rename_i he
   obtain rfl:=jaz ht
   exact ⟨by omega,by omega,t0,t1⟩
  ·exact hr _ _ _ ht
theorem q5W {h:Hp} {b b' c:Nat} {l:List ME} {cl:Cl} {o:List Int} {i t:Int} (hm:qaF h b mtO l c) (hi:∀ x ∈ l,∃ b' m c',x.v = [.map (some b')]/\b' ≠ b/\qaF h b' mtI m c'/\∀ i,cl x.k i = qdy m i) (hd:∀ x ∈ l,∀ y ∈ l,x.k ≠ y.k->x.v ≠ y.v) (hn:∀ o i,(∀ x ∈ l,x.k ≠ o)->cl o i = none)
  (hr:∀ o i t,cl o i = some t->0 <= i/\i < 16/\0 <= t/\t < 18446744073709551616) (ho:qaA l o = false) (hol:o.length = 32) (hbb:b' ≠ b) (hfree:∀ x ∈ l,x.v ≠ [.map (some b')]) (i0:0 <= i) (i1:i < 16) (t0:0 <= t) (t1:t < 18446744073709551616) :
  qX (Hp.upd (Hp.upd h b (mtO.obj (qaQ l o [.map (some b')] c))) b' (mtI.obj (qaQ [] [i] [.int .u64 t] 0))) (.map (some b)) (qed cl o i t):=by
 have hF:∀ o' i',qed cl o i t o' i' = if o' = o/\i' = i then some t else cl o' i':=fun o' i'=>by unfold qed; rw [jah ⟨i0,i1⟩]
 have hput:qaQ l o [.map (some b')] c = (l ++ [⟨o,[.map (some b')],c⟩],c + 1):=by unfold qaQ; rw [jaf (by rw [ho]; simp)]
 have hfit:qv mtO.vpat [.map (some b')]:=⟨rfl,fun c k v hk hv=>by
  cases c with
  | zero=>simp only [mtO,jax,jaa] at hk hv; subst hk hv; rfl
  | succ c=>simp [mtO] at hk⟩
 have hno:=qkS ho
 refine ⟨b,(qaQ l o [.map (some b')] c).1,(qaQ l o [.map (some b')] c).2,rfl,⟨by rw [qtT (Ne.symm hbb)]; exact qhM,qjG hm.2 (by rw [hol]; rfl) hfit⟩,fun y hy=>?_,fun x hx y hy hk=>?_,fun o' i' ho'=>?_,fun o' i' t' ht=>?_⟩
 ·rw [hput] at hy
  rcases jat.1 hy with hy | hy
  ·obtain ⟨b3,m3,c3,f1,f2,f3,f4⟩:=hi y hy
   have hne:b3 ≠ b':=fun he=>hfree y hy (by rw [f1,he])
   refine ⟨b3,m3,c3,f1,f2,qdb hne (qdb f2 f3),fun i'=>?_⟩
   rw [hF,jaf (fun h=>hno y hy h.1),f4]
  ·rw [jaj] at hy
   subst hy
   refine ⟨b',(qaQ [] [i] [.int .u64 t] 0).1,(qaQ [] [i] [.int .u64 t] 0).2,rfl,hbb,⟨qhM,qjG (c:=0) (l:=[]) ⟨fun x hx=>(by cases hx),List.Pairwise.nil⟩ (qi6 (i:=i) (t:=t)).1 (qi6 (i:=i) (t:=t)).2⟩,fun i'=>?_⟩
   rw [hF,qvz,hn o i' hno]
   by_cases hii:i' = i
   ·simp [hii]
   ·simp [hii,qdy]
 ·rw [hput] at hx hy
  rcases jat.1 hx with hx | hx <;> rcases jat.1 hy with hy | hy
  ·exact hd x hx y hy hk
  ·rw [jaj] at hy; subst hy; exact hfree x hx
  ·rw [jaj] at hx; subst hx; exact (hfree y hy).symm
  ·rw [jaj] at hx hy; subst hx hy; exact absurd rfl hk
 ·rw [hput] at ho'
  rw [hF,jaf (fun h=>ho' _ (jcq _ (jaj.2 rfl)) h.1.symm),hn o' i' fun x hx=>ho' x (jb3 _ hx)]
 ·rw [hF] at ht
  split at ht
  ·obtain rfl:=jaz ht
   rename_i he
   exact ⟨by omega,by omega,t0,t1⟩
  ·exact hr _ _ _ ht
theorem qy1 {m:List ME} {c:Nat} (hM:MWf mtI m c) {e:ME} (he:e ∈ m):∃ z,e.k = [z]:=qjP (hM.1 e he).1
theorem q2n {m:List ME} {i t:Int} (h:qdy m i = some t):∃ e ∈ m,e.k = [i]/\qaj (e.v.headD .nilFunc) = t:=by
 unfold qdy at h
 obtain ⟨e,he,rfl⟩:=jai.1 h
 exact ⟨e,jeo he,by simpa using List.find?_some he,rfl⟩
theorem qtF {m:List ME} {c:Nat} (hM:MWf mtI m c) {e:ME} (he:e ∈ m) {z:Int} (hk:e.k = [z]):qdy m z = some (qaj (e.v.headD .nilFunc)):=by
 unfold qdy
 cases hf:m.find? fun x=>x.k == [z] with
 | none =>
  rw [jd5] at hf
  exact absurd (by simpa using hk) (hf e he)
 | some y =>
  have hy:y.k = [z]:=by simpa using List.find?_some hf
  obtain ⟨j,hj⟩:=jbd he
  obtain ⟨j',hj'⟩:=jbd (jeo hf)
  have hjj:=qiq hM hj hj' (hk.trans hy.symm)
  rw [hjj,hj'] at hj
  rw [jaz hj]; rfl
theorem qty {m:List ME} {c:Nat} {cl:Cl} {o:List Int} {s t:Int} {L Hs:List Int} (hM:MWf mtI m c) (he:∀ i,cl o i = qdy m i) (hr:∀ o i t,cl o i = some t->0 <= i/\i < 16/\0 <= t/\t < 18446744073709551616):m.any (qjm o s t L Hs) = qdK cl o s t L Hs:=by
 apply Bool.eq_iff_iff.2
 unfold qdK
 rw [jdy,jdy]
 constructor
 ·rintro ⟨e,hem,hb⟩
  obtain ⟨z,hz⟩:=qy1 hM hem
  have hg:=qtF hM hem hz
  have hc:=(he z).trans hg
  obtain ⟨z0,z1,_⟩:=hr _ _ _ hc
  refine ⟨z.toNat,jb8.2 (by omega),?_⟩
  rw [jay z0,hc]
  unfold qjm at hb
  rw [hz] at hb
  exact hb
 ·rintro ⟨i,hi,hb⟩
  cases hc:cl o i with
  | none=>rw [hc] at hb; cases hb
  | some tt =>
   rw [hc] at hb
   obtain ⟨e,hem,hk,hv⟩:=q2n ((he i).symm.trans hc)
   refine ⟨e,hem,?_⟩
   unfold qjm
   rw [hk,hv]
   exact hb
theorem qxD {h:Hp} {v:Value} {cl:Cl} {bi:Nat} {mo:Option Nat} {since st:Nat} {seen:Array Nat} {X:Obj} (hc:qX h v cl) (hb:h bi = some (.mapIter mo since seen st)):qX (Hp.upd h bi X) v cl:=by
 have hne:∀ {b:Nat} {mt:MT} {l:List ME} {c:Nat},qaF h b mt l c->b ≠ bi:=fun hm he=>by
  rw [he] at hm
  have:=hm.1.symm.trans hb
  simp [MT.obj] at this
 obtain ⟨b,l,c,e,hm,hi,hr⟩:=hc
 exact ⟨b,l,c,e,qdb (hne hm) hm,fun x hx=>by
  obtain ⟨b',m,c',e1,e2,e3,e4⟩:=hi x hx
  exact ⟨b',m,c',e1,e2,qdb (hne e3) e3,e4⟩,hr⟩
theorem q4H {m:List ME} {c:Nat} (hM:MWf mtI m c) {e:ME} (he:e ∈ m) {seen:List Nat} {p:ME->Bool}:((m.filter fun y=>(seen ++ [e.born]).contains y.born).any p) = ((m.filter fun y=>seen.contains y.born).any p || p e):=by
 apply Bool.eq_iff_iff.2
 rw [jcx,jdy,jdy]
 constructor
 ·rintro ⟨y,hy,hp⟩
  rw [jc5] at hy
  obtain ⟨hy1,hy2⟩:=hy
  simp only [List.contains_eq_mem,jat,jaj,ja9] at hy2
  rcases hy2 with h | h
  ·exact .inl ⟨y,jc5.2 ⟨hy1,by simpa using h⟩,hp⟩
  ·right
   have:y = e:=by
    obtain ⟨i,hi⟩:=jbd hy1
    obtain ⟨j,hj⟩:=jbd he
    have hij:i = j:=born_get hM hi hj h
    rw [hij,hj] at hi
    exact (jaz hi).symm
   rw [<- this]; exact hp
 ·rintro (⟨y,hy,hp⟩ | hp)
  ·rw [jc5] at hy
   exact ⟨y,jc5.2 ⟨hy.1,by have:=hy.2; simp only [List.contains_eq_mem,ja9] at this; simp [this]⟩,hp⟩
  ·exact ⟨e,jc5.2 ⟨he,by simp⟩,hp⟩
where
 born_get {m:List ME} {c:Nat} (hM:MWf mtI m c) {i j:Nat} {x y:ME} (hi:m[i]? = some x) (hj:m[j]? = some y) (h:x.born = y.born):i = j:=by
  have hp:=jdu.1 hM.2
  obtain ⟨h1,e1⟩:=jam.1 hi
  obtain ⟨h2,e2⟩:=jam.1 hj
  rcases jdt i j with hlt | heq | hlt
  ·have:=(hp i j h1 h2 hlt).1; rw [e1,e2] at this; omega
  ·exact heq
  ·have:=(hp j i h2 h1 hlt).1; rw [e1,e2] at this; omega
theorem qnI {h:Hp} {it:Value} {bi b since st c:Nat} {seen:List Nat} {m:List ME} (hit:it = .pointer (some ⟨bi,0,none⟩)) (hb:h bi = some (.mapIter (some b) since seen.toArray st)) (hM:qaF h b mtI m c):qip h it = (m.filter fun y=>!(seen.contains y.born)).length:=by
 subst hit
 unfold qip
 simp only [hb,hM.1,MT.obj,jcj,List.contains_toArray]
 rw [List.filter_map,ja7]
 rfl
theorem q3F {m:List ME} {e:ME} (he:e ∈ m) {seen:List Nat} (hn:¬ e.born ∈ seen):(m.filter fun y=>!((seen ++ [e.born]).contains y.born)).length < (m.filter fun y=>!(seen.contains y.born)).length:=by
 have h1:(m.filter fun y=>!((seen ++ [e.born]).contains y.born)) = ((m.filter fun y=>!(seen.contains y.born)).filter fun y=>!((seen ++ [e.born]).contains y.born)):=by
  rw [List.filter_filter]
  refine List.filter_congr fun y hy=>?_
  by_cases hs:y.born ∈ seen <;> simp [hs]
 rw [h1]
 refine List.length_filter_lt_length_iff_exists.2 ⟨e,jc5.2 ⟨he,by simp [hn]⟩,by simp⟩
section
variable {h0 H:Hp} {v it:Value} {o:List Int} {s t:Int} {L Hs:List Int} {cl:Cl}
theorem qsS {bi:Nat} (hc:qX h0 v cl) (hno:∀ i,cl o i = none) (hle:Hp.le h0 H) (hit:it = .pointer (some ⟨bi,0,none⟩)) (hb:H bi = some (.mapIter none 0 #[] 0)):qqL h0 H v it o s t L Hs false:=fun cl' h'=>by
 rw [qh1 hc h']
 exact ⟨qye hc hle,[],[],⟨bi,none,0,0,hit,hb,.inl ⟨rfl,rfl⟩⟩,fun i=>by rw [hno]; rfl,rfl⟩
theorem qsZ {bi b c:Nat} {m:List ME} (hc:qX h0 v cl) (hm:qaF h0 b mtI m c) (he:∀ i,cl o i = qdy m i) (hle:Hp.le h0 H) (hit:it = .pointer (some ⟨bi,0,none⟩)) (hb:H bi = some (.mapIter (some b) c #[] c)):qqL h0 H v it o s t L Hs false:=fun cl' h'=>by
 rw [qh1 hc h']
 have hmH:=qgC hm hle
 have hne:bi ≠ b:=fun e=>by
  rw [e] at hb
  have:=hmH.1.symm.trans hb
  simp [MT.obj] at this
 refine ⟨qye hc hle,m,[],⟨bi,some b,c,c,hit,hb,.inr ⟨b,c,rfl,hne,hmH,ja4 _,.inl rfl,fun n hn=>by cases hn⟩⟩,he,?_⟩
 have:(m.filter fun e=>([]:List Nat).contains e.born) = []:=by simp
 rw [this]; rfl
theorem q8x {bi b since st c:Nat} {m:List ME} {seen:List Nat} {e:ME} {x y:Bool} (hc:qX h0 v cl) (hcH:qX H v cl) (hit:it = .pointer (some ⟨bi,0,none⟩)) (hb:H bi = some (.mapIter (some b) since seen.toArray st)) (hne:bi ≠ b) (hm:qaF H b mtI m c) (hcs:c <= since) (hseen:∀ n ∈ seen,∃ e ∈ m,e.born = n)
  (he:∀ i,cl o i = qdy m i) (hem:e ∈ m) (hx:x = (m.filter fun e=>seen.contains e.born).any (qjm o s t L Hs)) (hy:y = (x || qjm o s t L Hs e)):qqL h0 (Hp.upd H bi (.mapIter (some b) since (seen ++ [e.born]).toArray c)) v it o s t L Hs y:=fun cl' h'=>by
 rw [qh1 hc h']
 refine ⟨qxD hcH hb,m,seen ++ [e.born],⟨bi,some b,since,c,hit,qhM,.inr ⟨b,c,rfl,hne,qdb (Ne.symm hne) hm,hcs,.inr (.inr ⟨e,hem,(hm.2.1 e hem).2.2⟩),fun n hn=>?_⟩⟩,he,?_⟩
 ·rcases jat.1 hn with h | h
  ·exact hseen n h
  ·rw [jaj] at h; exact ⟨e,hem,h.symm⟩
 ·rw [q4H hm.2 hem,<- hx,hy]
theorem q2R {since c:Nat} {m:List ME} {seen:List Nat} {x:Bool} (hM:MWf mtI m c) (hc:qX h0 v cl) (hcH:qX H v cl) (hcs:c <= since) (he:∀ i,cl o i = qdy m i) (hx:x = (m.filter fun e=>seen.contains e.born).any (qjm o s t L Hs)) (hall:∀ e ∈ m,e.born < since->e.born ∈ seen) :
  ∀ cl',qX h0 v cl'->qX H v cl'/\x = qdK cl' o s t L Hs:=fun cl' h'=>by
 rw [qh1 hc h']
 refine ⟨hcH,?_⟩
 have hf:(m.filter fun e=>seen.contains e.born) = m:=jel.2 fun e hem=>by
  have:=hall e hem (by have:=(hM.1 e hem).2.2; omega)
  simpa using this
 obtain ⟨b,l,c0,rfl,_,_,_,_,hr⟩:=hc
 rw [hf] at hx
 rw [hx]; exact qty hM he hr
end
set_option maxRecDepth 20000
theorem q6y:qjz.ok Tryz.prog:=q5m (by simp) fun Z hg hp=>by
 simp (config:={ maxSteps:=4000000 }) [qxW,qjz]
 intro u _ v _ b hv hu
 exact ⟨b,[],0,hv,⟨by rw [hu]; simp [Hp.one,MT.obj],fun x hx=>(by cases hx),List.Pairwise.nil⟩,fun x hx=>(by cases hx),fun x hx=>(by cases hx),fun _ _ _=>rfl,fun _ _ _ h=>(by cases h)⟩
theorem q91:qt2.ok Tryz.prog:=q8U (by simp) fun Z hg hp=>by
 obtain ⟨h0,h1,h2,h3⟩:=hp
 simp (config:={ maxSteps:=4000000 }) [q7a,qt2]
 have hu:(Z 0).i <= (Z 1).i->qe .sub .u64 (Z 1).i (Z 0).i = (Z 1).i - (Z 0).i:=fun h=>by
  show IntKind.wrap .u64 _ = _
  rw [q7Q]; omega
 refine ⟨fun h=>?_,fun h=>?_⟩
 ·rw [hu h]; unfold qkx; rw [jcf h,je0]; rfl
 ·unfold qkx; rw [jem (by omega),Bool.false_and]
theorem quW (d:qd):[qa d 0,qa d 1,qa d 2,qa d 3,qa d 4,qa d 5,qa d 6,qa d 7,qa d 8,qa d 9,qa d 10,qa d 11,qa d 12,qa d 13,qa d 14,qa d 15,qa d 16,qa d 17,qa d 18,qa d 19,qa d 20,qa d 21,qa d 22,qa d 23,qa d 24,qa d 25,qa d 26,qa d 27,qa d 28,qa d 29,qa d 30,qa d 31] = qf d 32:=rfl
theorem qw1:(⟨true,[.u8,.u8,.u8,.u8,.u8,.u8,.u8,.u8,.u8,.u8,.u8,.u8,.u8,.u8,.u8,.u8,.u8,.u8,.u8,.u8,.u8,.u8,.u8,.u8,.u8,.u8,.u8,.u8,.u8,.u8,.u8,.u8],false,[.any],[.vnilm]⟩:MT) = mtO:=rfl
theorem qur:(⟨false,[.i64],false,[.int .u64],[.vint .u64 (.lit 0)]⟩:MT) = mtI:=rfl
theorem q6T (Z:Env):List.map (fun t=>(T.den Z t).v) mtO.zero = [.map none]:=rfl
theorem q6O (Z:Env):List.map (fun t=>(T.den Z t).v) mtI.zero = [.int .u64 0]:=rfl
theorem qs8 (row:List Value):qF [row] 0 0 = row.headD .nilFunc:=by cases row <;> rfl
theorem qua {l:List ME} {k:List Int} {z:List Value} (h:qaA l k = true):∃ x ∈ l,x.k = k/\qcy l k z = x.v:=by
 obtain ⟨j,x,hj,hk,_,hg⟩:=qel (mt:=mtO) (i:=0) h
 exact ⟨x,jbi hj,hk,hg z⟩
theorem q6o {cl:Cl} {o:List Int} {i t:Int} (h:qpK i = false):qed cl o i t = cl:=by
 unfold qed
 rw [jaf (jd6 h)]
theorem q4T {l:List ME} {k:List Int} {v z:List Value} {c:Nat} (h:qaA l k = false):qcy (qaQ l k v c).1 k z = v:=by
 have hn:=qkS h
 unfold qaQ
 rw [jaf (by rw [h]; simp)]
 unfold qcy
 simp only
 rw [List.find?_append]
 have:l.find? (fun x=>x.k == k) = none:=by
  rw [jd5]
  intro x hx hk
  exact hn x hx (by simpa using hk)
 rw [this]; simp
theorem qbZ {Z:Env} {l:List SH} {H:Hp} (n t:Nat) (hs:qV Z l H) (hm:SH.abs n t ∈ l):Hp.le (Z n).h H:=by
 obtain ⟨hb,lb,db⟩:=qbp hs hm
 exact Hp.le_trans db lb
theorem q00 {Z:Env} {n m t t':Nat} {H:Hp} (hs:qV Z [SH.abs n t,SH.abs m t'] H):Hp.disj (Z n).h (Z m).h:=by
 obtain ⟨h1,h2,hd,hu,hx,h3,h4,hd2,hu2,hy,_⟩:=hs
 intro b
 cases hb1:(Z n).h b with
 | none=>exact .inl rfl
 | some X =>
  cases hb2:(Z m).h b with
  | none=>exact .inr rfl
  | some Y =>
   have e1:=hx.1 b X hb1
   have e2:=hy.1 b Y hb2
   have e3:h2 b = some Y:=by rw [hu2]; simp [Hp.union,e2]
   rcases hd b with h | h
   ·rw [e1] at h; cases h
   ·rw [e3] at h; cases h
theorem q73 {b:Nat}:qv mtO.vpat [.map (some b)]:=⟨rfl,fun c k v hk hv=>by
 cases c with
 | zero=>simp only [mtO,jax,jaa] at hk hv; subst hk hv; rfl
 | succ c=>simp [mtO] at hk⟩
theorem q8n:qmM.ok Tryz.prog:=q7G (by simp [qrp]) fun Z hg hp=>by
 obtain ⟨⟨cl,hcl⟩,h0,h1⟩:=hp
 have hcl0:=hcl
 simp (config:={ maxSteps:=4000000 }) [q36,qmM,qfz,quW,qw1,qur,qs8,qc,q6T,q6O]
 obtain ⟨b,l,c,hv,hm,hi,hd,hn,hr⟩:=hcl
 intro u _ p _ hp
 refine ⟨fun hpf cl' h'=>by rw [q6o (hp ▸ hpf)]; exact h',fun hpt=>⟨l,.inr ⟨b,hv,c,hm⟩,?_⟩⟩
 have hpp:0 <= (Z 2).i/\(Z 2).i < 16:=jbq (hp ▸ hpt:qpK (Z 2).i = true)
 cases hh:qaA l (qf (Z 1).d 32) with
 | false =>
  refine .inl ⟨by rw [qiI hh]; rfl,fun m _ v _ b' hvv hmh H _ hst=>?_⟩
  obtain ⟨hA,lA,dA⟩:=qbp hst (n:=10) (t:=1003) (by simp)
  obtain ⟨hB,lB,dB⟩:=qbp hst (n:=5) (t:=1003) (by simp)
  have hle:Hp.le (Z 5).h H.h:=by
   have h:=qbZ 5 1003 hst (by simp)
   simpa using h
  have hone:H.h b' = some (.map #[] 0):=by
   have h:=qbZ 10 1003 hst (by simp)
   have h:Hp.le m.h H.h:=by simpa using h
   exact h b' _ (by rw [hmh]; simp [Hp.one])
  have hnew:∀ X,(Z 5).h b' = some X->False:=by
   intro X hX
   have h:=q00 hst
   have h:Hp.disj m.h (Z 5).h:=by simpa using h
   rcases h b' with h | h
   ·rw [hmh] at h; simp [Hp.one] at h
   ·rw [hX] at h; cases h
  have hbb:b' ≠ b:=fun he=>hnew _ (by rw [he]; exact hm.1)
  have hfree:∀ x ∈ l,x.v ≠ [.map (some b')]:=fun x hx he=>by
   obtain ⟨b3,m3,c3,f1,f2,f3,f4⟩:=hi x hx
   rw [he] at f1
   simp only [jb9,Value.map.injEq,jaa,and_true] at f1
   exact hnew _ (by rw [f1]; exact f3.1)
  have hmH:=qgC hm hle
  have hiH:∀ x ∈ l,∃ b' m c',x.v = [.map (some b')]/\b' ≠ b/\qaF H.h b' mtI m c'/\∀ i,cl x.k i = qdy m i:=fun x hx=>by
   obtain ⟨b3,m3,c3,f1,f2,f3,f4⟩:=hi x hx
   exact ⟨b3,m3,c3,f1,f2,qgC f3 hle,f4⟩
  have hput:=q4T (z:=[.map none]) (v:=[v.v]) (c:=c) hh
  have hfit:qv mtO.vpat [v.v]:=by rw [hvv]; exact q73
  refine ⟨b,hv,l,c,hmH,fun u4 _ h4=>⟨(qaQ l (qf (Z 1).d 32) [v.v] c).1,.inr ⟨b,hv,(qaQ l (qf (Z 1).d 32) [v.v] c).2,⟨by rw [h4]; exact qhM,qjG hm.2 (by simp [qf,mtO]) hfit⟩⟩,b',by rw [hput,hvv]; rfl,[],0,⟨by rw [h4,qtT hbb,hone]; rfl,fun x hx=>(by cases hx),List.Pairwise.nil⟩,fun u5 _ h5 cl' h'=>?_⟩⟩
  rw [qh1 hcl0 h',h5,hv,h4,hvv]
  exact q5W hmH hiH hd hn hr hh (by simp [qf]) hbb hfree hpp.1 hpp.2 h0 h1
 | true =>
  obtain ⟨x,hx,hk,hgx⟩:=qua (z:=[.map none]) hh
  obtain ⟨b',m,c',e1,e2,e3,e4⟩:=hi x hx
  refine .inr ⟨⟨b',by rw [hgx,e1]; rfl⟩,l,.inr ⟨b,hv,c,hm⟩,b',by rw [hgx,e1]; rfl,m,c',e3,fun u5 _ h5 cl' h'=>?_⟩
  rw [qh1 hcl0 h',h5,hv,<- hk]
  exact q6c hm hi hd hn hr hx e1 e3 hpp.1 hpp.2 h0 h1
theorem q06:qgb.ok Tryz.prog:=q0U (by simp [q2g,q91,qr4]) fun Z hg hp=>by
 obtain ⟨⟨cl,hcl⟩,hO,⟨hl,h1,hr⟩,⟨hl2,h12,hr2⟩,⟨hGr,hGd⟩,t0,t1⟩:=hp
 simp only [Nat.reduceAdd] at hl h1 hr hl2 h12 hr2
 have hcl0:=hcl
 simp (config:={ maxSteps:=4000000 }) [qsf,qgb,qv9,qjk,qt2,qdW,qch,qca,gOk,quW,qw1,qur,qs8,qc,q6T,q6O,hl,hl2,hO,hGr,hGd]
 obtain ⟨b,l,c,hv,hm,hi,hd,hn,hrr⟩:=hcl
 repeat' (first | with_reducible apply And.intro | with_reducible intro _)
 all_goals first
  | omega
  | exact qjW (by assumption) (by assumption)
  | skip
 refine ⟨l,.inr ⟨b,hv,c,hm⟩,?_⟩
 have hstart:∃ (mo:Option Nat) (clock:Nat),((qcy l (qf (Z 1).d 32) [Value.map none]).head?.getD .nilFunc = .map none/\mo = none/\clock = 0∨∃ b:Nat,(qcy l (qf (Z 1).d 32) [Value.map none]).head?.getD .nilFunc = .map (some b)/\mo = some b/\∃ l,qaF (Z 5).h b mtI l clock)/\∀ (H:Hp) (bi:Nat) (it:Value),Hp.le (Z 5).h H->it = .pointer (some ⟨bi,0,none⟩)->H bi = some (.mapIter mo clock #[] clock)->qqL (Z 5).h H (Z 4).v it (qf (Z 1).d 32) (Z 2).i (Z 3).i (qy (Z 9).d) (qy (Z 14).d) false:=by
  cases hh:qaA l (qf (Z 1).d 32) with
  | false =>
   have hg0:=qiI (z:=[.map none]) hh
   exact ⟨none,0,.inl ⟨by rw [hg0]; rfl,rfl,rfl⟩,fun H bi it hle hit hb=>qsS hcl0 (fun i=>hn _ _ (qkS hh)) hle hit hb⟩
  | true =>
   obtain ⟨x,hx,hk,hgx⟩:=qua (z:=[.map none]) hh
   obtain ⟨b',m,c',e1,e2,e3,e4⟩:=hi x hx
   exact ⟨some b',c',.inr ⟨b',by rw [hgx,e1]; rfl,rfl,m,e3⟩,fun H bi it hle hit hb=>qsZ hcl0 e3 (fun i=>by rw [<- hk]; exact e4 i) hle hit hb⟩
 obtain ⟨mo,clock,hmo,hst0⟩:=hstart
 refine ⟨mo,clock,hmo,?_⟩
 intro I1 _ I2 _ bi hit hI1 H _ hst
 have hle:Hp.le I1.h H.h/\Hp.le (Z 5).h H.h:=by
  have h1:=qbZ 54 1003 hst (by simp)
  have h2:=qbZ 5 1003 hst (by simp)
  exact ⟨by simpa using h1,by simpa using h2⟩
 have hbi:H.h bi = some (.mapIter mo clock #[] clock):=hle.1 _ _ (by rw [hI1]; simp [Hp.one])
 refine ⟨⟨qcR (l:=[_,_,_,_,_,_,_,_,_,_,_,_,_,_,_,_]) (by assumption) qdR,qcR (l:=[_,_,_,_,_,_,_,_,_,_,_,_,_,_,_,_]) (by assumption) qdR,hst0 H.h bi I2.v hle.2 hit hbi⟩,?_⟩
 intro F13 _ F14 _ x _ it _ H2 _ hs13 hs14 hB
 obtain ⟨hcH,m,seen,⟨bi2,mo2,since,stp,hit2,hbi2,hmo2⟩,hco,hx⟩:=hB cl hcl0
 refine ⟨bi2,hit2,since,seen,stp,mo2,hbi2,?_⟩
 rcases hmo2 with ⟨rfl,rfl⟩ | ⟨b2,c2,rfl,hne,hM,hcs,hstt,hseen⟩
 ·exact q2R (m:=[]) (c:=0) (since:=0) ⟨fun x hx=>(by cases hx),List.Pairwise.nil⟩ hcl0 hcH (ja4 _) hco hx (fun e he=>by cases he)
 ·refine ⟨m,c2,hM,hstt,fun hall=>q2R hM.2 hcl0 hcH hcs hco hx hall,fun e he hns u2 _ hu2=>⟨bi2,hit2,since,seen,c2,b2,m,e,by rw [hu2]; exact qhM,by rw [hu2]; exact qdb (Ne.symm hne) hM,he,?_⟩⟩
  have hbl:∀ y:Bool,y = (x.b || qjm (qf (Z 1).d 32) (Z 2).i (Z 3).i (qy (Z 9).d) (qy (Z 14).d) e)->qqL (Z 5).h u2.h (Z 4).v it.v (qf (Z 1).d 32) (Z 2).i (Z 3).i (qy (Z 9).d) (qy (Z 14).d) y:=fun y hy=>by
   rw [hu2]; exact q8x hcl0 hcH hit2 hbi2 hne hM hcs hseen hco he hx hy
  have hless:qip u2.h it.v < qip H2.h it.v:=by
   rw [qnI (h:=H2.h) hit2 hbi2 hM,qnI (h:=u2.h) (seen:=seen ++ [e.born]) hit2 (by rw [hu2]; exact qhM) (by rw [hu2]; exact qdb (Ne.symm hne) hM)]
   exact q3F he hns
  obtain ⟨z,hz⟩:=qy1 hM.2 he
  have hg:=(hco z).trans (qtF hM.2 he hz)
  obtain ⟨z0,z1,v0,v1⟩:=hrr _ _ _ hg
  have hcv:qa [e.v] 0 = qaj (e.v.headD .nilFunc):=by unfold qa; cases e.v <;> rfl
  have hbe:∀ a b c d:Bool,a = qkx (qaj (e.v.headD .nilFunc)) (Z 3).i->b = decide (z ∈ qy (Z 9).d)->c = decide (z ∈ qy (Z 14).d)->d = qR (qf (Z 1).d 32) z (Z 2).i->qjm (qf (Z 1).d 32) (Z 2).i (Z 3).i (qy (Z 9).d) (qy (Z 14).d) e = (a && b && !c && d):=by
   intro a b c d ha hb hc hd
   unfold qjm
   rw [hz,ha,hb,hc,hd,jbp]
  have hkx:qa [qW [IntKind.i64] e.k] 0 = z:=by rw [hz]; rfl
  have hkx':qa [qW mtI.kks e.k] 0 = z:=hkx
  rw [hcv,hkx']
  have hB:=fun (r:U) (hr':r.b = qkx (qaj (e.v.headD .nilFunc)) (Z 3).i)=>hbe r.b (decide (z ∈ qy (Z 9).d)) (decide (z ∈ qy (Z 14).d)) (qR (qf (Z 1).d 32) z (Z 2).i) hr' rfl rfl rfl
  refine ⟨fun hxt=>⟨⟨hs13,hs14,hbl true (by rw [hxt,Bool.true_or])⟩,hless⟩,fun hxf=>⟨⟨v0,v1,t0,t1⟩,fun r _ hr'=>⟨fun hrt=>⟨z0,z1,quZ hs14,fun hf14=>⟨quZ hs13,fun hf13 w _ hw=>⟨⟨hs13,hs14,hbl w.b ?_⟩,hless⟩,fun hf13=>⟨⟨hs13,hs14,hbl false ?_⟩,hless⟩⟩,fun hf14=>⟨⟨hs13,hs14,hbl false ?_⟩,hless⟩⟩,fun hrf=>⟨⟨hs13,hs14,hbl false ?_⟩,hless⟩⟩⟩⟩
  ·rw [hxf,hB r hr',hrt,jcf ((qeK hs14 qdR z0 z1).1 hf14),jem (qkC hs13 qdR z0 z1 hf13),hw]; generalize qR (qf (Z 1).d 32) z (Z 2).i = q; cases q <;> rfl
  ·rw [hxf,hB r hr',hrt,jcf ((qeK hs14 qdR z0 z1).1 hf14),jcf ((qeK hs13 qdR z0 z1).1 hf13)]; generalize qR (qf (Z 1).d 32) z (Z 2).i = q; cases q <;> rfl
  ·rw [hxf,hB r hr',hrt,jem (qkC hs14 qdR z0 z1 hf14)]; generalize qR (qf (Z 1).d 32) z (Z 2).i = q; cases q <;> rfl
  ·rw [hxf,hB r hr',hrf]; generalize qR (qf (Z 1).d 32) z (Z 2).i = q; cases q <;> simp
set_option maxRecDepth 100000
def qzr:Out:=(fr 1 2 (.ret 0 (sg 1 [bg 1 2])))
theorem q4r:qn Tryz.prog qf3 [] [] qzr:=qh Tryz.func45 Tryz.call45 (by kernel_rfl)
def qyc:Out:=(.br (.not (.and (.cmp .eql (.dlen (tv 3)) (tl 0)) (.isnil 2)))
 (.need (.cmp .leq (tl 0) (tv 6)) (.need (.cmp .lss (tl 0) (.dlen (tv 3))) (.ret 0 (sg 10 [bt 10 (.cmp .geq (tv 6) (.icell (tv 3) (tl 0) 0))]))))
 (.ret 0 (sg 10 [bt 10 (.bl false)])))
theorem q6r:qn Tryz.prog qcs [] [] qyc:=qh Tryz.func47 Tryz.call47 (by kernel_rfl)
def qzj:Out:=(.pre 0 (sg 0 [bg 9 9,bv 8 8,bv 4 4,bv 3 3,bv 7 7,bv 6 6,bg 5 5,bg 2 2,bt 1 (r8 1),bg 0 0]) (.both (.fresh 10 (.post 0 0 (sg 0 [bg 9 9,bv 8 8,bv 4 4,bv 3 3,bv 7 7,bv 6 6,bg 5 5,bg 2 2,bt 1 (r8 1),bg 0 0]) 10 (.br (.not (tv 10))
 (.ret 0 (sg 10 [bt 10 (tl 12)]))
 (.ret 0 (sg 10 [bt 10 (tl 0)]))))) .top))
theorem q4X:qn Tryz.prog qhI [qcs] [] qzj:=qh Tryz.func89 Tryz.call89 (by kernel_rfl)
def q3k:Out:=(.fresh 10 (.need (.cmp .leq (tl 0) (tv 6)) (.inv 0 11 (sg 1000 [bt 1003 .dnil,bt 1004 (tl 0),bt 1002 (tl 0),bt 1001 (tl 0),bg 1000 10]) (fr 11 5 (.hyp 0 11 (.br (.cmp .lss (tv 15) (tv 6))
 (.need (.cmp .leq (tl 0) (tv 15)) (.need (.cmp .lss (tv 15) (.dlen (tv 8))) (fr 16 2 (.need (.cmp .eql (tv 12) (.dlen (tv 14))) (.need (.cmp .leq (.tims (tl 8) (.plus (tv 12) (tl 1))) (tl 140737488355328)) (fr 18 2 (.back 0 11 (sg 1000 [bt 1003 (.dapp (tv 14) (.rcons (.vint .i64 (.icell (tv 8) (tv 15) 0)) .rnil)),bt 1004 (.arith .add .i64 (tv 15) (tl 1)),bv 1002 19,bt 1001 (.plus (tv 12) (tl 1)),bg 1000 18]))))))))
 (.ret 0 (sg 10 [bv 13 14,bv 12 13,bv 11 12,bg 10 11]))))))))
theorem q7R:qn Tryz.prog qis [] [q6C] q3k:=qh Tryz.func55 Tryz.call55 (by kernel_rfl)
def quK:Out:=(.br (.and (.cmp .eql (.dlen (tv 3)) (tl 0)) (.isnil 0))
 (.need (.cmp .eql (tv 1) (tl 0)) (.ret 0 (sg 5 [bt 7 .dnil,bt 6 (tl 0),(5,.nil)])))
 (.fresh 5 (.need (.cmp .leq (tl 0) (tv 1)) (.need (.cmp .leq (tv 1) (.dlen (tv 3))) (.need (.cmp .leq (.tims (tl 32) (tv 1)) (tl 140737488355328)) (fr 6 2 (.ret 0 (sg 5 [bt 7 (.dtake (tv 3) (tv 1)),bv 6 7,bg 5 6]))))))))
theorem q35:qn Tryz.prog qj1 [] [] quK:=qh Tryz.func90 Tryz.call90 (by kernel_rfl)
@[simp] def qiH:Sg:=sg 0 [bg 9 9,bv 8 8,bv 4 4,bv 3 3,bv 7 7,bv 6 6,bg 5 5,bg 2 2,bt 1 (r8 1),bg 0 0]
@[simp] def qrG:Sg:=sg 0 [bv 11 27,bv 9 19,bv 8 18,bv 7 17,bv 6 16,bg 5 15,bv 3 13,bv 2 12,bv 1 11,bv 0 10,bt 4 (r8 14),bg 10 26]
@[simp] def qry:Sg:=sg 0 [bv 17 27,bv 15 25,bv 14 24,bv 9 19,bv 8 18,bv 13 23,bv 12 22,bg 11 21,bv 10 20,bv 7 17,bv 6 16,bg 5 15,bv 3 13,bv 2 12,bv 1 11,bv 0 10,bt 4 (r8 14),bg 16 26]
def qxR:Out:=(fr 28 2 (.pre 0 qrG (.both (fr 30 2 (.post 0 0 qrG 30 (.fresh 32 (.br (.cmp .neq (tv 31) (tl 0))
 (.pack [.cells 32 24 [(x8 0 30),(x8 1 30),(x8 2 30),(x8 3 30),(x8 4 30),(x8 5 30),(x8 6 30),(x8 7 30),(x8 8 30),(x8 9 30),(x8 10 30),(x8 11 30),(x8 12 30),(x8 13 30),(x8 14 30),(x8 15 30),(x8 16 30),(x8 17 30),(x8 18 30),(x8 19 30),(x8 20 30),(x8 21 30),(x8 22 30),(x8 23 30),(x8 24 30),(x8 25 30),(x8 26 30),(x8 27 30),(x8 28 30),(x8 29 30),(x8 30 30),(x8 31 30)],.cells 29 86 [(.vint .i64 (tv 20)),(.vslice 21 (tl 0) (tv 22) (tv 23) 1)],.cells 28 27 [(.vint .i64 (tv 10)),(.vint .i64 (tv 11)),(.vint .i64 (tv 12)),(.vint .i64 (tv 13)),(x8 0 14),(x8 1 14),(x8 2 14),(x8 3 14),(x8 4 14),(x8 5 14),(x8 6 14),(x8 7 14),(x8 8 14),(x8 9 14),(x8 10 14),(x8 11 14),(x8 12 14),(x8 13 14),(x8 14 14),(x8 15 14),(x8 16 14),(x8 17 14),(x8 18 14),(x8 19 14),(x8 20 14),(x8 21 14),(x8 22 14),(x8 23 14),(x8 24 14),(x8 25 14),(x8 26 14),(x8 27 14),(x8 28 14),(x8 29 14),(x8 30 14),(x8 31 14),(.vslice 15 (tl 0) (tv 16) (tv 17) 32)],.abs 9 20] 33 (.ret 0 (sg 28 [bg 35 33,bv 34 8,bv 30 4,bv 29 3,bv 33 7,bv 32 6,bg 31 5,bg 28 2,bv 36 31])))
 (.br (.not (.c2 .req (r8 30) (r8 1)))
 (.pack [.cells 32 24 [(x8 0 30),(x8 1 30),(x8 2 30),(x8 3 30),(x8 4 30),(x8 5 30),(x8 6 30),(x8 7 30),(x8 8 30),(x8 9 30),(x8 10 30),(x8 11 30),(x8 12 30),(x8 13 30),(x8 14 30),(x8 15 30),(x8 16 30),(x8 17 30),(x8 18 30),(x8 19 30),(x8 20 30),(x8 21 30),(x8 22 30),(x8 23 30),(x8 24 30),(x8 25 30),(x8 26 30),(x8 27 30),(x8 28 30),(x8 29 30),(x8 30 30),(x8 31 30)],.cells 29 86 [(.vint .i64 (tv 20)),(.vslice 21 (tl 0) (tv 22) (tv 23) 1)],.cells 28 27 [(.vint .i64 (tv 10)),(.vint .i64 (tv 11)),(.vint .i64 (tv 12)),(.vint .i64 (tv 13)),(x8 0 14),(x8 1 14),(x8 2 14),(x8 3 14),(x8 4 14),(x8 5 14),(x8 6 14),(x8 7 14),(x8 8 14),(x8 9 14),(x8 10 14),(x8 11 14),(x8 12 14),(x8 13 14),(x8 14 14),(x8 15 14),(x8 16 14),(x8 17 14),(x8 18 14),(x8 19 14),(x8 20 14),(x8 21 14),(x8 22 14),(x8 23 14),(x8 24 14),(x8 25 14),(x8 26 14),(x8 27 14),(x8 28 14),(x8 29 14),(x8 30 14),(x8 31 14),(.vslice 15 (tl 0) (tv 16) (tv 17) 32)],.abs 9 20] 33 (.ret 0 (sg 28 [bg 35 33,bv 34 8,bv 30 4,bv 29 3,bv 33 7,bv 32 6,bg 31 5,bg 28 2,bt 36 (tl 20)])))
 (.pre 1 qry (.both (.fresh 33 (.post 1 0 qry 33 (.br (.cmp .neq (tv 33) (tl 0))
 (.pack [.cells 32 24 [(x8 0 30),(x8 1 30),(x8 2 30),(x8 3 30),(x8 4 30),(x8 5 30),(x8 6 30),(x8 7 30),(x8 8 30),(x8 9 30),(x8 10 30),(x8 11 30),(x8 12 30),(x8 13 30),(x8 14 30),(x8 15 30),(x8 16 30),(x8 17 30),(x8 18 30),(x8 19 30),(x8 20 30),(x8 21 30),(x8 22 30),(x8 23 30),(x8 24 30),(x8 25 30),(x8 26 30),(x8 27 30),(x8 28 30),(x8 29 30),(x8 30 30),(x8 31 30)],.cells 29 86 [(.vint .i64 (tv 20)),(.vslice 21 (tl 0) (tv 22) (tv 23) 1)],.cells 28 27 [(.vint .i64 (tv 10)),(.vint .i64 (tv 11)),(.vint .i64 (tv 12)),(.vint .i64 (tv 13)),(x8 0 14),(x8 1 14),(x8 2 14),(x8 3 14),(x8 4 14),(x8 5 14),(x8 6 14),(x8 7 14),(x8 8 14),(x8 9 14),(x8 10 14),(x8 11 14),(x8 12 14),(x8 13 14),(x8 14 14),(x8 15 14),(x8 16 14),(x8 17 14),(x8 18 14),(x8 19 14),(x8 20 14),(x8 21 14),(x8 22 14),(x8 23 14),(x8 24 14),(x8 25 14),(x8 26 14),(x8 27 14),(x8 28 14),(x8 29 14),(x8 30 14),(x8 31 14),(.vslice 15 (tl 0) (tv 16) (tv 17) 32)],.abs 9 20] 34 (.ret 0 (sg 28 [bg 35 34,bv 34 8,bv 30 4,bv 29 3,bv 33 7,bv 32 6,bg 31 5,bg 28 2,bv 36 33])))
 (.both (.pre 2 qiH (.both (fr 34 4 (.post 2 0 qiH 34 (.both (.pre 3 (sg 0 [bv 4 36,bv 3 37,bv 5 20,bv 2 36,bv 1 35,bg 0 34]) (.both (.fresh 38 (.post 3 0 (sg 0 [bv 4 36,bv 3 37,bv 5 20,bv 2 36,bv 1 35,bg 0 34]) 38 (.br (tv 38)
 (.pack [.arr 34 3 [CK.int .i64] (tv 37) (tv 36),.cells 32 24 [(x8 0 30),(x8 1 30),(x8 2 30),(x8 3 30),(x8 4 30),(x8 5 30),(x8 6 30),(x8 7 30),(x8 8 30),(x8 9 30),(x8 10 30),(x8 11 30),(x8 12 30),(x8 13 30),(x8 14 30),(x8 15 30),(x8 16 30),(x8 17 30),(x8 18 30),(x8 19 30),(x8 20 30),(x8 21 30),(x8 22 30),(x8 23 30),(x8 24 30),(x8 25 30),(x8 26 30),(x8 27 30),(x8 28 30),(x8 29 30),(x8 30 30),(x8 31 30)],.cells 29 86 [(.vint .i64 (tv 20)),(.vslice 21 (tl 0) (tv 22) (tv 23) 1)],.cells 28 27 [(.vint .i64 (tv 10)),(.vint .i64 (tv 11)),(.vint .i64 (tv 12)),(.vint .i64 (tv 13)),(x8 0 14),(x8 1 14),(x8 2 14),(x8 3 14),(x8 4 14),(x8 5 14),(x8 6 14),(x8 7 14),(x8 8 14),(x8 9 14),(x8 10 14),(x8 11 14),(x8 12 14),(x8 13 14),(x8 14 14),(x8 15 14),(x8 16 14),(x8 17 14),(x8 18 14),(x8 19 14),(x8 20 14),(x8 21 14),(x8 22 14),(x8 23 14),(x8 24 14),(x8 25 14),(x8 26 14),(x8 27 14),(x8 28 14),(x8 29 14),(x8 30 14),(x8 31 14),(.vslice 15 (tl 0) (tv 16) (tv 17) 32)],.abs 9 20] 39 (.ret 0 (sg 28 [bg 35 39,bv 34 8,bv 30 4,bv 29 3,bv 33 7,bv 32 6,bg 31 5,bg 28 2,bt 36 (tl 7)])))
 (.pre 4 qiH (.both (.fresh 39 (.post 4 0 qiH 39 (.br (tv 39)
 (.pack [.arr 34 3 [CK.int .i64] (tv 37) (tv 36),.cells 32 24 [(x8 0 30),(x8 1 30),(x8 2 30),(x8 3 30),(x8 4 30),(x8 5 30),(x8 6 30),(x8 7 30),(x8 8 30),(x8 9 30),(x8 10 30),(x8 11 30),(x8 12 30),(x8 13 30),(x8 14 30),(x8 15 30),(x8 16 30),(x8 17 30),(x8 18 30),(x8 19 30),(x8 20 30),(x8 21 30),(x8 22 30),(x8 23 30),(x8 24 30),(x8 25 30),(x8 26 30),(x8 27 30),(x8 28 30),(x8 29 30),(x8 30 30),(x8 31 30)],.cells 29 86 [(.vint .i64 (tv 20)),(.vslice 21 (tl 0) (tv 22) (tv 23) 1)],.cells 28 27 [(.vint .i64 (tv 10)),(.vint .i64 (tv 11)),(.vint .i64 (tv 12)),(.vint .i64 (tv 13)),(x8 0 14),(x8 1 14),(x8 2 14),(x8 3 14),(x8 4 14),(x8 5 14),(x8 6 14),(x8 7 14),(x8 8 14),(x8 9 14),(x8 10 14),(x8 11 14),(x8 12 14),(x8 13 14),(x8 14 14),(x8 15 14),(x8 16 14),(x8 17 14),(x8 18 14),(x8 19 14),(x8 20 14),(x8 21 14),(x8 22 14),(x8 23 14),(x8 24 14),(x8 25 14),(x8 26 14),(x8 27 14),(x8 28 14),(x8 29 14),(x8 30 14),(x8 31 14),(.vslice 15 (tl 0) (tv 16) (tv 17) 32)],.abs 9 20] 40 (.ret 0 (sg 28 [bg 35 40,bv 34 8,bv 30 4,bv 29 3,bv 33 7,bv 32 6,bg 31 5,bg 28 2,bt 36 (tl 8)])))
 (.pre 5 (sg 0 [bv 4 19,bv 3 18,bv 2 17,bv 1 16,bg 0 15]) (.both (fr 40 3 (.post 5 0 (sg 0 [bv 4 19,bv 3 18,bv 2 17,bv 1 16,bg 0 15]) 40 (.both (.pre 6 (sg 0 [bv 4 25,bv 3 24,bv 2 23,bv 1 22,bg 0 21]) (.both (fr 43 3 (.post 6 0 (sg 0 [bv 4 25,bv 3 24,bv 2 23,bv 1 22,bg 0 21]) 43 (.both (.both (.fresh 46 (.both (.need (.cmp .eql (tv 6) (.dlen (tv 8))) (.need (.cmp .leq (.tims (tl 32) (.plus (tv 6) (tl 1))) (tl 140737488355328)) (fr 47 2 (.both (.both (.both (.pack [.cells 46 86 [(.vint .i64 (tv 20)),(.vslice 43 (tl 0) (tv 22) (tv 44) 1)],.arr 43 5 [CK.int .u8] (tv 45) (tv 44),.arr 40 24 [CK.int .u8,CK.int .u8,CK.int .u8,CK.int .u8,CK.int .u8,CK.int .u8,CK.int .u8,CK.int .u8,CK.int .u8,CK.int .u8,CK.int .u8,CK.int .u8,CK.int .u8,CK.int .u8,CK.int .u8,CK.int .u8,CK.int .u8,CK.int .u8,CK.int .u8,CK.int .u8,CK.int .u8,CK.int .u8,CK.int .u8,CK.int .u8,CK.int .u8,CK.int .u8,CK.int .u8,CK.int .u8,CK.int .u8,CK.int .u8,CK.int .u8,CK.int .u8] (tv 42) (tv 41),.arr 34 3 [CK.int .i64] (tv 37) (tv 36),.cells 32 24 [(x8 0 30),(x8 1 30),(x8 2 30),(x8 3 30),(x8 4 30),(x8 5 30),(x8 6 30),(x8 7 30),(x8 8 30),(x8 9 30),(x8 10 30),(x8 11 30),(x8 12 30),(x8 13 30),(x8 14 30),(x8 15 30),(x8 16 30),(x8 17 30),(x8 18 30),(x8 19 30),(x8 20 30),(x8 21 30),(x8 22 30),(x8 23 30),(x8 24 30),(x8 25 30),(x8 26 30),(x8 27 30),(x8 28 30),(x8 29 30),(x8 30 30),(x8 31 30)],.cells 29 86 [(.vint .i64 (tv 20)),(.vslice 21 (tl 0) (tv 22) (tv 23) 1)],.arr 2 27 [CK.int .i64,CK.int .i64,CK.int .i64,CK.int .i64,CK.int .u8,CK.int .u8,CK.int .u8,CK.int .u8,CK.int .u8,CK.int .u8,CK.int .u8,CK.int .u8,CK.int .u8,CK.int .u8,CK.int .u8,CK.int .u8,CK.int .u8,CK.int .u8,CK.int .u8,CK.int .u8,CK.int .u8,CK.int .u8,CK.int .u8,CK.int .u8,CK.int .u8,CK.int .u8,CK.int .u8,CK.int .u8,CK.int .u8,CK.int .u8,CK.int .u8,CK.int .u8,CK.int .u8,CK.int .u8,CK.int .u8,CK.int .u8,CK.any] (tv 3) (tv 4),.abs 9 20] 49 (.ret 0 (sg 28 [bg 35 49,bt 34 (.dapp (tv 8) (.rcons (.vint .i64 (tv 20)) (.rcons (.vslice 43 (tl 0) (tv 22) (tv 44) 1) .rnil))),bt 30 (tl 1),bt 29 (.rcons (.vint .i64 (tv 10)) (.rcons (.vint .i64 (tv 11)) (.rcons (.vint .i64 (tv 12)) (.rcons (.vint .i64 (tv 13)) (.rcons (x8 0 14) (.rcons (x8 1 14) (.rcons (x8 2 14) (.rcons (x8 3 14) (.rcons (x8 4 14) (.rcons (x8 5 14) (.rcons (x8 6 14) (.rcons (x8 7 14) (.rcons (x8 8 14) (.rcons (x8 9 14) (.rcons (x8 10 14) (.rcons (x8 11 14) (.rcons (x8 12 14) (.rcons (x8 13 14) (.rcons (x8 14 14) (.rcons (x8 15 14) (.rcons (x8 16 14) (.rcons (x8 17 14) (.rcons (x8 18 14) (.rcons (x8 19 14) (.rcons (x8 20 14) (.rcons (x8 21 14) (.rcons (x8 22 14) (.rcons (x8 23 14) (.rcons (x8 24 14) (.rcons (x8 25 14) (.rcons (x8 26 14) (.rcons (x8 27 14) (.rcons (x8 28 14) (.rcons (x8 29 14) (.rcons (x8 30 14) (.rcons (x8 31 14) (.rcons (.vslice 40 (tl 0) (tv 16) (tv 41) 32) .rnil))))))))))))))))))))))))))))))))))))),bv 33 48,bt 32 (.plus (tv 6) (tl 1)),bg 31 47,bg 28 28,bt 36 (tl 0)]))) .top) .top) .top)))) .top)) .top) .top))) .top)) .top))) .top))))) .top))))) .top)) .top))) .top)) .top)))) .top))))))) .top)))
theorem q4i:qn Tryz.prog qfh [idC,qfV,qis,qdT,qcs,qj1,qfW] [] qxR:=qh Tryz.func48 Tryz.call48 (by kernel_rfl)
set_option maxRecDepth 20000
theorem qtC:qf3.ok Tryz.prog:=q4r (by simp) fun Z hg hp=>by
 simp (config:={ maxSteps:=4000000 }) [qzr,qf3]
theorem q4d:qj1.ok Tryz.prog:=q35 (by simp) fun Z hg hp=>by
 obtain ⟨h0,hl,h1⟩:=hp
 simp (config:={ maxSteps:=4000000 }) [quK,qj1,hl]
 exact ⟨fun h _=>h,fun _=>by omega⟩
section
variable {h:Hp} {r:Option Addr} {d P:qd} {c n:Int} {M M':Option ManV} {L L':PcL}
theorem q4x (h1:qqm h P L) (h2:qqm h P L'):L = L':=by
 refine jbt fun j=>?_
 by_cases hj:j < P.length
 ·have e:=(h1.2.2 j hj).symm.trans (h2.2.2 j hj)
  rw [jab,jab,jac (by have:=h1.1; omega),jac (by have:=h2.1; omega)] at e
  rw [jac (by have:=h1.1; omega),jac (by have:=h2.1; omega)]
  exact congrArg some e
 ·rw [jas (by have:=h1.1; omega),jas (by have:=h2.1; omega)]
theorem q5F {m m':ManV} (h1:qf2 h d m) (h2:qf2 h d m'):m = m':=by
 obtain ⟨row,D,e,hf,hr,hD,a1,a2,a3,a4,a5,a6,_,_⟩:=h1
 obtain ⟨row',D',e',hf',hr',hD',b1,b2,b3,b4,b5,b6,_,_⟩:=h2
 rw [e] at e'
 simp only [jb9,and_true] at e'
 subst e'
 obtain rfl:=qiv hr hr'
 obtain ⟨k,n,t,s,o,D1⟩:=m
 obtain ⟨k',n',t',s',o',D1'⟩:=m'
 simp only at a1 a2 a3 a4 a5 a6 b1 b2 b3 b4 b5 b6
 simp only [ManV.mk.injEq]
 exact ⟨by rw [<- a2,<- b2],by rw [<- a3,<- b3],by rw [<- a4,<- b4],by rw [<- a5,<- b5],by rw [<- a6,<- b6],by rw [<- a1,<- b1]⟩
theorem qjK (h1:qaR h r d c n P M L) (h2:qaR h r d c n P M' L'):M' = M/\L' = L:=by
 obtain ⟨_,p1,_,_,q1⟩:=h1
 obtain ⟨_,p2,_,_,q2⟩:=h2
 refine ⟨?_,(q4x p1 p2).symm⟩
 rcases q1 with ⟨rfl,_,c0,_⟩ | ⟨m,rfl,c1,hm,_⟩ <;> rcases q2 with ⟨rfl,_,c0',_⟩ | ⟨m',rfl,c1',hm',_⟩
 ·rfl
 ·omega
 ·omega
 ·rw [q5F hm hm']
theorem q99 (h1:qaR h r d c n P M L):qaw P P.length = L.map Prod.fst:=by
 obtain ⟨_,p1,_⟩:=h1
 refine jbt fun j=>?_
 by_cases hj:j < P.length
 ·have e:=congrArg Prod.fst (p1.2.2 j hj)
  rw [jab,jac (by have:=p1.1; omega)] at e
  rw [qaw,jan,jbj hj,jan,jac (by have:=p1.1; omega)]
  exact congrArg some e
 ·rw [jas (by simp [qaw]; omega),jas (by rw [ja7]; have:=p1.1; omega)]
theorem q4U {i:Nat}:qaw P (i + 1) = qaw P i ++ [pcI P i]:=by
 unfold qaw
 rw [jd1,jca]; rfl
end
theorem qkN:qcs.ok Tryz.prog:=q6r (by simp) fun Z hg hp=>by
 obtain ⟨M,L,h⟩:=hp
 simp (config:={ maxSteps:=4000000 }) [qyc,qcs,gaB]
 have h0:qaR (Z 9).h (Z 2).r (Z 3).d (Z 4).i (Z 6).i (Z 8).d M L:=h
 obtain ⟨hn,hp,_,_,hc⟩:=h
 rcases hc with ⟨rfl,hr,c0,hd,hL⟩ | ⟨m,rfl,c1,hm,hL⟩
 ·refine ⟨fun hcon=>?_,fun _ _ M' L' h'=>?_⟩
  ·rw [hd,hr] at hcon; simp at hcon
  ·obtain ⟨rfl,rfl⟩:=qjK h0 h'; rfl
 ·obtain ⟨row,D,e,hf,hrd,hD,a1,a2,_⟩:=hm
  have e:(Z 3).d = [row]:=e
  refine ⟨fun _=>⟨by have hn':(Z 6).i = ((Z 8).d.length:Int):=hn; omega,by rw [e]; exact Nat.one_pos,fun M' L' h'=>?_⟩,fun hd _=>by rw [e] at hd; cases hd⟩
  obtain ⟨rfl,rfl⟩:=qjK h0 h'
  have hk:qb (Z 3).d 0 0 = m.k:=by rw [<- a2,e]; rfl
  have hn':(Z 6).i = ((Z 8).d.length:Int):=hn
  have hp1:(Z 8).d.length = L'.length:=hp.1
  rw [hk,hn',hp1]; rfl
theorem qy3:qis.ok Tryz.prog:=q7R (by simp) fun Z hg hp=>by
 obtain ⟨M,L,h⟩:=hp
 have h0:qaR (Z 9).h (Z 2).r (Z 3).d (Z 4).i (Z 6).i (Z 8).d M L:=h
 obtain ⟨hn,hp,_,h255,hc⟩:=h
 have hpl:=hp.1
 simp (config:={ maxSteps:=4000000 }) [q3k,qis,q6C,qby,gaB]
 have hn:(Z 6).i = ((Z 8).d.length:Int):=hn
 have hpl:(Z 8).d.length = L.length:=hpl
 refine ⟨by omega,⟨by omega,rfl⟩,fun a _ D _ i _ i0 i1 ha hD hr=>⟨fun hi=>?_,fun hi M' L' h'=>?_⟩⟩
 ·have hDl:D.d.length = i.i.toNat:=by
   have:=congrArg List.length hD
   rw [qc5] at this
   simpa [qaw] using this
  have hnx:(qe .add .i64 i.i 1).toNat = i.i.toNat + 1:=by rw [qeN i0 (by omega)]; omega
  refine ⟨i0,by omega,ha,by omega,⟨by rw [qeN i0 (by omega)]; omega,by rw [qeN i0 (by omega)]; omega,ha,?_,fun row h=>qqX h hr⟩,by rw [qeN i0 (by omega)]; omega⟩
  rw [hnx,q4U,qlU,hD]
  unfold pcI
  rw [jay i0]
 ·obtain ⟨rfl,rfl⟩:=qjK h0 h'
  refine ⟨ha,?_,hr⟩
  rw [hD,<- q99 h0,show i.i.toNat = (Z 8).d.length by omega]
theorem quz:qhI.ok Tryz.prog:=q4X (by simp [qkN]) fun Z hg hp=>by
 obtain ⟨M,L,h⟩:=hp
 have h0:qaR (Z 9).h (Z 2).r (Z 3).d (Z 4).i (Z 6).i (Z 8).d M L:=h
 simp (config:={ maxSteps:=4000000 }) [qzj,qhI,qcs,gaB]
 exact ⟨⟨M,L,h0⟩,fun u _ hu=>⟨fun hf M' L' h'=>by rw [<- hu M' L' h',hf],fun ht M' L' h'=>by rw [<- hu M' L' h',ht]⟩⟩
section
variable {h h':Hp} {r:Option Addr} {d P:qd} {c n e i:Int} {M:Option ManV} {L:PcL} {o b:List Int} {m:ManV}
theorem q4h (h1:qqm h P L) (hl:Hp.le h h'):qqm h' P L:=by
 refine ⟨h1.1,fun j hj=>?_,fun j hj=>?_⟩
 ·obtain ⟨i,v,d,e1,e2,e3⟩:=h1.2.1 j hj
  exact ⟨i,v,d,e1,qeU e2 hl,e3⟩
 ·rw [<- h1.2.2 j hj]
  obtain ⟨i,v,d,e1,e2,e3⟩:=h1.2.1 j hj
  have hv:qF P j 1 = v:=by simp only [qF,jav,e1,ja0]; rfl
  unfold pcD
  rw [hv,qf0 e2,qf0 (qeU e2 hl)]
theorem q5k (h1:qf2 h d m) (hl:Hp.le h h'):qf2 h' d m:=by
 obtain ⟨row,D,e,hf,hr,hx⟩:=h1
 exact ⟨row,D,e,hf,qeU hr hl,hx⟩
theorem qgd (h1:qaR h r d c n P M L) (hl:Hp.le h h'):qaR h' r d c n P M L:=by
 obtain ⟨a1,a2,a3,a4,a5⟩:=h1
 refine ⟨a1,q4h a2 hl,a3,a4,?_⟩
 rcases a5 with a5 | ⟨m,b1,b3,b4,b5⟩
 ·exact .inl a5
 ·exact .inr ⟨m,b1,b3,q5k b4 hl,b5⟩
theorem q98 (h1:qaR h r d c n P M L) (hl:Hp.le h h') (hne:¬ e = 0):qaR h' r d c n P (if e = 0 then some m else M) (if e = 0 then L ++ [(i,b)] else L):=by
 rw [jaf hne,jaf hne]; exact qgd h1 hl
section
variable {k n' t s l u:Int} {O R S z:List Int} {D J:qd} {x y:Bool}
theorem qjN (hl:l = (D.length:Int)):ManV.ok ⟨k,n',t,s,O,dgs D⟩ = qz k n' t s l:=by
 unfold ManV.ok
 rw [hl]; simp [dgs]
theorem qAw (hl:l = (D.length:Int)) (hid:(qz k n' t s l = false/\e = 2/\R = z)∨(qz k n' t s l = true/\e = 0/\R = S)) (hne:¬ e = 0):e = qeJ o M L ⟨k,n',t,s,O,dgs D⟩ i b:=by
 rcases hid with ⟨h1,h2,_⟩ | ⟨_,h2,_⟩
 ·unfold qeJ; rw [qjN hl,jah h1,h2]
 ·exact absurd h2 hne
theorem qoK (hid:(qz k n' t s l = false/\e = 2/\R = z)∨(qz k n' t s l = true/\e = 0/\R = S)) (he:e = 0):qz k n' t s l = true/\R = S:=by
 rcases hid with ⟨_,h2,_⟩ | ⟨h1,_,h3⟩
 ·omega
 ·exact ⟨h1,h3⟩
theorem q8W (hl:l = (D.length:Int)) (hid:(qz k n' t s l = false/\e = 2/\R = z)∨(qz k n' t s l = true/\e = 0/\R = sha (qaI k n' t s O ++ (dgs D).flatten))) (he:e = 0) (hR:¬ R = o):20 = qeJ o M L ⟨k,n',t,s,O,dgs D⟩ i b:=by
 obtain ⟨h1,h2⟩:=qoK hid he
 unfold qeJ
 rw [qjN hl,jaf (by rw [h1]; simp),jah (by show sha (qaI k n' t s O ++ (dgs D).flatten) ≠ o; rw [<- h2]; exact hR)]
theorem qAD (hl:l = (D.length:Int)) (hid:(qz k n' t s l = false/\e = 2/\R = z)∨(qz k n' t s l = true/\e = 0/\R = sha (qaI k n' t s O ++ (dgs D).flatten))) (he:e = 0) (hR:R = o) (hc:u = qbO k n' t s l (dgs D) i b) (hne:¬ u = 0):u = qeJ o M L ⟨k,n',t,s,O,dgs D⟩ i b:=by
 obtain ⟨h1,h2⟩:=qoK hid he
 have hl':(((dgs D).length:Nat):Int) = l:=by rw [hl]; simp [dgs]
 unfold qeJ
 simp only [hl']
 rw [qjN hl,jaf (by rw [h1]; simp),jaf (fun h=>h (by rw [<- hR,h2]; rfl)),jah (by rw [<- hc]; exact hne),hc]
theorem qus (hl:l = (D.length:Int)) (hid:(qz k n' t s l = false/\e = 2/\R = z)∨(qz k n' t s l = true/\e = 0/\R = sha (qaI k n' t s O ++ (dgs D).flatten))) (he:e = 0) (hR:R = o) (hc:u = qbO k n' t s l (dgs D) i b) (hu:u = 0):qeJ o M L ⟨k,n',t,s,O,dgs D⟩ i b = if i ∈ L.map Prod.fst then 7 else if qaz M L then 8 else 0:=by
 obtain ⟨h1,h2⟩:=qoK hid he
 have hl':(((dgs D).length:Nat):Int) = l:=by rw [hl]; simp [dgs]
 unfold qeJ
 simp only [hl']
 rw [qjN hl,jaf (by rw [h1]; simp),jaf (fun h=>h (by rw [<- hR,h2]; rfl)),jaf (by rw [<- hc,hu]; simp)]
theorem qnP (hq:∀ (M:Option ManV) (L:PcL),qaR h r d c n P M L->u = (J.length:Int)/\qy J = L.map Prod.fst/\∀ row,row ∈ J->row.length = 1) (h1:qaR h r d c n P M L):u = (J.length:Int)/\u <= 1000/\qy J = L.map Prod.fst/\∀ row,row ∈ J->row.length = 1:=by
 obtain ⟨a,b,e⟩:=hq M L h1
 refine ⟨a,?_,b,e⟩
 have h2:=congrArg List.length b
 rw [qc5,ja7] at h2
 have:=h1.2.2.2.1
 omega
theorem qA9 (hl:l = (D.length:Int)) (hid:(qz k n' t s l = false/\e = 2/\R = z)∨(qz k n' t s l = true/\e = 0/\R = sha (qaI k n' t s O ++ (dgs D).flatten))) (he:e = 0) (hR:R = o) (hc:u = qbO k n' t s l (dgs D) i b) (hu:u = 0) {u':Int}
  (hq:∀ (M:Option ManV) (L:PcL),qaR h r d c n P M L->u' = (J.length:Int)/\qy J = L.map Prod.fst/\∀ row,row ∈ J->row.length = 1) (h1:qaR h r d c n P M L) (hx:x = decide (i ∈ qy J)) (ht:x = true):7 = qeJ o M L ⟨k,n',t,s,O,dgs D⟩ i b:=by
 rw [qus hl hid he hR hc hu,jah]
 rw [<- (hq M L h1).2.1]; exact qAR hx ht
theorem qAJ (hl:l = (D.length:Int)) (hid:(qz k n' t s l = false/\e = 2/\R = z)∨(qz k n' t s l = true/\e = 0/\R = sha (qaI k n' t s O ++ (dgs D).flatten))) (he:e = 0) (hR:R = o) (hc:u = qbO k n' t s l (dgs D) i b) (hu:u = 0) {u':Int}
  (hq:∀ (M:Option ManV) (L:PcL),qaR h r d c n P M L->u' = (J.length:Int)/\qy J = L.map Prod.fst/\∀ row,row ∈ J->row.length = 1) (h1:qaR h r d c n P M L) (hx:x = decide (i ∈ qy J)) (ht:x = false) (hr:∀ (M:Option ManV) (L:PcL),qaR h r d c n P M L->y = qaz M L):qeJ o M L ⟨k,n',t,s,O,dgs D⟩ i b = if y then 8 else 0:=by
 rw [qus hl hid he hR hc hu,jaf,<- hr M L h1]
 rw [<- (hq M L h1).2.1]; exact qzN hx ht
theorem q7E {v:Value} (hv:v.oneCell' = true) (hRd:Rd h k32 v D) (hD:qd4 D) (hO:qU (qf J 32)) (hok:qz k n' t s l = true) (hl:l = (D.length:Int)) :
  qf2 h [[Value.int .i64 k,Value.int .i64 n',Value.int .i64 t,Value.int .i64 s] ++ ((qf J 32).map (Value.int .u8) ++ [v])] ⟨k,n',t,s,qf J 32,dgs D⟩:=by
 refine ⟨_,D,rfl,⟨by simp [quk,qf],fun c kk w hk hw=>?_⟩,hRd,hD,rfl,rfl,rfl,rfl,rfl,rfl,hO,by rw [qjN hl]; exact hok⟩
 unfold quk at hk
 rcases jbu c 4 with h4 | h4
 ·rw [jau (by simpa using h4),jbg,jah h4] at hk
  rw [jau (by simpa using h4)] at hw
  obtain rfl:=(jaz hk).symm
  match c,h4 with
  | 0,_=>obtain rfl:=(jaz hw).symm; rfl
  | 1,_=>obtain rfl:=(jaz hw).symm; rfl
  | 2,_=>obtain rfl:=(jaz hw).symm; rfl
  | 3,_=>obtain rfl:=(jaz hw).symm; rfl
 ·rw [jao (by simpa using h4)] at hk
  rw [jao (by simpa using h4)] at hw
  simp only [ja5,jbh,jcr] at hk hw
  rcases jbu (c - 4) 32 with h5 | h5
  ·rw [jau (by simpa using h5),jbg,jah h5] at hk
   rw [jau (by simp [qf]; omega),jan] at hw
   obtain rfl:=(jaz hk).symm
   obtain ⟨q,_,rfl⟩:=jai.1 hw
   rfl
  ·rw [jao (by simpa using h5)] at hk
   rw [jao (by simp [qf]; omega)] at hw
   simp only [ja5,ja7] at hk hw
   rw [show (qf J 32).length = 32 by simp [qf]] at hw
   match hc:c - 4 - 32,hk with
   | 0,hk =>
    rw [hc] at hw
    obtain rfl:=(jaz hk).symm
    obtain rfl:=(jaz hw).symm
    unfold CK.fits; exact hv
   | q + 1,hk=>simp at hk
theorem q94 {v:Value} {B d':qd} {r':Option Addr} {m:ManV} (h1:qaR h r d c n P M L) (hl:Hp.le h h') (hRd:Rd h' kB v B) (hB:qp B) (hb9:(B.length:Int) <= 9000) (hm:qf2 h' d' m) (hy:qaz M L = false):qaR h' r' d' 1 (n + 1) (P ++ [[.int .i64 i,v]]) (some m) (L ++ [(i,bI B)]):=by
 have h2:=qgd h1 hl
 obtain ⟨a1,a2,a3,a4,a5⟩:=h2
 have hlen:L.length < 255:=by
  rcases a5 with ⟨_,_,_,_,rfl⟩ | ⟨m0,rfl,_,hm0,_⟩
  ·decide
  ·obtain ⟨_,_,_,_,_,_,_,_,_,_,_,_,_,hok⟩:=hm0
   unfold qaz at hy
   have hk:=jd6 hy
   have hk2:m0.k <= 255:=by
    unfold ManV.ok qz qaP at hok
    simp at hok
    omega
   omega
 have hPl:=a2.1
 refine ⟨by rw [jal,jdp]; omega,⟨by rw [jal,jal,hPl]; rfl,fun j hj=>?_,fun j hj=>?_⟩,fun x hx=>?_,by rw [jal,jdp]; omega,.inr ⟨m,rfl,rfl,hm,by simp⟩⟩
 ·rw [jal,jdp] at hj
  rcases jbu j P.length with hjP | hjP
  ·obtain ⟨i0,v0,d0,e1,e2⟩:=a2.2.1 j hjP
   exact ⟨i0,v0,d0,by rw [jau hjP]; exact e1,e2⟩
  ·have:j = P.length:=by omega
   subst this
   exact ⟨i,v,B,by rw [jao (ja4 _),jfb]; rfl,hRd,hB⟩
 ·rw [jal,jdp] at hj
  rcases jbu j P.length with hjP | hjP
  ·have h3:=a2.2.2 j hjP
   have e1:pcI (P ++ [[.int .i64 i,v]]) j = pcI P j:=by unfold pcI qb qF; rw [jav,jau hjP]
   have e2:pcD h' (P ++ [[.int .i64 i,v]]) j = pcD h' P j:=by unfold pcD qF; rw [jav,jau hjP]
   rw [e1,e2,h3,jab,jab,jau (by omega)]
  ·have:j = P.length:=by omega
   subst this
   have e1:pcI (P ++ [[.int .i64 i,v]]) P.length = i:=by unfold pcI qb qF; rw [jav,jao (ja4 _),jfb]; rfl
   have e2:pcD h' (P ++ [[.int .i64 i,v]]) P.length = bI B:=by
    unfold pcD qF
    rw [jav,jao (ja4 _),jfb]
    exact qf0 hRd
   rw [e1,e2,hPl,jab,jao (ja4 _),jfb]; rfl
 ·rcases jat.1 hx with hx | hx
  ·exact a3 x hx
  ·rw [jaj.1 hx,bI_len]; exact hb9
end
end
theorem q8L {h h':Hp} {r r':Option Addr} {d P:qd} {c n e i:Int} {M:Option ManV} {L:PcL} {k n' t s l:Int} {R S z:List Int} {D D' B B' J:qd} {y:Bool} {a a':Option Addr} {x x' q q':Nat} (h1:qaR h r d c n P M L) (hl:Hp.le h h')
  (hid:(qz k n' t s l = false/\e = 2/\R = z)∨(qz k n' t s l = true/\e = 0/\R = S)) (he:e = 0) (hy:∀ (M:Option ManV) (L:PcL),qaR h r d c n P M L->y = qaz M L) (hyf:y = false) (hRb:Rd h' kB (.slice a B'.length q) B') (eB:B' = B) (hRd:Rd h' k32 (.slice a' D'.length q') D') (eD:D' = D)
  (hx:x = B.length) (hx':x' = D.length) (hB:qp B) (hb9:(B.length:Int) <= 9000) (hD:qd4 D) (hO:qU (qf J 32)) (hml:l = (D.length:Int)) :
  qaR h' r' [[Value.int .i64 k,Value.int .i64 n',Value.int .i64 t,Value.int .i64 s] ++ ((qf J 32).map (Value.int .u8) ++ [.slice a' x' q'])] 1 (n + 1) (P ++ [[.int .i64 i,.slice a x q]]) (some ⟨k,n',t,s,qf J 32,dgs D⟩) (L ++ [(i,bI B)]):=by
 subst eB eD hx hx'
 exact q94 h1 hl hRb hB hb9 (q7E rfl hRd hD hO (qoK hid he).1 hml) (by rw [<- hy M L h1]; exact hyf)
theorem qyF {Z:Env} {l:List SH} {H:Hp} (r ty d c:Nat) (pat:List CK) (hs:qV Z l H) (hm:SH.arr r ty pat (.var d) (.var c) ∈ l):Rd H pat (.slice (qm (Z r).r 0) (Z d).d.length (Z c).i.toNat) (Z d).d:=by
 obtain ⟨hx,hl,hd⟩:=qhC hs hm
 exact quR hd hl rfl rfl
set_option maxHeartbeats 4000000 in
theorem quA:qfh.ok Tryz.prog:=q4i (by simp [qzx,qst,qy3,qn5,qkN,q4d,qrE]) fun Z hg hp=>by
 obtain ⟨⟨⟨M,L,h⟩,hO,hMan,hi64,hpa,h9⟩,hGr,hGd⟩:=hp
 have h0:qaR (Z 9).h (Z 2).r (Z 3).d (Z 4).i (Z 6).i (Z 8).d M L:=h
 obtain ⟨q0,q1,q2,q3,hOm,hml,hml2,hD⟩:=hMan
 obtain ⟨p0,p1,p2,p3⟩:=hpa
 simp only [Nat.reduceAdd] at q0 q1 q2 q3 hOm hml hml2 hD p0 p1 p2 p3
 obtain ⟨hn0,hp0,_,h255,_⟩:=id h0
 have hpl0:=hp0.1
 simp (config:={ maxSteps:=4000000 }) [qxR,qfh,idC,qm2,qtp,qfV,qmK,quB,qis,qdT,qcs,qj1,qfW,gaB,qch,qca,qby,qeO,qcV,qkZ,qq4,quL,qdN,qaT,gOk,hGr,hGd]
 repeat' (first | with_reducible apply And.intro | with_reducible intro _)
 all_goals first
  | assumption
  | omega
  | exact ⟨M,L,h0⟩
  | exact qAw (by assumption) (by assumption) (by assumption)
  | exact q8W (by assumption) (by assumption) (by assumption) (by assumption)
  | exact qA9 (by assumption) (by assumption) (by assumption) (by assumption) (by assumption) (by assumption) (by assumption) (by assumption) (by assumption) (by assumption)
  | (rw [qAJ (by assumption) (by assumption) (by assumption) (by assumption) (by assumption) (by assumption) (by assumption) (by assumption) (by assumption) (by assumption) (by assumption)]; simp [*]; done)
  | exact (qnP (by assumption) h0).1
  | exact Int.le_trans (qnP (by assumption) h0).2.1 (by decide)
  | exact (qnP (by assumption) h0).2.2.2 _ (by assumption)
  | exact qAD (by assumption) (by assumption) (by assumption) (by assumption) (by assumption) (by assumption)
  | exact q98 (by assumption) (by have h:=qbZ 9 20 (by assumption) (by simp); simpa using h) (by assumption)
  | exact qgd (by assumption) (by have h:=qbZ 9 20 (by assumption) (by simp); simpa using h)
  | skip
 rename_i hst M1 L1 h1
 have hle:=qbZ 9 20 hst (by simp)
 have hRb:=qyF 43 5 45 44 kB hst (by simp [kB])
 have hRd:=qyF 40 24 42 41 k32 hst (by simp [k32])
 simp at hRb hRd hle
 exact q8L (J:=(Z 14).d) h1 hle (by assumption) (by assumption) (by assumption) (by assumption) hRb (by assumption) hRd (by assumption) (by omega) (by omega) p3 (by omega) hD hOm hml
set_option maxRecDepth 100000
@[simp] def qb8:T:=.rcons (.vint .u8 (tl 1)) (.rcons o8 (.rcons o8 (.rcons o8 (.rcons o8 (.rcons o8 (.rcons o8 (.rcons o8 (.rcons o8 (.rcons o8 (.rcons o8 (.rcons o8 (.rcons o8 (.rcons o8 (.rcons o8 (.rcons o8 (.rcons o8 (.rcons o8 (.rcons o8 (.rcons o8 (.rcons o8 (.rcons o8 (.rcons o8 (.rcons o8 (.rcons o8 (.rcons o8 (.rcons o8 (.rcons o8 (.rcons o8 (.rcons o8 (.rcons o8 (.rcons o8 .rnil)))))))))))))))))))))))))))))))
@[simp] def qgx:Sg:=sg 0 [bg 9 68,bv 8 67,bv 4 63,bv 3 62,bv 7 66,bv 6 65,bg 5 64,bg 2 61,bt 1 (s8 40),bg 0 39]
@[simp] def qnr:Sg:=sg 0 [bv 11 1,bv 9 28,bv 8 32,bv 7 28,bt 6 (tl 1),bg 5 27,bt 3 (tl 1),bt 2 (tl 1),bt 1 (tl 1),bt 0 (tl 1),bt 4 (r8 26),bg 10 0]
@[simp] def qnH:Sg:=sg 0 [bv 11 1,bt 9 (tl 1),bt 8 (.rcons (.vint .u8 (tl 120)) .rnil),bv 1 23,bt 7 (tl 1),bt 6 (tl 1),bg 5 24,bt 4 (tl 1),bt 3 (tl 1),bt 2 (tl 1),bg 0 22,bg 10 0]
@[simp] def qnc:Sg:=sg 0 [bv 27 1,bv 25 59,bv 24 60,bv 19 52,bv 18 53,bg 9 48,bv 8 47,bv 4 43,bv 3 42,bv 7 46,bv 6 45,bg 5 44,bg 2 41,bt 1 (r8 40),bv 23 59,bt 22 (.dlen (tv 60)),bg 21 58,bt 20 (.icell (tv 56) (tl 0) 0),bv 17 52,bt 16 (tl 1),bg 15 51,bt 13 (tl 1),bt 12 (tl 1),bt 11 (tl 1),bt 10 (tl 1),bt 14 (r8 50),bg 0 39,bg 26 0]
@[simp] def qoZ:Sg:=sg 0 [bv 3 1,bt 1 (tl 1),bt 0 qb8,bg 2 0]
@[simp] def qpO:Sg:=sg 0 [bv 3 1,bt 1 (tl 0),bt 0 qb8,bg 2 0]
@[simp] def qp5:Sg:=sg 0 [bv 3 1,bt 1 (tl 3),bt 0 qb8,bg 2 0]
@[simp] def qow:Sg:=sg 0 [bg 5 13,bv 4 12,bt 3 (tl 5),bt 2 (.icell (tv 6) (tl 0) 0),bt 1 qb8,bg 0 11]
@[simp] def qoR:Sg:=sg 0 [bv 9 1,bv 7 5,bv 6 6,bv 5 5,bt 4 (tl 2),bg 3 3,bt 2 (tl 2),bt 1 (.icell (tv 6) (tl 2) 0),bt 0 qb8,bg 8 0]
@[simp] def qp3:Sg:=sg 0 [bv 17 1,bt 15 (tl 0),bt 14 .dnil,bv 10 5,bv 9 6,bg 5 16,bv 4 12,bt 13 (tl 0),bt 12 (tl 0),(11,.nil),bv 8 5,bv 7 4,bg 6 3,bt 3 (tl 17),bt 2 (.icell (tv 6) (tl 1) 0),bt 1 qb8,bg 0 11,bg 16 0]
@[simp] def qqu:Sg:=sg 0 [bv 17 1,bt 15 (tl 0),bt 14 .dnil,bv 10 5,bv 9 6,bg 5 14,bv 4 12,bt 13 (tl 0),bt 12 (tl 0),(11,.nil),bv 8 5,bv 7 4,bg 6 3,bt 3 (tl 16),bt 2 (.icell (tv 6) (tl 1) 0),bt 1 qb8,bg 0 11,bg 16 0]
@[simp] def qqi:Sg:=sg 0 [bv 11 1,bt 6 (tl 3),bt 5 (.dapp (.rcons (.vint .i64 (tl 0)) .rnil) (.dapp (.rcons (.vint .i64 (tl 1)) .rnil) (.rcons (.vint .i64 (tl 2)) .rnil))),bt 9 (.bl false),bt 8 (.bl true),bt 7 (tl 3),bt 4 (tl 3),bt 3 (tl 3),bg 2 9,bt 1 (tl 3),bt 0 qb8,bg 10 0]
@[simp] def qoD:Sg:=sg 0 [bv 11 1,bt 6 (tl 3),bt 5 (.dapp (.rcons (.vint .i64 (tl 0)) .rnil) (.dapp (.rcons (.vint .i64 (tl 1)) .rnil) (.rcons (.vint .i64 (tl 2)) .rnil))),bt 9 (.bl false),bt 8 (.bl false),bt 7 (tl 3),bt 4 (tl 3),bt 3 (tl 3),bg 2 7,bt 1 (tl 1),bt 0 qb8,bg 10 0]
def qv5:Out:=(.fresh 2 (.pre 0 qp5 (.both (fr 3 4 (.post 0 0 qp5 3 (.need (.cmp .leq (tl 0) (tv 4)) (.br (.cmp .neq (tv 4) (tl 3))
 (.stuck 7 0 0)
 (.fresh 7 (.pre 1 qoD (.both (.fresh 8 (.post 1 0 qoD 8 (.br (.cmp .neq (tv 8) (tl 1))
 (.stuck 7 0 0)
 (.fresh 9 (.pre 1 qqi (.both (.fresh 10 (.post 1 0 qqi 10 (.br (.cmp .neq (tv 10) (tl 2))
 (.stuck 7 0 0)
 (.pre 2 (sg 0 []) (.both (fr 11 3 (.post 2 0 (sg 0 []) 11 (.need (.cmp .lss (tl 0) (tv 4)) (.need (.cmp .lss (tl 0) (.dlen (tv 6))) (.both (.pre 3 qow (.both (.fresh 14 (.post 3 0 qow 14 (.need (.cmp .lss (tl 1) (tv 4)) (.need (.cmp .lss (tl 1) (.dlen (tv 6))) (.both (.pre 4 qqu (.both (fr 15 2 (.post 4 0 qqu 15 (.br (.not (tv 15))
 (.both (.both (.both (.both (.stuck 7 0 0) .top) .top) .top) .top)
 (.both (.pre 4 qp3 (.both (fr 17 2 (.post 4 0 qp3 17 (.br (tv 17)
 (.both (.both (.both (.stuck 7 0 0) .top) .top) .top)
 (.need (.cmp .lss (tl 2) (tv 4)) (.need (.cmp .lss (tl 2) (.dlen (tv 6))) (.know (.cmp .leq (.dlen (tv 6)) (tv 5)) (.need (.cmp .leq (tl 0) (tv 5)) (.need (.cmp .leq (tl 2) (tv 5)) (.both (.pre 5 qoR (.both (.fresh 19 (.post 5 0 qoR 19 (.br (.not (tv 19))
 (.both (.both (.stuck 7 0 0) .top) .top)
 (.both (.pre 6 qpO (.both (.fresh 20 (.post 6 0 qpO 20 (.both (.pre 6 qoZ (.both (.fresh 21 (.post 6 0 qoZ 21 (.br (.c2 .req (r8 20) (r8 21))
 (.stuck 7 0 0)
 (.pre 7 (sg 0 []) (.both (fr 22 2 (.post 7 0 (sg 0 []) 22 (fr 24 2 (.pre 8 qnH (.both (fr 26 9 (.post 8 0 qnH 26 (.fresh 35 (.pre 9 qnr (.both (fr 36 2 (.post 9 0 qnr 36 (.fresh 38 (.both (.pre 10 (sg 0 [bt 0 (r8 36)]) (.both (.fresh 39 (.post 10 0 (sg 0 [bt 0 (r8 36)]) 39 (.pack [.cells 38 24 [(x8 0 36),(x8 1 36),(x8 2 36),(x8 3 36),(x8 4 36),(x8 5 36),(x8 6 36),(x8 7 36),(x8 8 36),(x8 9 36),(x8 10 36),(x8 11 36),(x8 12 36),(x8 13 36),(x8 14 36),(x8 15 36),(x8 16 36),(x8 17 36),(x8 18 36),(x8 19 36),(x8 20 36),(x8 21 36),(x8 22 36),(x8 23 36),(x8 24 36),(x8 25 36),(x8 26 36),(x8 27 36),(x8 28 36),(x8 29 36),(x8 30 36),(x8 31 36)],.arr 22 151 [CK.int .u32,CK.int .i32,CK.int .u32,CK.int .u8,CK.int .u8,CK.int .u8,CK.int .u8,CK.int .u8,CK.int .u8,CK.int .u8,CK.int .u8,CK.int .u8,CK.int .u8,CK.int .u8,CK.int .u8,CK.int .u8,CK.int .u8,CK.int .u8,CK.int .u8,CK.int .u8,CK.int .u8,CK.int .u8,CK.int .u8,CK.int .u8,CK.int .u8,CK.int .u8,CK.int .u8,CK.int .u8,CK.int .u8,CK.int .u8,CK.int .u8,CK.int .u8,CK.int .u8,CK.int .u8,CK.int .u8,CK.int .u8,CK.int .u8,CK.int .u8,CK.int .u8,CK.int .u8,CK.int .u8,CK.int .u8,CK.int .u8,CK.int .u8,CK.int .u8,CK.int .u8,CK.int .u8,CK.int .u8,CK.int .u8,CK.int .u8,CK.int .u8,CK.int .u8,CK.int .u8,CK.int .u8,CK.int .u8,CK.int .u8,CK.int .u8,CK.int .u8,CK.int .u8,CK.int .u8,CK.int .u8,CK.int .u8,CK.int .u8,CK.int .u8,CK.int .u8,CK.int .u8,CK.int .u8,CK.int .u8,CK.int .u8,CK.int .u8,CK.int .u8,CK.int .u8,CK.int .u8,CK.int .u8,CK.int .u8,CK.int .u8,CK.int .u8,CK.int .u8,CK.int .u8,CK.int .u8,CK.int .u8,CK.int .u8,CK.int .u8,CK.int .u8,CK.int .u8,CK.int .u8,CK.int .u8,CK.int .u8,CK.int .u8,CK.int .u8,CK.int .u8,CK.int .u8,CK.int .u8,CK.int .u8,CK.int .u8,CK.int .u8,CK.int .u8,CK.int .u8,CK.int .u8,CK.int .u8,CK.int .u8,CK.int .u8,CK.int .u8,CK.int .u8,CK.int .u8,CK.int .u8,CK.int .u8,CK.int .u8,CK.int .u8,CK.int .u8,CK.int .u8,CK.int .u8,CK.int .u8,CK.int .u8,CK.int .u8,CK.int .u8,CK.int .u8,CK.int .u8,CK.int .u8,CK.int .u8,CK.int .u8,CK.int .u8,CK.int .u8,CK.int .u8,CK.int .u8,CK.int .u8,CK.int .u8,CK.int .u8,CK.int .u8,CK.int .u8,CK.int .u8,CK.int .u8,CK.int .u8,CK.int .u8,CK.int .u8,CK.int .u8,CK.int .u8,CK.int .u8,CK.int .u8,CK.int .u8,CK.int .u8,CK.int .u8,CK.int .u8,CK.int .u8,CK.int .u8,CK.int .u8,CK.int .u8,CK.int .u8,CK.int .u8,CK.int .u8,CK.int .u8,CK.int .u8,CK.int .u8,CK.int .u8,CK.int .u8,CK.int .u8,CK.int .u8,CK.int .u8,CK.int .u8,CK.int .u8,CK.int .u8,CK.int .u8,CK.int .u8,CK.int .u8,CK.int .u8,CK.int .u8,CK.int .u8,CK.int .u8,CK.int .u8,CK.int .u8,CK.int .u8,CK.int .u8,CK.int .u8,CK.int .u8,CK.int .u8,CK.int .u8,CK.int .u8,CK.int .u8,CK.int .u8,CK.int .u8,CK.int .u8,CK.int .u8,CK.int .u8,CK.int .u8,CK.int .u8,CK.int .u8,CK.int .u8,CK.int .u8,CK.int .u8,CK.int .u8,CK.int .u8,CK.int .u8,CK.int .u8,CK.int .u8,CK.int .u8,CK.int .u8,CK.int .u8,CK.int .u8,CK.int .u8,CK.int .u8,CK.int .u8,CK.int .u8,CK.int .u8,CK.int .u8,CK.int .u8,CK.int .u8,CK.int .u8,CK.int .u8,CK.int .u8,CK.int .u8,CK.int .u8,CK.int .u8,CK.int .u8,CK.int .u8,CK.int .u8,CK.int .u8,CK.int .u8,CK.int .u8,CK.int .u8,CK.int .u8,CK.int .u8,CK.int .u8,CK.int .u8,CK.int .u8,CK.int .u8,CK.int .u8,CK.int .u8,CK.int .u8,CK.int .u8,CK.int .u8,CK.int .u8,CK.int .u8,CK.int .u8,CK.int .u8,CK.int .u8,CK.int .u8,CK.int .u8,CK.int .u8,CK.int .u8,CK.int .u8,CK.int .u8,CK.int .u8,CK.int .u8,CK.int .u8,CK.int .u8,CK.int .u8,CK.int .u8,CK.int .u8,CK.int .u8,CK.int .u8,CK.int .u8,CK.int .u8,CK.int .u8,CK.int .u8,CK.int .u8,CK.int .u8,CK.int .u8,CK.int .u8,CK.int .u8,CK.int .u8,CK.int .u8,CK.int .u8,CK.int .u8,CK.int .u8,CK.int .u8,CK.int .u8,CK.int .u8,CK.int .u8,CK.int .u8,CK.int .u8,CK.int .u8,CK.int .u8,CK.int .u8,CK.int .u8,CK.int .u8,CK.int .u8,CK.int .u8,CK.int .u8,CK.int .u8,CK.int .u8,CK.int .u8,CK.int .u8,CK.int .u8,CK.int .u8,CK.int .u8,CK.int .u8,CK.int .u8,CK.int .u8,CK.int .u8,CK.int .u8,CK.int .u8,CK.int .u8,CK.int .u8,CK.int .u8,CK.int .u8,CK.int .u8,CK.int .u8,CK.int .u8,CK.int .u8,CK.int .u8,CK.int .u8,CK.int .u8,CK.int .u8,CK.int .u8,CK.int .u8,CK.int .u8,CK.int .u8,CK.int .u8,CK.int .u8,CK.int .u8,CK.int .u8,CK.int .u8,CK.int .u8,CK.int .u8,CK.int .u8,CK.int .u8,CK.int .u8,CK.int .u8,CK.int .u8,CK.int .u8,CK.int .u8,CK.int .u8,CK.int .u8,CK.int .u8,CK.int .u8,CK.int .u8,CK.int .u8,CK.int .u8,CK.int .u8,CK.int .u8,CK.int .u8,CK.int .u8,CK.int .u8,CK.int .u8,CK.int .u8,CK.int .u8,CK.int .u8,CK.int .u8,CK.int .u8,CK.int .u8,CK.int .u8,CK.int .u8,CK.int .u8,CK.int .u8,CK.int .u8,CK.int .u8,CK.int .u8,CK.int .u8,CK.int .u8,CK.int .u8,CK.int .u8,CK.int .u8,CK.int .u8,CK.int .u8,CK.int .u8,CK.int .u8,CK.int .u8,CK.int .u8,CK.int .u8,CK.int .u8,CK.int .u8,CK.int .u8,CK.int .u8,CK.int .u8,CK.int .u8,CK.int .u8,CK.int .u8,CK.int .u8,CK.int .u8,CK.int .u8,CK.int .u8,CK.int .u8,CK.int .u8,CK.int .u8,CK.int .u8,CK.int .u8,CK.int .u8,CK.int .u8,CK.int .u8,CK.int .u8,CK.int .u8,CK.int .u8,CK.int .u8,CK.int .u8,CK.int .u8,CK.int .u8,CK.int .u8,CK.int .u8,CK.int .u8,CK.int .u8,CK.int .u8,CK.int .u8,CK.int .u8,CK.int .u8,CK.int .u8,CK.int .u8,CK.int .u8,CK.int .u8,CK.int .u8,CK.int .u8,CK.int .u8,CK.int .u8,CK.int .u8,CK.int .u8,CK.int .u8,CK.int .u8,CK.int .u8,CK.int .u8,CK.int .u8,CK.int .u8,CK.int .u8,CK.int .u8,CK.int .u8,CK.int .u8,CK.int .u8,CK.int .u8,CK.int .u8,CK.int .u8,CK.int .u8,CK.int .u8,CK.int .u8,CK.int .u8,CK.int .u8,CK.int .u8,CK.int .u8,CK.int .u8,CK.int .u8,CK.int .u8,CK.int .u8,CK.int .u8,CK.int .u8,CK.int .u8,CK.int .u8,CK.int .u8,CK.int .u8,CK.int .u8,CK.int .u8,CK.int .u8,CK.int .u8,CK.int .u8,CK.int .u8,CK.int .u8,CK.int .u8,CK.int .u8,CK.int .u8,CK.int .u8,CK.int .u8,CK.int .u8,CK.int .u8,CK.int .u8,CK.int .u8,CK.int .u8,CK.int .u8,CK.int .u8,CK.int .u8,CK.int .u8,CK.int .u8,CK.int .u8,CK.int .u8,CK.int .u8,CK.int .u8,CK.int .u8,CK.int .u8,CK.int .u8,CK.int .u8,CK.int .u8,CK.int .u8,CK.int .u8,CK.int .u8,CK.int .u8,CK.int .u8,CK.int .u8,CK.int .u8,CK.int .u8,CK.int .u8,CK.int .u8,CK.int .u8,CK.int .u8,CK.int .u8,CK.int .u8,CK.int .u8,CK.int .u8,CK.int .u8,CK.int .u8,CK.int .u8,CK.int .u8,CK.int .u8,CK.int .u8,CK.int .u8,CK.int .u8,CK.int .u8,CK.int .u8,CK.int .u8,CK.int .u8,CK.int .u8,CK.int .u8,CK.int .u8,CK.int .u8,CK.int .u8,CK.int .u8,CK.int .u8,CK.int .u8,CK.int .u8,CK.int .u8,CK.int .u8,CK.int .u8,CK.int .u8,CK.int .u8,CK.int .u8,CK.int .u8,CK.int .u8,CK.int .u8,CK.int .u8,CK.int .i64,CK.int .i64,CK.int .i64,CK.int .i64,CK.int .i64,CK.int .i64,CK.int .i64,CK.int .i64,CK.int .i64,CK.int .i64,CK.int .i64,CK.int .i64,CK.int .i64,CK.int .i64,CK.int .i64,CK.int .i64,CK.int .i64,CK.int .i64,CK.int .i64,CK.int .i64,CK.int .i64,CK.int .i64,CK.int .i64,CK.int .i64,CK.int .i64,CK.int .i64,CK.int .i64,CK.int .i64,CK.int .i64,CK.int .i64,CK.int .i64,CK.int .i64,CK.int .i64,CK.int .i64,CK.int .i64,CK.int .i64,CK.int .i64,CK.int .i64,CK.int .i64,CK.int .i64,CK.int .i64,CK.int .i64,CK.int .i64,CK.int .i64,CK.int .i64,CK.int .i64,CK.int .i64,CK.int .i64,CK.int .i64,CK.int .i64,CK.int .i64,CK.int .i64,CK.int .i64,CK.int .i64,CK.int .i64,CK.int .i64,CK.int .i64,CK.int .i64,CK.int .i64,CK.int .i64,CK.int .i64,CK.int .i64,CK.int .i64,CK.int .i64,CK.int .i64,CK.int .i64,CK.int .i64,CK.int .i64,CK.int .i64,CK.int .i64,CK.int .i64,CK.int .i64,CK.int .i64,CK.int .i64,CK.int .i64,CK.int .i64,CK.int .i64,CK.int .i64,CK.int .i64,CK.int .i64,CK.int .i64,CK.int .i64,CK.int .i64,CK.int .i64,CK.int .i64,CK.int .i64,CK.int .i64,CK.int .i64,CK.int .i64,CK.int .i64,CK.int .i64,CK.int .i64,CK.int .i64,CK.int .i64,CK.int .i64,CK.int .i64,CK.int .i64,CK.int .i64,CK.int .i64,CK.int .i64,CK.int .i64,CK.int .i64,CK.int .i64,CK.int .i64,CK.int .i64,CK.int .i64,CK.int .i64,CK.int .i64,CK.int .i64,CK.int .i64,CK.int .i64,CK.int .i64,CK.int .i64,CK.int .i64,CK.int .i64,CK.int .i64,CK.int .i64,CK.int .i64,CK.int .i64,CK.int .i64,CK.int .i64,CK.int .i64,CK.int .i64,CK.int .i64,CK.int .i64,CK.int .i64,CK.int .i64,CK.int .i64,CK.int .i64,CK.int .i64,CK.int .i64,CK.int .i64,CK.int .i64,CK.int .i64,CK.int .i64,CK.int .i64,CK.int .i64,CK.int .i64,CK.int .i64,CK.int .i64,CK.int .i64,CK.int .i64,CK.int .i64,CK.int .i64,CK.int .i64,CK.int .i64,CK.int .i64,CK.int .i64,CK.int .i64,CK.int .i64,CK.int .i64,CK.int .i64,CK.int .i64,CK.int .i64,CK.int .i64,CK.int .i64,CK.int .i64,CK.int .i64,CK.int .i64,CK.int .i64,CK.int .i64,CK.int .i64,CK.int .i64,CK.int .i64,CK.int .i64,CK.int .i64,CK.int .i64,CK.int .i64,CK.int .i64,CK.int .i64,CK.int .i64,CK.int .i64,CK.int .i64,CK.int .i64,CK.int .i64,CK.int .i64,CK.int .i64,CK.int .i64,CK.int .i64,CK.int .i64,CK.int .i64,CK.int .i64,CK.int .i64,CK.int .i64,CK.int .i64,CK.int .i64,CK.int .i64,CK.int .i64,CK.int .i64,CK.int .i64,CK.int .i64,CK.int .i64,CK.int .i64,CK.int .i64,CK.int .i64,CK.int .i64,CK.int .i64,CK.int .i64,CK.int .i64,CK.int .i64,CK.int .i64,CK.int .i64,CK.int .i64,CK.int .i64,CK.int .i64,CK.int .i64,CK.int .i64,CK.int .i64,CK.int .i64,CK.int .i64,CK.int .i64,CK.int .i64,CK.int .i64,CK.int .i64,CK.int .i64,CK.int .i64,CK.int .i64,CK.int .i64,CK.int .i64,CK.int .i64,CK.int .i64,CK.int .i64,CK.int .i64,CK.int .i64,CK.int .i64,CK.int .i64,CK.int .i64,CK.int .i64,CK.int .i64,CK.int .i64,CK.int .i64,CK.int .i64,CK.int .i64,CK.int .i64,CK.int .i64,CK.int .i64,CK.int .i64,CK.int .i64,CK.int .i64,CK.int .i64,CK.int .i64,CK.int .i64,CK.int .i64,CK.int .i64,CK.int .i64,CK.int .i64,CK.int .i64,CK.int .i64,CK.int .i64,CK.int .i64,CK.int .i64,CK.int .i64,CK.int .i64,CK.int .i64,CK.int .i64,CK.int .i64] (tv 31) (tl 1),.cells 11 179 [(tv 12)],.cells 9 3 [(.vint .i64 (tl 0)),(.vint .i64 (tl 1)),(.vint .i64 (tl 2))],.cells 7 3 [(.vint .i64 (tl 0)),(.vint .i64 (tl 1)),(.vint .i64 (tl 2))],.arr 3 3 [CK.int .i64] (tv 6) (tv 5),.cells 2 24 [(.vint .u8 (tl 1)),o8,o8,o8,o8,o8,o8,o8,o8,o8,o8,o8,o8,o8,o8,o8,o8,o8,o8,o8,o8,o8,o8,o8,o8,o8,o8,o8,o8,o8,o8,o8]] 40 (.cut 0 39 (sg 1000 [bg 1018 34,bv 1017 33,bv 1014 32,bv 1013 28,bg 1012 27,bt 1011 (r8 26),bg 1009 40,bt 1008 .dnil,bt 1004 (tl 0),bt 1003 .dnil,bt 1007 (tl 0),bt 1006 (tl 0),(1005,.nil),(1002,.nil),bt 1001 (s8 36),bg 1000 39,bv 1016 30,bg 1015 29,bg 1010 35]))))) .top)) (fr 39 19 (.hyp 0 39 (.need (.cmp .lss (tl 0) (.dlen (tv 56))) (.both (.viewL (.vcell (tv 56) (tl 0) 1) [CK.int .u8] [57] 58 (.pre 11 qnc (.both (fr 61 9 (.post 11 0 qnc 61 (.both (.both (.both (.br (.cmp .eql (tv 69) (tl 0))
 (.both (.both (.pre 12 qgx (.both (.fresh 70 (.post 12 0 qgx 70 (.both (.both (.br (tv 70)
 (.both (.both (.pre 13 qgx (.both (fr 71 4 (.post 13 0 qgx 71 (.both (.need (.cmp .leq (tl 0) (tv 72)) (.both (.both (.both (.need (.beq (.bl true) (.cmp .eql (tv 72) (tl 1))) (.ret 0 (sg 2 []))) .top) .top) .top)) .top))) .top)) .top) .top)
 (.both (.both (.both (.both (.both (.both (.stuck 7 0 0) .top) .top) .top) .top) .top) .top)) .top) .top))) .top)) .top) .top)
 (.both (.both (.both (.both (.both (.both (.both (.both (.both (.both (.stuck 7 0 0) .top) .top) .top) .top) .top) .top) .top) .top) .top) .top)) .top) .top) .top))) .top))) .top)))))))) .top))))) .top))))) .top))))) .top)) .top))) .top)) .top)))) .top)) .top))))))))) .top)) .top)))) .top)) .top))))) .top)) .top))))) .top))))) .top)))))) .top))))))) .top)))
theorem q3n:qn Tryz.prog qdo [qgi,qmH,qjz,qmM,qgb,qhf,qgG,qcp,qhS,idC,qf3,qfh,qcs,qis] [qya] qv5:=qh Tryz.func31 Tryz.call31 (by kernel_rfl)
def d1:List Int:=1 :: List.replicate 31 0
theorem qwq:qR d1 0 1 = true:=by decide +kernel
theorem qw8:qR d1 0 2 = true:=by decide +kernel
theorem qt5:qR d1 1 2 = true:=by decide +kernel
theorem q4G:¬ qO d1 0 = qO d1 1:=by decide +kernel
theorem qyx:qau d1 [0,1,2] = [0,1,2]:=by
 symm
 refine q0T ⟨List.Perm.refl _,?_⟩ (by decide)
 simp [qwq,qw8,qt5]
theorem qtS:qcl [0,1,2] = [0,1,2]:=by decide
theorem q7D:qkP d1 3 = [0,1,2]:=by
 have h:qfQ 3 = [0,1,2]:=by decide
 rw [qkP,h,qbl,qtS,qyx]; rfl
theorem qsq:qbl d1 [0,1,2] 3 = [0,1,2]:=by
 rw [qbl,qtS,qyx]; rfl
theorem q6w:qgw d1 1 [0,1,2] 3 false false = 1:=by simp [qgw,qsq]
theorem q5r:qgw d1 3 [0,1,2] 3 true false = 2:=by simp [qgw,qsq]
theorem q9v:qlY d1 2 2 [0,1] = true:=by
 have h:qcl [0,1] = [0,1]:=by decide
 rw [qlY,h]; simp [qw8,qt5]
def cl1:Cl:=qed (fun _ _=>none) d1 0 5
theorem q11:qdK cl1 d1 1 16 [0,1,2] [] = true:=by
 rw [qdK,jdy]
 refine ⟨0,by simp,?_⟩
 have h:cl1 d1 ((0:Nat):Int) = some 5:=by simp [cl1,qed]
 rw [h]
 simp [qwq,qkx]
theorem qz7:qdK cl1 d1 1 17 [0,1,2] [] = false:=by
 rw [qdK,jex]
 intro i _
 by_cases hi:i = 0
 ·subst hi
  have h:cl1 d1 ((0:Nat):Int) = some 5:=by simp [cl1,qed]
  rw [h]; simp [qkx]
 ·have h:cl1 d1 ((i:Nat):Int) = none:=by simp [cl1,qed,hi]
  rw [h]; simp
theorem q8b:qf [[Value.int .u8 1,.int .u8 0,.int .u8 0,.int .u8 0,.int .u8 0,.int .u8 0,.int .u8 0,.int .u8 0,.int .u8 0,.int .u8 0,.int .u8 0,.int .u8 0,.int .u8 0,.int .u8 0,.int .u8 0,.int .u8 0,.int .u8 0,.int .u8 0,.int .u8 0,.int .u8 0,.int .u8 0,.int .u8 0,.int .u8 0,.int .u8 0,.int .u8 0,.int .u8 0,.int .u8 0,.int .u8 0,.int .u8 0,.int .u8 0,.int .u8 0,.int .u8 0]] 32 = d1:=by rfl
theorem q88:qU d1:=by intro x hx; simp [d1] at hx; rcases hx with rfl | rfl <;> decide
theorem q4u {h:Hp}:qaR h none [] 0 0 [] none []:=by
 refine ⟨rfl,⟨rfl,?_,?_⟩,?_,by decide,.inl ⟨rfl,rfl,rfl,rfl,rfl⟩⟩
 ·intro j hj; exact absurd hj (jfc j)
 ·intro j hj; exact absurd hj (jfc j)
 ·intro x hx; cases hx
theorem qA8:(qbN 1 1).2.2 = 1:=by kernel_rfl
theorem q6l:qp [[Value.int .u8 120]]:=by intro row hr; simp at hr; subst hr; decide
set_option pp.funBinderTypes false
set_option format.width 2000
set_option format.indent 1
set_option maxRecDepth 20000 in
set_option maxHeartbeats 4000000 in
theorem qw7 (hd:∀ c ∈ ([qgi,qmH,qjz,qmM,qgb,qhf,qgG,qcp,qhS,idC,qf3,qfh,qcs,qis]:List Ctr),c.ok Tryz.prog):qdo.ok Tryz.prog:=q3n hd fun Z hg hp=>by
 obtain ⟨hGr,hGd⟩:=hp
 simp (config:={ maxSteps:=4000000 }) [qv5,qdo,qya,qgi,qmH,q6M,qjz,qmM,qgb,q6Q,qhf,q6x,qmN,qgG,qcp,qhS,qiA,idC,qm2,qtp,qf3,qfh,qvS,qcs,qis,qq4,quL,qdN,qaT,qmJ,qk7,qeO,qcV,qmP,qkZ,qbn,qca,qch,gaB,gOk,hGr,hGd,q8b,q88]
 have e012:qy [[Value.int IntKind.i64 0],[Value.int IntKind.i64 1],[Value.int IntKind.i64 2]] = [0,1,2]:=rfl
 intro _ _ l0 _ n _ c _ D _ hl
 obtain ⟨hn,hD,hrow⟩:=hl
 rw [q7D] at hD
 have hDl:D.d.length = 3:=by have:=congrArg List.length hD; simpa [qy] using this
 refine ⟨by omega,by omega,fun _ _ _ x5 _ h5=>?_⟩
 rw [e012,q6w] at h5
 refine ⟨h5,fun _ _ _ x6 _ h6=>?_⟩
 rw [e012,q5r] at h6
 refine ⟨h6,fun _ _ _ v _ H0 _ hc0=>⟨by omega,by omega,⟨_,hc0⟩,fun H1 _ hc1=>?_⟩⟩
 have g0:qb D.d 0 0 = 0:=by rw [qdr (d:=D.d) (by omega) (by omega),hD]; rfl
 have g1:qb D.d 1 0 = 1:=by rw [qdr (d:=D.d) (by omega) (by omega),hD]; rfl
 have g2:qb D.d 2 0 = 2:=by rw [qdr (d:=D.d) (by omega) (by omega),hD]; rfl
 have hcl:=hc1 _ hc0
 rw [g0] at hcl
 refine ⟨by omega,by omega,⟨⟨_,hcl⟩,by omega,by omega,hrow⟩,fun b1 _ H2 _ hb1=>?_⟩
 obtain ⟨hcl2,hb1⟩:=hb1 _ hcl
 rw [g1,hD] at hb1
 have hb1':b1.b = true:=hb1.trans q11
 refine ⟨hb1',fun _=>⟨⟨⟨_,hcl2⟩,by omega,by omega,hrow⟩,fun b2 _ H3 _ hb2=>?_⟩⟩
 obtain ⟨hcl3,hb2⟩:=hb2 _ hcl2
 rw [g1,hD] at hb2
 have hb2':b2.b = false:=hb2.trans qz7
 refine ⟨hb2',fun _=>⟨by omega,by omega,fun hcap=>⟨by omega,by omega,⟨by omega,hrow⟩,fun b3 _ hb3=>?_⟩⟩⟩
 rw [g2,hD] at hb3
 have hb3':b3.b = true:=hb3.trans q9v
 refine ⟨hb3',fun _ s0 _ hs0 s1 _ hs1=>?_⟩
 rw [hs0,hs1]
 refine ⟨q4G,fun _ _ _ fl _ hfl _ _ _ _=>⟨⟨⟨.inl hfl,q6l,fun _=>qA8⟩,by decide⟩,?_⟩⟩
 intro o _ _ _ f _ _ _ _ _ _ _ Ds _ P _ Hp _ _ _ hPl hE ho hDs hdg _ _
 have hDl1:Ds.d.length = 1:=by
  have:=congrArg List.length hdg
  rw [q0J] at this; simpa [dgs] using this
 have hoM:qU (qf o.d 32):=by rw [ho]; exact qcO _
 have hm1:qz 1 1 1 1 1 = true:=by decide
 refine ⟨⟨by omega,hoM,hDs⟩,fun ID _ e _ hid gn _=>⟨fun _ _ _ _ _=>?_,?_⟩⟩
 ·obtain ⟨q1,q2⟩:=q8Y hE
  refine ⟨q4u,hoM,hDs,hDl1,hPl,q1,(q2 0 (by decide)).1,?_,?_⟩
  ·exact qom (data:=[120]) hm1 (by intro x hx; simp at hx; subst hx; exact ⟨by decide,by decide⟩) rfl hdg (by decide) (by decide) (q2 0 (by decide)).2
  ·rcases hid with ⟨h,_⟩ | ⟨_,_,h⟩
   ·exact absurd h (by decide)
   ·exact h
 intro ar _ id _ mr _ mp _ mc _ pr _ pl _ pq _ pd _ gh _ bm _ om _ dr _ dq _ dd _ br _ bq _ bp _ bh _ hga hom hdd hdl hbl hpk hpi hck hid2
 obtain ⟨v0,B0,eP,hv,hRd,hB,hpd⟩:=qto hpk (j:=0) (by decide)
 obtain ⟨_,_,_,hlen,hsum⟩:=qi2 hck
 have hB1:B0.length = 1:=by rw [hpd,bI_len] at hlen; rw [show qd0 1 1 = 1 from rfl] at hlen; omega
 have hci:qb bp.d 0 0 = 0:=hpi
 have hidM:qU (qf id.d 32):=by rw [hid2]; exact qcO _
 have hck':qbO 1 1 1 1 1 (dgs dd.d) 0 (bI B0) = 0:=by rw [<- hpd]; exact hck
 have hddl:(dgs dd.d).length = 1:=by simpa [dgs] using hdl
 have hoff:qeJ (qf id.d 32) none [] { k:=1,n:=1,t:=1,s:=1,o:=qf om.d 32,D:=dgs dd.d } 0 (bI B0) = 0:=by
  have hok:ManV.ok { k:=1,n:=1,t:=1,s:=1,o:=qf om.d 32,D:=dgs dd.d } = true:=by simp only [ManV.ok,hddl]; decide
  have hbt:sha (ManV.bytes { k:=1,n:=1,t:=1,s:=1,o:=qf om.d 32,D:=dgs dd.d }) = qf id.d 32:=hid2.symm
  rw [qeJ,jaf (by rw [hok]; decide),jaf (fun h=>h hbt)]
  simp [hddl,hck',qaz]
 refine ⟨by omega,B0,by rw [show (0:Int) = ((0:Nat):Int) from rfl,hv]; exact hRd,?_⟩
 rw [hci]
 intro vr _ vc _ _ hcap
 refine ⟨⟨⟨_,_,hga⟩,hidM,⟨hom,by omega,hdd⟩,by decide,⟨by omega,by omega,hB⟩,by omega⟩,?_⟩
 intro _ _ _ _ _ _ _ _ _ _ _ _ _ _ _ _ oe _ hofr
 obtain ⟨he0,hga2⟩:=hofr _ _ hga
 rw [hoff] at he0
 rw [jah he0,jah he0] at hga2
 refine ⟨fun _=>⟨⟨_,_,hga2⟩,fun rb _ hrb=>?_⟩,he0⟩
 have hr1:=hrb _ _ hga2
 have hr2:rb.b = true:=by rw [hr1]; rfl
 refine ⟨fun _=>⟨⟨_,_,hga2⟩,fun _ _ il _ _ _ di _ hi=>?_⟩,hr2⟩
 obtain ⟨hi1,hi2,_⟩:=hi _ _ hga2
 have hdi:di.d.length = 1:=by
  have:=congrArg List.length hi2
  rw [qc5] at this; simpa using this
 exact ⟨by omega,by omega,trivial⟩
theorem qpk:qdq.ok Tryz.prog:=q3B q7O
theorem q2o:qdo.ok Tryz.prog:=qw7 (by simp [q09 qpk,q70 qpk,q6y,q8n,q06,q81,qtL,qn3,qvB,qzx,qtC,quA,qkN,qy3])
def q2L:Out:=(.need (.cmp .neq (tv 1) (tl 0)) (.br (.cmp .lss (.arith .rem .i64 (tv 0) (tv 1)) (tl 0))
 (.ret 0 (sg 2 [bt 2 (.arith .add .i64 (.arith .rem .i64 (tv 0) (tv 1)) (tv 1))]))
 (.ret 0 (sg 2 [bt 2 (.arith .rem .i64 (tv 0) (tv 1))]))))
theorem q8d:qn Tryz.prog qmW [] [] q2L:=qh Tryz.func36 Tryz.call36 (by kernel_rfl)
section
variable {o:List Int} {p n:Int} {H F:List Bool} {G:List (List Int)} {N:List (Int × Int)} {r:Bool}
end
section
variable {h0 H:Hp} {v it mv it2:Value} {kd:List Int} {clock:Int} {cl cl1:Cl} {b c b' c':Nat} {l m:List ME} {seen seen2:List Nat} {e:ME}
end
section
variable {h0 H:Hp} {v it:Value} {o L:List Int} {cl:Cl}
end
end Go.Proofs
namespace Go.Proofs
open Go Go.Eng
section
variable {o:List Int} {p n k:Int} {h h':Hp} {dH dF dG dN:qd} {nN:Int} {r:Bool} {a b:Int}
end
set_option maxRecDepth 20000
theorem q7K:qmW.ok Tryz.prog:=q8d (by simp) fun Z hg hp=>by
 obtain ⟨h1,h2⟩:=hp
 simp (config:={ maxSteps:=4000000 }) [q2L,qmW]
 have e:qe .rem .i64 (Z 0).i (Z 1).i = Int.tmod (Z 0).i (Z 1).i:=rfl
 have hm:Int.tmod (Z 0).i (Z 1).i < (Z 1).i:=jd7 _ (by omega)
 have hm2:-(Z 1).i < Int.tmod (Z 0).i (Z 1).i:=by
  have:=jd7 (-(Z 0).i) (show 0 < (Z 1).i by omega)
  rw [Int.neg_tmod] at this; omega
 have hd:(Z 0).i % (Z 1).i = Int.tmod (Z 0).i (Z 1).i % (Z 1).i:=by
  conv=>lhs; rw [<- Int.mul_tdiv_add_tmod (Z 0).i (Z 1).i,Int.add_comm,Int.add_mul_emod_self_left]
 rw [e]
 refine ⟨by omega,fun h=>?_,fun h=>?_⟩
 ·rw [add64 (by omega) (by omega),hd,<- Int.add_emod_right,Int.emod_eq_of_lt (by omega) (by omega)]
 ·rw [hd,Int.emod_eq_of_lt (by omega) (by omega)]
set_option maxRecDepth 100000
def q2m:Out:=(fr 16 5 (.need (.cmp .leq (tl 0) (tv 6)) (.need (.cmp .leq (tv 6) (.dlen (tv 8))) (.need (.cmp .leq (.tims (tl 32) (tv 6)) (tl 140737488355328)) (fr 21 3 (.need (.cmp .leq (tl 0) (tv 12)) (.need (.cmp .leq (tv 12) (.dlen (tv 14))) (.need (.cmp .leq (.tims (tl 1) (tv 12)) (tl 140737488355328)) (fr 24 2 (.both (.both (.ret 0 (sg 16 [bt 21 (.dtake (tv 14) (tv 12)),bt 20 (.dtake (tv 8) (tv 6)),bv 19 25,bg 18 24,bv 17 22,bg 16 21])) .top) .top))))))))))
theorem q7H:qn Tryz.prog qmS [] [] q2m:=qh Tryz.func49 Tryz.call49 (by kernel_rfl)
set_option maxRecDepth 20000
theorem q71:qmS.ok Tryz.prog:=q7H (by simp) fun Z hg hp=>by
 obtain ⟨h0,h1,h2,h3⟩:=hp
 simp (config:={ maxSteps:=2000000 }) [q2m,qmS,qmJ,qeO,qdN,qaT]
 exact ⟨by omega,by omega,by omega,by omega,by omega,by omega,jar (by omega),jar (by omega)⟩
end Go.Proofs
namespace Go.Proofs
open Go Go.Eng
def q75 (d:qd) (i:Int):List Value:=(qmZ d i).map (Value.int .u8) ++ [.int .i64 (qb d i 32),.int .u64 (qb d i 33)]
def q5f (d:qd) (a b:Int):List Value:=(qf d 32).map (Value.int .u8) ++ [.int .i64 a,.int .u64 b]
@[simp high] theorem qAx (d:qd) (i:Int):([.int .u8 (qb d i 0),.int .u8 (qb d i 1),.int .u8 (qb d i 2),.int .u8 (qb d i 3),.int .u8 (qb d i 4),.int .u8 (qb d i 5),.int .u8 (qb d i 6),.int .u8 (qb d i 7),.int .u8 (qb d i 8),.int .u8 (qb d i 9),.int .u8 (qb d i 10),.int .u8 (qb d i 11),.int .u8 (qb d i 12),.int .u8 (qb d i 13),.int .u8 (qb d i 14),.int .u8 (qb d i 15),.int .u8 (qb d i 16),.int .u8 (qb d i 17),.int .u8 (qb d i 18),.int .u8 (qb d i 19),.int .u8 (qb d i 20),.int .u8 (qb d i 21),.int .u8 (qb d i 22),.int .u8 (qb d i 23),.int .u8 (qb d i 24),.int .u8 (qb d i 25),.int .u8 (qb d i 26),.int .u8 (qb d i 27),.int .u8 (qb d i 28),.int .u8 (qb d i 29),.int .u8 (qb d i 30),.int .u8 (qb d i 31),.int .i64 (qb d i 32),.int .u64 (qb d i 33)]:List Value) = q75 d i:=rfl
@[simp high] theorem qAn (d:qd) (a b:Int):([.int .u8 (qa d 0),.int .u8 (qa d 1),.int .u8 (qa d 2),.int .u8 (qa d 3),.int .u8 (qa d 4),.int .u8 (qa d 5),.int .u8 (qa d 6),.int .u8 (qa d 7),.int .u8 (qa d 8),.int .u8 (qa d 9),.int .u8 (qa d 10),.int .u8 (qa d 11),.int .u8 (qa d 12),.int .u8 (qa d 13),.int .u8 (qa d 14),.int .u8 (qa d 15),.int .u8 (qa d 16),.int .u8 (qa d 17),.int .u8 (qa d 18),.int .u8 (qa d 19),.int .u8 (qa d 20),.int .u8 (qa d 21),.int .u8 (qa d 22),.int .u8 (qa d 23),.int .u8 (qa d 24),.int .u8 (qa d 25),.int .u8 (qa d 26),.int .u8 (qa d 27),.int .u8 (qa d 28),.int .u8 (qa d 29),.int .u8 (qa d 30),.int .u8 (qa d 31),.int .i64 a,.int .u64 b]:List Value) = q5f d a b:=rfl
theorem qrg {d:qd} {n:Int} {l:List Int} (h:qby d n l):n = (l.length:Int):=by rw [h.1,<- h.2.1]; simp [qy]
@[simp] def qr1:Sg:=sg 0 [bv 19 13,bg 17 9,bv 16 7,bv 15 8,bv 11 16,bv 10 17,bv 1 11,bv 14 7,bv 13 6,bg 12 5,bv 9 16,bt 8 (.dlen (tv 17)),bg 7 15,bt 5 (.icell (tv 3) (tl 0) 3),bt 4 (.icell (tv 3) (tl 0) 2),bt 3 (.icell (tv 3) (tl 0) 1),bt 2 (.icell (tv 3) (tl 0) 0),bt 6 (.rcons (.vint .u8 (.icell (tv 3) (tl 0) 4)) (.rcons (.vint .u8 (.icell (tv 3) (tl 0) 5)) (.rcons (.vint .u8 (.icell (tv 3) (tl 0) 6)) (.rcons (.vint .u8 (.icell (tv 3) (tl 0) 7)) (.rcons (.vint .u8 (.icell (tv 3) (tl 0) 8)) (.rcons (.vint .u8 (.icell (tv 3) (tl 0) 9)) (.rcons (.vint .u8 (.icell (tv 3) (tl 0) 10)) (.rcons (.vint .u8 (.icell (tv 3) (tl 0) 11)) (.rcons (.vint .u8 (.icell (tv 3) (tl 0) 12)) (.rcons (.vint .u8 (.icell (tv 3) (tl 0) 13)) (.rcons (.vint .u8 (.icell (tv 3) (tl 0) 14)) (.rcons (.vint .u8 (.icell (tv 3) (tl 0) 15)) (.rcons (.vint .u8 (.icell (tv 3) (tl 0) 16)) (.rcons (.vint .u8 (.icell (tv 3) (tl 0) 17)) (.rcons (.vint .u8 (.icell (tv 3) (tl 0) 18)) (.rcons (.vint .u8 (.icell (tv 3) (tl 0) 19)) (.rcons (.vint .u8 (.icell (tv 3) (tl 0) 20)) (.rcons (.vint .u8 (.icell (tv 3) (tl 0) 21)) (.rcons (.vint .u8 (.icell (tv 3) (tl 0) 22)) (.rcons (.vint .u8 (.icell (tv 3) (tl 0) 23)) (.rcons (.vint .u8 (.icell (tv 3) (tl 0) 24)) (.rcons (.vint .u8 (.icell (tv 3) (tl 0) 25)) (.rcons (.vint .u8 (.icell (tv 3) (tl 0) 26)) (.rcons (.vint .u8 (.icell (tv 3) (tl 0) 27)) (.rcons (.vint .u8 (.icell (tv 3) (tl 0) 28)) (.rcons (.vint .u8 (.icell (tv 3) (tl 0) 29)) (.rcons (.vint .u8 (.icell (tv 3) (tl 0) 30)) (.rcons (.vint .u8 (.icell (tv 3) (tl 0) 31)) (.rcons (.vint .u8 (.icell (tv 3) (tl 0) 32)) (.rcons (.vint .u8 (.icell (tv 3) (tl 0) 33)) (.rcons (.vint .u8 (.icell (tv 3) (tl 0) 34)) (.rcons (.vint .u8 (.icell (tv 3) (tl 0) 35)) .rnil)))))))))))))))))))))))))))))))),bg 0 10,bg 18 12]
def qxU:Out:=(.pre 0 (sg 0 [bg 9 9,bv 8 8,bv 4 4,bv 3 3,bv 7 7,bv 6 6,bg 5 5,bg 2 2,bt 1 (r8 1),bg 0 0]) (.both (.fresh 14 (.post 0 0 (sg 0 [bg 9 9,bv 8 8,bv 4 4,bv 3 3,bv 7 7,bv 6 6,bg 5 5,bg 2 2,bt 1 (r8 1),bg 0 0]) 14 (.br (.cmp .neq (tv 14) (tl 0))
 (.ret 0 (sg 14 [bt 16 (tl 0),bt 17 .dnil,bv 19 11,bv 18 14,bt 20 (tl 0),bt 15 (tl 0),(14,.nil)]))
 (.need (.cmp .lss (tl 0) (.dlen (tv 3))) (.both (.viewL (.vcell (tv 3) (tl 0) 36) [CK.int .u8,CK.int .u8,CK.int .u8,CK.int .u8,CK.int .u8,CK.int .u8,CK.int .u8,CK.int .u8,CK.int .u8,CK.int .u8,CK.int .u8,CK.int .u8,CK.int .u8,CK.int .u8,CK.int .u8,CK.int .u8,CK.int .u8,CK.int .u8,CK.int .u8,CK.int .u8,CK.int .u8,CK.int .u8,CK.int .u8,CK.int .u8,CK.int .u8,CK.int .u8,CK.int .u8,CK.int .u8,CK.int .u8,CK.int .u8,CK.int .u8,CK.int .u8] [9] 15 (.pre 1 qr1 (.both (fr 18 7 (.post 1 0 qr1 18 (.ret 0 (sg 14 [bv 16 20,bv 17 21,bv 19 23,bv 18 22,bv 20 24,bv 15 19,bg 14 18])))) .top))) .top))))) .top))
theorem q4J:qn Tryz.prog qfT [qhI,qkc] [] qxU:=qh Tryz.func46 Tryz.call46 (by kernel_rfl)
@[simp] def qoL:Sg:=sg 0 [bv 19 13,bg 17 9,bv 16 7,bv 15 8,bv 11 18,bv 10 19,bv 1 11,bv 20 14,bv 14 7,bv 13 6,bg 12 5,bv 9 18,bt 8 (.dlen (tv 19)),bg 7 17,bt 5 (.icell (tv 3) (tl 0) 3),bt 4 (.icell (tv 3) (tl 0) 2),bt 3 (.icell (tv 3) (tl 0) 1),bt 2 (.icell (tv 3) (tl 0) 0),bt 6 (.rcons (.vint .u8 (.icell (tv 3) (tl 0) 4)) (.rcons (.vint .u8 (.icell (tv 3) (tl 0) 5)) (.rcons (.vint .u8 (.icell (tv 3) (tl 0) 6)) (.rcons (.vint .u8 (.icell (tv 3) (tl 0) 7)) (.rcons (.vint .u8 (.icell (tv 3) (tl 0) 8)) (.rcons (.vint .u8 (.icell (tv 3) (tl 0) 9)) (.rcons (.vint .u8 (.icell (tv 3) (tl 0) 10)) (.rcons (.vint .u8 (.icell (tv 3) (tl 0) 11)) (.rcons (.vint .u8 (.icell (tv 3) (tl 0) 12)) (.rcons (.vint .u8 (.icell (tv 3) (tl 0) 13)) (.rcons (.vint .u8 (.icell (tv 3) (tl 0) 14)) (.rcons (.vint .u8 (.icell (tv 3) (tl 0) 15)) (.rcons (.vint .u8 (.icell (tv 3) (tl 0) 16)) (.rcons (.vint .u8 (.icell (tv 3) (tl 0) 17)) (.rcons (.vint .u8 (.icell (tv 3) (tl 0) 18)) (.rcons (.vint .u8 (.icell (tv 3) (tl 0) 19)) (.rcons (.vint .u8 (.icell (tv 3) (tl 0) 20)) (.rcons (.vint .u8 (.icell (tv 3) (tl 0) 21)) (.rcons (.vint .u8 (.icell (tv 3) (tl 0) 22)) (.rcons (.vint .u8 (.icell (tv 3) (tl 0) 23)) (.rcons (.vint .u8 (.icell (tv 3) (tl 0) 24)) (.rcons (.vint .u8 (.icell (tv 3) (tl 0) 25)) (.rcons (.vint .u8 (.icell (tv 3) (tl 0) 26)) (.rcons (.vint .u8 (.icell (tv 3) (tl 0) 27)) (.rcons (.vint .u8 (.icell (tv 3) (tl 0) 28)) (.rcons (.vint .u8 (.icell (tv 3) (tl 0) 29)) (.rcons (.vint .u8 (.icell (tv 3) (tl 0) 30)) (.rcons (.vint .u8 (.icell (tv 3) (tl 0) 31)) (.rcons (.vint .u8 (.icell (tv 3) (tl 0) 32)) (.rcons (.vint .u8 (.icell (tv 3) (tl 0) 33)) (.rcons (.vint .u8 (.icell (tv 3) (tl 0) 34)) (.rcons (.vint .u8 (.icell (tv 3) (tl 0) 35)) .rnil)))))))))))))))))))))))))))))))),bg 0 10,bg 18 12]
def qv1:Out:=(.fresh 15 (.pre 0 (sg 0 [bg 9 9,bv 8 8,bv 4 4,bv 3 3,bv 7 7,bv 6 6,bg 5 5,bg 2 2,bt 1 (r8 1),bg 0 0]) (.both (.fresh 16 (.post 0 0 (sg 0 [bg 9 9,bv 8 8,bv 4 4,bv 3 3,bv 7 7,bv 6 6,bg 5 5,bg 2 2,bt 1 (r8 1),bg 0 0]) 16 (.br (.cmp .neq (tv 16) (tl 0))
 (.ret 0 (sg 15 [bt 19 .dnil,bv 21 11,bv 20 16,bt 18 (tl 0),bt 17 (tl 0),(16,.nil),bt 15 (tl 0)]))
 (.need (.cmp .lss (tl 0) (.dlen (tv 3))) (.both (.viewL (.vcell (tv 3) (tl 0) 36) [CK.int .u8,CK.int .u8,CK.int .u8,CK.int .u8,CK.int .u8,CK.int .u8,CK.int .u8,CK.int .u8,CK.int .u8,CK.int .u8,CK.int .u8,CK.int .u8,CK.int .u8,CK.int .u8,CK.int .u8,CK.int .u8,CK.int .u8,CK.int .u8,CK.int .u8,CK.int .u8,CK.int .u8,CK.int .u8,CK.int .u8,CK.int .u8,CK.int .u8,CK.int .u8,CK.int .u8,CK.int .u8,CK.int .u8,CK.int .u8,CK.int .u8,CK.int .u8] [9] 17 (.pre 1 qoL (.both (fr 20 7 (.post 1 0 qoL 20 (.both (.ret 0 (sg 15 [bv 19 24,bv 21 26,bv 20 25,bv 18 23,bv 17 22,bg 16 21,bv 15 20])) .top))) .top))) .top))))) .top)))
theorem q31:qn Tryz.prog qhz [qhI,qkY] [] qv1:=qh Tryz.func50 Tryz.call50 (by kernel_rfl)
set_option maxRecDepth 20000
theorem q76:qkc.ok Tryz.prog:=Ctr.ok_tags q90 rfl rfl rfl rfl (fun x hx=>by
 simp only [qqI,jbo,jc6,or_false] at hx
 rcases hx with rfl | rfl | rfl | rfl
 ·exact .inl (by simp [qkc])
 ·exact .inl (by simp [qkc])
 ·exact .inr ⟨17,4,20,rfl,by simp [qkc]⟩
 ·exact .inl (by simp [qkc])) (fun Z h=>h) rfl
theorem q86:qkY.ok Tryz.prog:=Ctr.ok_tags q9F rfl rfl rfl rfl (fun x hx=>by
 simp only [qqE,jbo,jc6,or_false] at hx
 rcases hx with rfl | rfl | rfl | rfl
 ·exact .inl (by simp [qkY])
 ·exact .inl (by simp [qkY])
 ·exact .inr ⟨17,4,20,rfl,by simp [qkY]⟩
 ·exact .inl (by simp [qkY])) (fun Z h=>h) rfl
def q9c (d:qd):List Int:=(List.range 32).map fun j=>qb d 0 (4 + j)
@[simp high] theorem qBf (d:qd):qf [[.int .u8 (qb d 0 4),.int .u8 (qb d 0 5),.int .u8 (qb d 0 6),.int .u8 (qb d 0 7),.int .u8 (qb d 0 8),.int .u8 (qb d 0 9),.int .u8 (qb d 0 10),.int .u8 (qb d 0 11),.int .u8 (qb d 0 12),.int .u8 (qb d 0 13),.int .u8 (qb d 0 14),.int .u8 (qb d 0 15),.int .u8 (qb d 0 16),.int .u8 (qb d 0 17),.int .u8 (qb d 0 18),.int .u8 (qb d 0 19),.int .u8 (qb d 0 20),.int .u8 (qb d 0 21),.int .u8 (qb d 0 22),.int .u8 (qb d 0 23),.int .u8 (qb d 0 24),.int .u8 (qb d 0 25),.int .u8 (qb d 0 26),.int .u8 (qb d 0 27),.int .u8 (qb d 0 28),.int .u8 (qb d 0 29),.int .u8 (qb d 0 30),.int .u8 (qb d 0 31),.int .u8 (qb d 0 32),.int .u8 (qb d 0 33),.int .u8 (qb d 0 34),.int .u8 (qb d 0 35)]] 32 = q9c d:=rfl
theorem qoC {m:ManV} (h:m.ok = true):qbn m.k/\qbn m.n/\qbn m.t/\qbn m.s:=by
 simp only [ManV.ok,qz,qaP,jag,ja9] at h
 unfold qbn
 omega
theorem qrX {h:Hp} {d:qd} {m:ManV} (hm:qf2 h d m):qb d 0 0 = m.k/\qb d 0 1 = m.n/\qb d 0 2 = m.t/\qb d 0 3 = m.s/\q9c d = m.o/\qU m.o/\m.ok = true/\0 < d.length/\∃ D,Rd h k32 (qF d 0 36) D/\qd4 D/\dgs D = m.D/\(D.length:Int) = m.D.length:=by
 obtain ⟨row,D,rfl,hf,hrd,hD,a1,a2,a3,a4,a5,a6,a7,a8⟩:=hm
 refine ⟨a2,a3,a4,a5,a6,a7,a8,Nat.one_pos,D,hrd,hD,a1,?_⟩
 rw [<- a1]; simp [dgs]
section
variable {h:Hp} {r:Option Addr} {d P:qd} {c n:Int} {M:Option ManV} {L:PcL}
theorem qvX (hg:qaR h r d c n P M L) (hr:qaz M L = true):∃ m,M = some m/\qf2 h d m:=by
 obtain ⟨_,_,_,_,hc⟩:=hg
 rcases hc with ⟨rfl,_⟩ | ⟨m,rfl,_,hm,_⟩
 ·cases hr
 ·exact ⟨m,rfl,hm⟩
theorem qsk (hg:qaR h r d c n P M L):qhm h P n/\n = P.length/\∀ j,j < P.length->(pcD h P j).length <= 9000:=by
 obtain ⟨hn,hp,hb,hl,_⟩:=hg
 have hlen:=hp.1
 have h9:∀ j,j < P.length->(pcD h P j).length <= 9000:=fun j hj=>by
  have e:=hp.2.2 j hj
  have hj':j < L.length:=by omega
  rw [jab,jac hj'] at e
  have e:(pcI P j,pcD h P j) = L[j]:=e
  have:=hb _ (jbx hj')
  rw [<- e] at this
  have this:((pcD h P j).length:Int) <= 9000:=this
  omega
 refine ⟨⟨by omega,by omega,?_⟩,hn,h9⟩
 rw [hn,jav]; exact hp.2.1
end
theorem q4n:qfT.ok Tryz.prog:=q4J (by simp [quz,q76]) fun Z hg hp=>by
 obtain ⟨⟨M,L,h⟩,hf,hGr,hGd⟩:=hp
 simp (config:={ maxSteps:=4000000 }) [qxU,qfT,qhI,qkc,qqI,gaB,qoh,psP,mOk,qq2,mF,q5S,gOk,hGr,hGd,hf]
 have h0:qaR (Z 9).h (Z 2).r (Z 3).d (Z 4).i (Z 6).i (Z 8).d M L:=h
 refine ⟨⟨M,L,h0⟩,fun u _ hu=>⟨fun hne M' L' h'=>?_,fun he=>?_⟩⟩
 ·have:=hu M' L' h'
  cases hr:qaz M' L' with
  | true=>rw [hr] at this; simp at this; exact absurd this hne
  | false=>rw [hr] at this; simp at this; exact .inl ⟨hr,this,rfl,rfl⟩
 ·have hr:qaz M L = true:=by
   have:=hu M L h0
   rw [he] at this
   cases hr:qaz M L with
   | true=>rfl
   | false=>rw [hr] at this; simp at this
  obtain ⟨m,rfl,hm⟩:=qvX h0 hr
  obtain ⟨e0,e1,e2,e3,e4,hO,hok,hlen,D,hR,hD,hdg,hDl⟩:=qrX hm
  obtain ⟨b0,b1,b2,b3⟩:=qoC hok
  refine ⟨hlen,D,hR,fun _ _ _ _ _ _=>?_⟩
  rw [e0,e1,e2,e3,e4,hdg,hDl]
  refine ⟨⟨⟨b0,b1,b2,b3,hD⟩,hO,qsk h0⟩,?_⟩
  intro a _ b _ e _ f _ g _ hf' hS hle
  refine ⟨hf',hle,fun M' L' h'=>?_⟩
  obtain ⟨rfl,rfl⟩:=qjK h0 h'
  exact .inr ⟨m,rfl,hr,hS⟩
theorem q24:qhz.ok Tryz.prog:=q31 (by simp [quz,q86]) fun Z hg hp=>by
 obtain ⟨⟨M,L,h⟩,hf,⟨hGr,hGd⟩,hx⟩:=hp
 simp (config:={ maxSteps:=4000000 }) [qv1,qhz,qhI,qkY,qqE,gaB,qoh,psP,mOk,qq2,mF,q6t,gOk,hGr,hGd,hf]
 have h0:qaR (Z 9).h (Z 2).r (Z 3).d (Z 4).i (Z 6).i (Z 8).d M L:=h
 refine ⟨⟨M,L,h0⟩,fun u _ hu=>⟨fun hne M' L' h'=>?_,fun he=>?_⟩⟩
 ·have:=hu M' L' h'
  cases hr:qaz M' L' with
  | true=>rw [hr] at this; simp at this; exact absurd this hne
  | false=>rw [hr] at this; simp at this; exact .inl ⟨hr,this,rfl,rfl,rfl⟩
 ·have hr:qaz M L = true:=by
   have:=hu M L h0
   rw [he] at this
   cases hr:qaz M L with
   | true=>rfl
   | false=>rw [hr] at this; simp at this
  obtain ⟨m,rfl,hm⟩:=qvX h0 hr
  obtain ⟨e0,e1,e2,e3,e4,hO,hok,hlen,D,hR,hD,hdg,hDl⟩:=qrX hm
  obtain ⟨b0,b1,b2,b3⟩:=qoC hok
  refine ⟨hlen,D,hR,fun _ _ _ _ _ _=>?_⟩
  rw [e0,e1,e2,e3,hdg,hDl]
  refine ⟨⟨⟨b0,b1,b2,b3,hD⟩,qsk h0,hx⟩,?_⟩
  intro a _ b _ c _ e _ f _ hf' hS
  refine ⟨hf',fun M' L' h'=>?_⟩
  obtain ⟨rfl,rfl⟩:=qjK h0 h'
  exact .inr ⟨m,rfl,hr,hS⟩
end Go.Proofs
namespace Go.Eng
open Go Go.Proofs
@[simp] def m8 (v e:Nat):T:=(.rcons (i8 v e 4) (.rcons (i8 v e 5) (.rcons (i8 v e 6) (.rcons (i8 v e 7) (.rcons (i8 v e 8) (.rcons (i8 v e 9) (.rcons (i8 v e 10) (.rcons (i8 v e 11) (.rcons (i8 v e 12) (.rcons (i8 v e 13) (.rcons (i8 v e 14) (.rcons (i8 v e 15) (.rcons (i8 v e 16) (.rcons (i8 v e 17) (.rcons (i8 v e 18) (.rcons (i8 v e 19) (.rcons (i8 v e 20) (.rcons (i8 v e 21) (.rcons (i8 v e 22) (.rcons (i8 v e 23) (.rcons (i8 v e 24) (.rcons (i8 v e 25) (.rcons (i8 v e 26) (.rcons (i8 v e 27) (.rcons (i8 v e 28) (.rcons (i8 v e 29) (.rcons (i8 v e 30) (.rcons (i8 v e 31) (.rcons (i8 v e 32) (.rcons (i8 v e 33) (.rcons (i8 v e 34) (.rcons (i8 v e 35) .rnil))))))))))))))))))))))))))))))))
@[simp] def mq8 (k v e:Nat):T:=.vint .u8 (.c2 (.xint k) (m8 v e) (.lit 0))
@[simp] def ms8 (v e:Nat):T:=(.rcons (mq8 0 v e) (.rcons (mq8 1 v e) (.rcons (mq8 2 v e) (.rcons (mq8 3 v e) (.rcons (mq8 4 v e) (.rcons (mq8 5 v e) (.rcons (mq8 6 v e) (.rcons (mq8 7 v e) (.rcons (mq8 8 v e) (.rcons (mq8 9 v e) (.rcons (mq8 10 v e) (.rcons (mq8 11 v e) (.rcons (mq8 12 v e) (.rcons (mq8 13 v e) (.rcons (mq8 14 v e) (.rcons (mq8 15 v e) (.rcons (mq8 16 v e) (.rcons (mq8 17 v e) (.rcons (mq8 18 v e) (.rcons (mq8 19 v e) (.rcons (mq8 20 v e) (.rcons (mq8 21 v e) (.rcons (mq8 22 v e) (.rcons (mq8 23 v e) (.rcons (mq8 24 v e) (.rcons (mq8 25 v e) (.rcons (mq8 26 v e) (.rcons (mq8 27 v e) (.rcons (mq8 28 v e) (.rcons (mq8 29 v e) (.rcons (mq8 30 v e) (.rcons (mq8 31 v e) .rnil))))))))))))))))))))))))))))))))
end Go.Eng
namespace Go.Proofs
open Go Go.Eng
set_option maxRecDepth 20000
def qBl (d:qd) (i:Int):List Int:=(List.range 32).map fun j=>qb d i (4 + j)
@[simp high] theorem qBb (d:qd) (i:Int):qf [[.int .u8 (qb d i 4),.int .u8 (qb d i 5),.int .u8 (qb d i 6),.int .u8 (qb d i 7),.int .u8 (qb d i 8),.int .u8 (qb d i 9),.int .u8 (qb d i 10),.int .u8 (qb d i 11),.int .u8 (qb d i 12),.int .u8 (qb d i 13),.int .u8 (qb d i 14),.int .u8 (qb d i 15),.int .u8 (qb d i 16),.int .u8 (qb d i 17),.int .u8 (qb d i 18),.int .u8 (qb d i 19),.int .u8 (qb d i 20),.int .u8 (qb d i 21),.int .u8 (qb d i 22),.int .u8 (qb d i 23),.int .u8 (qb d i 24),.int .u8 (qb d i 25),.int .u8 (qb d i 26),.int .u8 (qb d i 27),.int .u8 (qb d i 28),.int .u8 (qb d i 29),.int .u8 (qb d i 30),.int .u8 (qb d i 31),.int .u8 (qb d i 32),.int .u8 (qb d i 33),.int .u8 (qb d i 34),.int .u8 (qb d i 35)]] 32 = qBl d i:=rfl
section
variable {h:Hp} {r:Option Addr} {d P:qd} {c n e:Int} {M:Option ManV} {L:PcL} {m:ManV} {R:qd}
end
set_option maxRecDepth 100000
def qys:Out:=(.fresh 5 (.need (.cmp .leq (tl 0) (tv 1)) (.need (.cmp .leq (tv 1) (.dlen (tv 3))) (.need (.cmp .leq (.tims (tl 8) (tv 1)) (tl 140737488355328)) (fr 6 2 (.ret 0 (sg 5 [bt 7 (.dtake (tv 3) (tv 1)),bv 6 7,bg 5 6])))))))
theorem q4m:qn Tryz.prog qhJ [] [] qys:=qh Tryz.func33 Tryz.call33 (by kernel_rfl)
@[simp] def qwC:Sg:=sg 0 [bv 13 13,bg 9 120,bv 8 119,bv 4 115,bv 3 114,bv 7 118,bv 6 117,bg 5 116,bg 2 113,bt 1 (r8 112),bv 11 102,bv 14 121,bg 10 101,bg 0 111,bg 12 12]
def quX:Out:=(.hyp 4 100 (.br (.cmp .lss (tv 121) (tv 1))
 (.know (.cmp .leq (.dlen (tv 119)) (tv 118)) (.pre 11 qwC (.both (fr 123 7 (.post 11 0 qwC 123 (.fresh 130 (.br (.cmp .neq (tv 128) (tl 0))
 (.stuck 7 0 0)
 (.br (.cmp .neq (tv 123) (tv 121))
 (.stuck 7 0 0)
 (.need (.cmp .leq (tl 0) (tv 125)) (.need (.cmp .leq (tv 125) (.dlen (tv 127))) (.need (.cmp .leq (tl 0) (tv 121)) (.need (.cmp .lss (tv 121) (.dlen (tv 110))) (.both (.viewL (.vcell (tv 110) (tv 121) 1) [CK.int .u8] [120,122] 131 (.br (.not (.c2 .veq (.c1 .vbytes (.dtake (tv 127) (tv 125))) (.c1 .vbytes (tv 133))))
 (.stuck 7 0 0)
 (.pack [.cells 130 86 [(.vint .i64 (tv 123)),(.vslice 124 (tl 0) (tv 125) (tv 126) 1)],.arr 124 5 [CK.int .u8] (tv 127) (tv 126),.abs 120 20] 134 (.back 4 100 (sg 1000 [bg 1022 122,bg 1020 134,bv 1019 119,bv 1015 115,bv 1014 114,bv 1018 118,bv 1017 117,bg 1016 116,bg 1013 113,bt 1012 (r8 112),bv 1010 110,bv 1007 107,bv 1006 106,bg 1005 105,bt 1004 (r8 104),bv 1002 129,bt 1021 (.arith .add .i64 (tv 121) (tl 1)),bg 1011 111,bg 1003 103,bv 1009 109,bg 1008 108,bg 1001 101,bg 1000 100]))))) .top)))))))))) .top)))
 (.pre 0 (sg 0 [bv 1 13,bg 0 12]) (.both (.post 0 0 (sg 0 [bv 1 13,bg 0 12]) 123 (.ret 0 (sg 14 []))) .top))))
@[simp] def qoi:T:=.ife (tv 114) (.arith .add .i64 (tv 118) (tl 1)) (tl 0) (.arith .add .i64 (tv 118) (tl 1))
@[simp] def qtI:Sg:=sg 0 [bg 9 111,bv 8 110,bv 4 106,bv 3 105,bv 7 109,bv 6 108,bg 5 107,bg 2 104,bt 1 (r8 103),bg 0 102]
@[simp] def qu0:Sg:=sg 0 [bv 13 13,bg 9 111,bv 8 110,bv 4 106,bv 3 105,bv 7 109,bv 6 108,bg 5 107,bg 2 104,bt 1 (r8 103),bv 11 93,bg 10 92,bg 0 102,bg 12 12]
@[simp] def qvg:Sg:=sg 0 [bv 15 128,bv 14 129,bv 9 97,bv 8 98,bv 13 128,bt 12 (.dlen (tv 129)),bg 11 127,bt 10 (.icell (tv 101) (.icell (tv 115) (tv 118) 0) 0),bv 7 97,bv 6 1,bg 5 96,bv 3 3,bv 2 1,bv 1 0,bv 0 0,bt 4 (r8 95)]
@[simp] def qu1:Sg:=sg 0 [bv 27 13,bv 25 133,bv 24 135,bv 19 131,bv 18 134,bg 9 111,bv 8 110,bv 4 106,bv 3 105,bv 7 109,bv 6 108,bg 5 107,bg 2 104,bt 1 (r8 103),bv 23 133,bt 22 (.dlen (tv 129)),bg 21 132,bt 20 (.icell (tv 101) (.icell (tv 115) (tv 118) 0) 0),bv 17 131,bv 16 1,bg 15 130,bv 13 3,bv 12 1,bv 11 0,bv 10 0,bt 14 (s8 95),bg 0 102,bg 26 12]
def qtR:Out:=(.hyp 3 91 (.know (.cmp .leq (.dlen (tv 110)) (tv 109)) (.pre 7 qu0 (.both (fr 119 7 (.post 7 0 qu0 119 (.both (.pre 8 qtI (.both (.fresh 126 (.post 8 0 qtI 126 (.br (tv 126)
 (.both (.both (.both (.both (.stuck 7 0 0) .top) .top) .top) .top)
 (.br (.cmp .neq (tv 123) (tl 12))
 (.both (.both (.both (.both (.stuck 7 0 0) .top) .top) .top) .top)
 (.need (.cmp .leq (tl 0) (tv 118)) (.need (.cmp .lss (tv 118) (tv 113)) (.need (.cmp .lss (tl 0) (.dlen (tv 115))) (.both (.need (.cmp .lss (tv 118) (.dlen (tv 115))) (.need (.cmp .leq (tl 0) (.icell (tv 115) (tv 118) 0)) (.need (.cmp .lss (.icell (tv 115) (tv 118) 0) (tv 1)) (.need (.cmp .lss (tl 0) (.dlen (tv 101))) (.both (.need (.cmp .lss (.icell (tv 115) (tv 118) 0) (.dlen (tv 101))) (.both (.viewL (.vcell (tv 101) (.icell (tv 115) (tv 118) 0) 1) [CK.int .u8] [117] 127 (.know (.cmp .leq (.dlen (tv 98)) (tv 97)) (.pre 9 qvg (.both (fr 130 6 (.post 9 0 qvg 130 (.both (.know (.cmp .leq (.dlen (tv 134)) (tv 131)) (.know (.cmp .leq (.dlen (tv 135)) (tv 133)) (.pre 10 qu1 (.both (fr 136 9 (.post 10 0 qu1 136 (.both (.both (.br (.cmp .neq (tv 144) (tl 0))
 (.stuck 7 0 0)
 (.know (.cmp .leq (.dlen (tv 115)) (tv 114)) (.need (.cmp .leq (tl 0) (tv 113)) (.need (.cmp .leq (tl 0) (tv 114)) (.need (.cmp .leq (tv 118) (tv 114)) (.need (.cmp .leq (tl 0) (.arith .add .i64 (tv 118) (tl 1))) (.need (.cmp .leq (.arith .add .i64 (tv 118) (tl 1)) (tv 113)) (.need (.cmp .leq (tv 113) (tv 114)) (.both (.pre 5 (sg 0 [bv 4 114,bv 3 115,bv 2 114,bv 1 118,bg 0 112]) (.both (fr 145 3 (.post 5 0 (sg 0 [bv 4 114,bv 3 115,bv 2 114,bv 1 118,bg 0 112]) 145 (.both (.know (.cmp .leq (.dlen (tv 147)) (tv 146)) (.need (.cmp .eql (tv 118) (.dlen (tv 147))) (.need (.cmp .leq (tl 0) qoi) (.need (.cmp .leq (tl 0) (.minus (tv 113) (.arith .add .i64 (tv 118) (tl 1)))) (.need (.cmp .leq (.plus qoi (.minus (tv 113) (.arith .add .i64 (tv 118) (tl 1)))) (.dlen (tv 115))) (.need (.cmp .leq (.tims (tl 8) (.plus (tv 118) (.minus (tv 113) (.arith .add .i64 (tv 118) (tl 1))))) (tl 140737488355328)) (fr 148 2 (.pack [.abs 143 20,.arr 130 24 [CK.int .u8,CK.int .u8,CK.int .u8,CK.int .u8,CK.int .u8,CK.int .u8,CK.int .u8,CK.int .u8,CK.int .u8,CK.int .u8,CK.int .u8,CK.int .u8,CK.int .u8,CK.int .u8,CK.int .u8,CK.int .u8,CK.int .u8,CK.int .u8,CK.int .u8,CK.int .u8,CK.int .u8,CK.int .u8,CK.int .u8,CK.int .u8,CK.int .u8,CK.int .u8,CK.int .u8,CK.int .u8,CK.int .u8,CK.int .u8,CK.int .u8,CK.int .u8] (tv 134) (tv 131),.arr 132 5 [CK.int .u8] (tv 135) (tv 133),.arr 119 5 [CK.int .u8] (tv 122) (tv 121),.arr 112 3 [CK.int .i64] (tv 115) (tv 114)] 150 (.back 2 64 (sg 1000 [bg 1026 117,bt 1024 (.dapp (tv 147) (.dtake (.ddrop (tv 115) qoi) (.minus (tv 113) (.arith .add .i64 (tv 118) (tl 1))))),bg 1020 150,bv 1019 142,bv 1015 138,bv 1014 137,bv 1018 141,bv 1017 140,bg 1016 139,bg 1013 136,bt 1012 (s8 103),bv 1010 101,bv 1007 98,bv 1006 97,bg 1005 96,bt 1004 (r8 95),bv 1002 124,bt 1025 (.arith .add .i64 (tv 116) (tl 1)),bv 1023 149,bt 1022 (.plus (tv 118) (.minus (tv 113) (.arith .add .i64 (tv 118) (tl 1)))),bg 1021 148,bg 1011 102,bg 1003 94,bv 1009 100,bg 1008 99,bg 1001 92,bg 1000 91])))))))))) .top))) .top)) .top))))))))) .top) .top))) .top)))) .top))) .top)))) .top)) .top))))) .top)))))))) .top)) .top))) .top))))
@[simp] def qt3:Sg:=sg 0 [bv 13 13,bg 9 84,bv 8 83,bv 4 79,bv 3 78,bv 7 82,bv 6 81,bg 5 80,bg 2 77,bt 1 (r8 76),bv 11 66,bg 10 65,bg 0 75,bg 12 12]
def qvT:Out:=(.hyp 2 64 (.br (.cmp .lss (tv 89) (tv 0))
 (.both (.br (.cmp .lss (tv 89) (tv 8))
 (.need (.cmp .leq (tl 0) (tv 89)) (.need (.cmp .lss (tv 89) (.dlen (tv 10))) (.know (.cmp .leq (.dlen (tv 88)) (tv 87)) (.need (.cmp .leq (tl 0) (tv 86)) (.pre 6 (sg 0 [bv 1 86,bt 0 (.icell (tv 10) (tv 89) 0)]) (.both (.fresh 91 (.post 6 0 (sg 0 [bv 1 86,bt 0 (.icell (tv 10) (tv 89) 0)]) 91 (.cut 3 91 (sg 1000 [bg 1026 90,bv 1024 88,bg 1020 84,bv 1019 83,bv 1015 79,bv 1014 78,bv 1018 82,bv 1017 81,bg 1016 80,bg 1013 77,bt 1012 (r8 76),bv 1010 74,bv 1007 71,bv 1006 70,bg 1005 69,bt 1004 (r8 68),bv 1002 66,bv 1027 91,bv 1025 89,bv 1023 87,bv 1022 86,bg 1021 85,bg 1011 75,bg 1003 67,bv 1009 73,bg 1008 72,bg 1001 65,bg 1000 64])))) .top))))))
 (.cut 3 91 (sg 1000 [bg 1026 90,bv 1024 88,bg 1020 84,bv 1019 83,bv 1015 79,bv 1014 78,bv 1018 82,bv 1017 81,bg 1016 80,bg 1013 77,bt 1012 (r8 76),bv 1010 74,bv 1007 71,bv 1006 70,bg 1005 69,bt 1004 (r8 68),bv 1002 66,bt 1027 (tl 0),bv 1025 89,bv 1023 87,bv 1022 86,bg 1021 85,bg 1011 75,bg 1003 67,bv 1009 73,bg 1008 72,bg 1001 65,bg 1000 64]))) (fr 91 28 qtR))
 (.know (.cmp .leq (.dlen (tv 83)) (tv 82)) (.pre 7 qt3 (.both (fr 91 7 (.post 7 0 qt3 91 (.pre 8 (sg 0 [bg 9 84,bv 8 83,bv 4 79,bv 3 78,bv 7 82,bv 6 81,bg 5 80,bg 2 77,bt 1 (r8 76),bg 0 75]) (.both (.fresh 98 (.post 8 0 (sg 0 [bg 9 84,bv 8 83,bv 4 79,bv 3 78,bv 7 82,bv 6 81,bg 5 80,bg 2 77,bt 1 (r8 76),bg 0 75]) 98 (.br (.not (tv 98))
 (.stuck 7 0 0)
 (.br (.cmp .neq (tv 95) (tl 0))
 (.stuck 7 0 0)
 (.need (.cmp .leq (tl 0) (tv 92)) (.need (.cmp .leq (tv 92) (.dlen (tv 94))) (.need (.cmp .leq (tv 3) (.dlen (tv 5))) (.br (.not (.c2 .veq (.c1 .vbytes (.dtake (tv 94) (tv 92))) (.c1 .vbytes (.dtake (tv 5) (tv 3)))))
 (.stuck 7 0 0)
 (.pack [.arr 91 5 [CK.int .u8] (tv 94) (tv 93),.abs 84 20,.arr 85 3 [CK.int .i64] (tv 88) (tv 87)] 99 (.inv 4 100 (sg 1000 [bg 1022 90,bg 1020 99,bv 1019 83,bv 1015 79,bv 1014 78,bv 1018 82,bv 1017 81,bg 1016 80,bg 1013 77,bt 1012 (r8 76),bv 1010 74,bv 1007 71,bv 1006 70,bg 1005 69,bt 1004 (r8 68),bv 1002 96,bt 1021 (tl 0),bg 1011 75,bg 1003 67,bv 1009 73,bg 1008 72,bg 1001 65,bg 1000 64]) (fr 100 23 quX))))))))))) .top)))) .top)))))
def qu5:Out:=(.hyp 1 37 (.br (.cmp .lss (tv 62) (tv 1))
 (.fresh 64 (.know (.cmp .leq (.dlen (tv 61)) (tv 60)) (.need (.cmp .eql (tv 59) (.dlen (tv 61))) (.need (.cmp .leq (.tims (tl 8) (.plus (tv 59) (tl 1))) (tl 140737488355328)) (fr 65 2 (.pack [.cells 64 3 [(.vint .i64 (tv 62))],.abs 57 20] 67 (.back 1 37 (sg 1000 [bg 1026 63,bt 1024 (.dapp (tv 61) (.rcons (.vint .i64 (tv 62)) .rnil)),bg 1020 67,bv 1019 56,bv 1015 52,bv 1014 51,bv 1018 55,bv 1017 54,bg 1016 53,bg 1013 50,bt 1012 (r8 49),bv 1010 47,bv 1007 44,bv 1006 43,bg 1005 42,bt 1004 (r8 41),bv 1002 39,bt 1025 (.arith .add .i64 (tv 62) (tl 1)),bv 1023 66,bt 1022 (.plus (tv 59) (tl 1)),bg 1021 65,bg 1011 48,bg 1003 40,bv 1009 46,bg 1008 45,bg 1001 38,bg 1000 37]))))))))
 (.inv 2 64 (sg 1000 [bg 1026 63,bv 1024 61,bg 1020 57,bv 1019 56,bv 1015 52,bv 1014 51,bv 1018 55,bv 1017 54,bg 1016 53,bg 1013 50,bt 1012 (r8 49),bv 1010 47,bv 1007 44,bv 1006 43,bg 1005 42,bt 1004 (r8 41),bv 1002 39,bt 1025 (tl 0),bv 1023 60,bv 1022 59,bg 1021 58,bg 1011 48,bg 1003 40,bv 1009 46,bg 1008 45,bg 1001 38,bg 1000 37]) (fr 64 27 qvT))))
@[simp] def qtD:Sg:=sg 0 [bv 11 13,bv 9 23,bv 8 24,bv 7 23,bv 6 1,bg 5 22,bv 3 3,bv 2 1,bv 1 0,bv 0 0,bt 4 (r8 21),bg 10 12]
def qvP:Out:=(.hyp 0 17 (.know (.cmp .leq (.dlen (tv 24)) (tv 23)) (.pre 3 qtD (.both (fr 29 2 (.post 3 0 qtD 29 (.fresh 31 (.know (.cmp .leq (.dlen (tv 27)) (tv 26)) (.need (.cmp .leq (tl 0) (tv 1)) (.pre 4 (sg 0 [bt 0 (r8 29)]) (.both (.fresh 32 (.post 4 0 (sg 0 [bt 0 (r8 29)]) 32 (.pre 5 (sg 0 [bt 4 (tl 0),bt 3 .dnil,bt 2 (tl 0),bt 1 (tl 0),(0,.nil)]) (.both (fr 33 3 (.post 5 0 (sg 0 [bt 4 (tl 0),bt 3 .dnil,bt 2 (tl 0),bt 1 (tl 0),(0,.nil)]) 33 (.pack [.cells 31 24 [(x8 0 29),(x8 1 29),(x8 2 29),(x8 3 29),(x8 4 29),(x8 5 29),(x8 6 29),(x8 7 29),(x8 8 29),(x8 9 29),(x8 10 29),(x8 11 29),(x8 12 29),(x8 13 29),(x8 14 29),(x8 15 29),(x8 16 29),(x8 17 29),(x8 18 29),(x8 19 29),(x8 20 29),(x8 21 29),(x8 22 29),(x8 23 29),(x8 24 29),(x8 25 29),(x8 26 29),(x8 27 29),(x8 28 29),(x8 29 29),(x8 30 29),(x8 31 29)]] 36 (.inv 1 37 (sg 1000 [bg 1026 28,bv 1024 35,bg 1020 36,bt 1019 .dnil,bt 1015 (tl 0),bt 1014 .dnil,bt 1018 (tl 0),bt 1017 (tl 0),(1016,.nil),(1013,.nil),bt 1012 (s8 29),bv 1010 27,bv 1007 24,bv 1006 23,bg 1005 22,bt 1004 (r8 21),bv 1002 19,bt 1025 (tl 0),bv 1023 34,bt 1022 (tl 0),bg 1021 33,bg 1011 32,bg 1003 20,bv 1009 26,bg 1008 25,bg 1001 18,bg 1000 17]) (fr 37 27 qu5))))) .top)))) .top))))))) .top))))
@[simp] def qd8:Out:=.pre 0 (sg 0 [bv 1 13,bg 0 12]) (.both (.post 0 0 (sg 0 [bv 1 13,bg 0 12]) 15 (.ret 0 (sg 14 []))) .top)
@[simp] def qfs:Sg:=sg 0 [bv 11 13,bv 9 20,bt 8 (.dtake (tv 5) (tv 3)),bv 1 16,bv 7 20,bv 6 3,bg 5 19,bv 4 1,bv 3 0,bv 2 0,bg 0 15,bg 10 12]
@[simp] def qfp:Sg:=sg 0 [bv 11 13,bv 9 19,bt 8 (.dtake (tv 5) (tv 3)),bv 1 16,bv 7 19,bv 6 3,bg 5 18,bv 4 1,bv 3 0,bv 2 0,bg 0 15,bg 10 12]
def qql:Out:=(.fresh 14 (.br (.cmp .lss (tv 0) (tl 1))
 qd8
 (.br (.cmp .gtr (tv 0) (tv 1))
 qd8
 (.br (.cmp .gtr (tv 1) (tl 12))
 qd8
 (.need (.cmp .leq (tl 0) (tv 3)) (.br (.cmp .gtr (tv 3) (tl 500))
 qd8
 (.need (.cmp .leq (tl 0) (tv 8)) (.br (.cmp .gtr (tv 8) (tl 40))
 qd8
 (.pre 1 (sg 0 []) (.both (fr 15 2 (.post 1 0 (sg 0 []) 15 (.both (.both (.fresh 17 (.both (.need (.cmp .leq (tv 3) (.dlen (tv 5))) (.need (.cmp .leq (.tims (tl 1) (tv 3)) (tl 140737488355328)) (fr 18 2 (.both (.know (.cmp .leq (.dlen (.dtake (tv 5) (tv 3))) (tv 19)) (.pre 2 qfp (.both (fr 20 9 (.post 2 0 qfp 20 (.both (.fresh 29 (.both (.pack [.abs 28 10,.arr 18 5 [CK.int .u8] (.dtake (tv 5) (tv 3)) (tv 19)] 30 (.cut 0 17 (sg 1000 [bg 1011 30,bv 1010 27,bv 1007 26,bv 1006 22,bg 1005 21,bt 1004 (r8 20),bv 1002 25,bg 1003 29,bv 1009 24,bg 1008 23,bg 1001 15,bg 1000 14]))) .top)) .top))) .top))) (.both (.fresh 20 (.both (.know (.cmp .leq (.dlen (.dtake (tv 5) (tv 3))) (tv 19)) (.pre 2 qfp (.both (fr 21 9 (.post 2 0 qfp 21 (.both (.pack [.abs 29 10,.arr 18 5 [CK.int .u8] (.dtake (tv 5) (tv 3)) (tv 19)] 30 (.cut 0 17 (sg 1000 [bg 1011 30,bv 1010 28,bv 1007 27,bv 1006 23,bg 1005 22,bt 1004 (r8 21),bv 1002 26,bg 1003 20,bv 1009 25,bg 1008 24,bg 1001 15,bg 1000 14]))) .top))) .top))) .top)) .top))))) (.both (.fresh 18 (.both (.need (.cmp .leq (tv 3) (.dlen (tv 5))) (.need (.cmp .leq (.tims (tl 1) (tv 3)) (tl 140737488355328)) (fr 19 2 (.both (.know (.cmp .leq (.dlen (.dtake (tv 5) (tv 3))) (tv 20)) (.pre 2 qfs (.both (fr 21 9 (.post 2 0 qfs 21 (.both (.pack [.abs 29 10,.arr 19 5 [CK.int .u8] (.dtake (tv 5) (tv 3)) (tv 20)] 30 (.cut 0 17 (sg 1000 [bg 1011 30,bv 1010 28,bv 1007 27,bv 1006 23,bg 1005 22,bt 1004 (r8 21),bv 1002 26,bg 1003 18,bv 1009 25,bg 1008 24,bg 1001 15,bg 1000 14]))) .top))) .top))) .top)))) .top)) .top))) (.both (.fresh 17 (.both (.fresh 18 (.both (.need (.cmp .leq (tv 3) (.dlen (tv 5))) (.need (.cmp .leq (.tims (tl 1) (tv 3)) (tl 140737488355328)) (fr 19 2 (.both (.know (.cmp .leq (.dlen (.dtake (tv 5) (tv 3))) (tv 20)) (.pre 2 qfs (.both (fr 21 9 (.post 2 0 qfs 21 (.both (.pack [.abs 29 10,.arr 19 5 [CK.int .u8] (.dtake (tv 5) (tv 3)) (tv 20)] 30 (.cut 0 17 (sg 1000 [bg 1011 30,bv 1010 28,bv 1007 27,bv 1006 23,bg 1005 22,bt 1004 (r8 21),bv 1002 26,bg 1003 17,bv 1009 25,bg 1008 24,bg 1001 15,bg 1000 14]))) .top))) .top))) .top)))) .top)) .top)) .top)) (fr 17 12 qvP)))) .top))))))))))
theorem qxg:qn Tryz.prog qai [qdo,qcp,qhS,idC,qf3,qhJ,qmW,qfT,qcs,qmS,qfh,qhz] [qtn,q0u,qtU,qts,q0Y] qql:=qh Tryz.func10 Tryz.call10 (by kernel_rfl)
noncomputable abbrev qiW:Ctx:=⟨Tryz.prog,qai,[qdo,qcp,qhS,idC,qf3,qhJ,qmW,qfT,qcs,qmS,qfh,qhz],[qtn,q0u,qtU,qts,q0Y]⟩
theorem q48:qhJ.ok Tryz.prog:=q4m (by simp) fun Z hg hp=>by
 obtain ⟨h0,h1,h2,hr⟩:=hp
 simp (config:={ maxSteps:=4000000 }) [qys,qhJ]
 omega
theorem qna {k t s:Int} (k1:1 <= k) (kt:k <= t) (t12:t <= 12) (s0:0 <= s) (s1:s <= 500):qz k k t s t = true:=qbw.2 ⟨k1,jey _,kt,by omega,s0,by omega,rfl⟩
section
variable {h:Hp} {r:Option Addr} {d P G R:qd} {c n k t s e x y m:Int} {M:Option ManV} {L:PcL} {O data:List Int} {f:Nat->List Int}
theorem q2f {j:Nat} (hg:qaR h r d c n P M L) (hL:∀ x ∈ L,(0 <= x.1/\x.1 < t)/\x.2 = f x.1.toNat) (hl:L.length = j):qkH h P j t f/\qaw P j = L.map Prod.fst:=by
 obtain ⟨_,⟨hlen,hp,hx⟩,_⟩:=hg
 have hPj:P.length = j:=by omega
 have hat:∀ i,i < j->∃ hi:i < L.length,(pcI P i,pcD h P i) = L[i]:=fun i hi=>by
  have e:=hx i (by omega)
  have hi':i < L.length:=by omega
  rw [jab,jac hi'] at e
  exact ⟨hi',e⟩
 refine ⟨⟨hPj,by rw [<- hPj]; exact hp,fun i hi=>?_⟩,?_⟩
 ·obtain ⟨hi',e⟩:=hat i hi
  have:=hL _ (jbx hi')
  rw [<- e] at this
  exact this
 ·refine jbt fun i=>?_
  by_cases hi:i < j
  ·obtain ⟨hi',e⟩:=hat i hi
   rw [qaw,jan,jbj hi,jan,jac hi',<- e]; rfl
  ·rw [jas (by simp [qaw]; omega),jas (by simp; omega)]
theorem qi3 (hG:dgs G = qbi f t.toNat) (t0:0 <= t):((dgs G).length:Int) = t:=by
 rw [hG]; simp [qbi]; omega
theorem q9x (hg:qaR h r d c n P M L) (hP:qme k t ⟨k,k,t,s,O,dgs G⟩ (qag k.toNat t.toNat data) k M L) (hM:qz k k t s t = true) (hb:qo data) (hsz:s = data.length) (hG:dgs G = qbi (qag k.toNat t.toNat data) t.toNat) (hO:O = sha data) (hS:qyo M L h P e m R):e = 0/\0 <= m/\m <= R.length/\bI (R.take m.toNat) = data:=by
 obtain ⟨k1,k2,k3,k4,s0,s1,htl⟩:=qbw.1 hM
 obtain ⟨hm,hl,hx,hnd⟩:=hP
 rw [jaf (by omega)] at hm
 subst hm
 obtain ⟨hs,hi⟩:=q2f (j:=k.toNat) hg hx (by omega)
 have hgl:=qi3 hG (by omega)
 rcases hS with ⟨h1,_⟩ | ⟨m',hm,hr,ha⟩
 ·rw [qaz,hl,jcf (jey _)] at h1; cases h1
 ·obtain rfl:=jaz hm
  exact q7h (l:=((dgs G).length:Int)) ha (by rw [hs.1]; exact hs.2.1) ⟨rfl,fun _ _=>⟨rfl,rfl⟩⟩ rfl (by rw [hgl]; exact hM) hb hsz hG hs (by rw [hi]; exact hnd) rfl hO
theorem q9D (hg:qaR h r d c n P M L) (hP:qme k t ⟨k,k,t,s,O,dgs G⟩ (qag k.toNat t.toNat data) k M L) (hM:qz k k t s t = true) (hb:qo data) (hsz:s = data.length) (hG:dgs G = qbi (qag k.toNat t.toNat data) t.toNat) (hS:qtO M L h P x e y m R) (x0:0 <= x) (x1:x < t):e = 0/\y = x/\m = R.length/\qp R/\bI R = qag k.toNat t.toNat data x.toNat/\m <= 100000000:=by
 obtain ⟨k1,k2,k3,k4,s0,s1,htl⟩:=qbw.1 hM
 obtain ⟨hm,hl,hx,hnd⟩:=hP
 rw [jaf (by omega)] at hm
 subst hm
 obtain ⟨hs,hi⟩:=q2f (j:=k.toNat) hg hx (by omega)
 have hgl:=qi3 hG (by omega)
 rcases hS with ⟨h1,_⟩ | ⟨m',hm,hr,ha⟩
 ·rw [qaz,hl,jcf (jey _)] at h1; cases h1
 ·obtain rfl:=jaz hm
  exact q7n (l:=((dgs G).length:Int)) ha (by rw [hs.1]; exact hs.2.1) ⟨rfl,fun _ _=>⟨rfl,rfl⟩⟩ rfl (by rw [hgl]; exact hM) hb hsz hG hs (by rw [hi]; exact hnd) rfl x0 x1
theorem q8R {o:List Int} {m:ManV} {i:Int} {b:List Int} (hM:m.ok = true) (ho:o = sha m.bytes) (hc:qbO m.k m.n m.t m.s m.D.length m.D i b = 0) (hn:i ∉ L.map Prod.fst) (hr:qaz M L = false):qeJ o M L m i b = 0:=by
 unfold qeJ
 rw [jaf (by rw [hM]; decide),jaf (fun h=>h ho.symm),jaf (fun h=>h hc),jaf hn,jaf (by rw [hr]; decide)]
theorem qrS {m:ManV} {i:Int} (hP:qme k t m f i M L) (hk:m.k = k) (i0:0 <= i):qaz M L = decide (k <= i/\0 < i):=by
 obtain ⟨hm,hl,_⟩:=hP
 by_cases h:i = 0
 ·rw [hm,jah h,h]; simp [qaz]
 ·rw [hm,jaf h,qaz,hl,hk]; simp; omega
theorem qtE {m:ManV} {i j cap:Int} {D:qd} {lf b:List Int} (hP:qme k t m f i M L) (hI:qby D n lf) (hL:qz4 t i L lf) (j0:0 <= j) (j1:j < n) (hc:n <= cap) (i0:0 <= i) :
  (0 <= qb D j 0/\qb D j 0 < t)/\qb D j 0 ∉ L.map Prod.fst/\(b = f (qb D j 0).toNat->qme k t m f (i + 1) (some m) (L ++ [(qb D j 0,b)])) /\
  ∃ lf',qby (D.take j.toNat ++ (D.drop (if cap = j + 1 then 0 else j + 1).toNat).take (n - (j + 1)).toNat) (j + (n - (j + 1))) lf'/\qz4 t (i + 1) (L ++ [(qb D j 0,b)]) lf':=by
 obtain ⟨hn,hI1,hI2⟩:=hI
 obtain ⟨l1,l2,l3⟩:=hL
 obtain ⟨p1,p2,p3,p4⟩:=hP
 have hll:lf.length = D.length:=by rw [<- hI1]; simp [qy]
 have hlt:j.toNat < lf.length:=by omega
 have hx:qb D j 0 = lf[j.toNat]:=by
  rw [qdr j0 (by omega),hI1,jab,jac hlt]; rfl
 generalize qb D j 0 = x at hx ⊢
 have hxm:x ∈ lf:=by rw [hx]; exact jbx hlt
 have hsp:lf = lf.take j.toNat ++ x :: lf.drop (j.toNat + 1):=by rw [hx,<- jbw hlt,jec]
 have hnd:=jfr.1 l3
 have hnm:x ∉ L.map Prod.fst:=fun hm=>hnd.2.2 x hm x hxm rfl
 have hdr:(D.drop (if cap = j + 1 then 0 else j + 1).toNat).take (n - (j + 1)).toNat = D.drop (j.toNat + 1):=by
  by_cases hcj:cap = j + 1
  ·rw [show (n - (j + 1)).toNat = 0 by omega,jfi,jdk (by omega)]
  ·rw [jaf hcj,show (j + 1).toNat = j.toNat + 1 by omega,jar (by rw [jch]; omega)]
 refine ⟨l2 x hxm,hnm,fun hb=>⟨by rw [jaf (by omega)],by simp; omega,fun z hz=>?_,?_⟩,lf.take j.toNat ++ lf.drop (j.toNat + 1),⟨?_,?_,?_⟩,?_,?_,?_⟩
 ·rcases jat.1 hz with hz | hz
  ·exact p3 z hz
  ·rw [jaj.1 hz]; exact ⟨l2 x hxm,hb⟩
 ·rw [jca,jfr]
  exact ⟨p4,by simp,fun a ha b hb he=>hnm (by simp at hb; rw [<- hb,<- he]; exact ha)⟩
 ·rw [hdr,jal,jba,jch]; omega
 ·rw [hdr,<- hI1]; simp [qy,jcu,jds]
 ·rw [hdr]
  intro row hr
  rcases jat.1 hr with hr | hr
  ·exact hI2 row (jbv hr)
  ·exact hI2 row (jb4 hr)
 ·rw [jal,jba,jch]; omega
 ·intro z hz
  rcases jat.1 hz with hz | hz
  ·exact l2 z (jbv hz)
  ·exact l2 z (jb4 hz)
 ·rw [hsp] at l3
  refine (List.Perm.nodup_iff ?_).1 l3
  rw [jca,ja3,jb6,jbs]
  exact List.Perm.append_left _ List.perm_middle
end
theorem q3M {i:Int} (i0:0 <= i):upto (i + 1) = upto i ++ [i]:=by
 unfold upto
 rw [show (i + 1).toNat = i.toNat + 1 by omega,jd1,jca]
 simp [jay i0]
theorem q1A {D:qd} {n i:Int} (h:qby D n (upto i)) (i0:0 <= i):qby (D ++ [[.int .i64 i]]) (n + 1) (upto (i + 1)):=by
 obtain ⟨h1,h2,h3⟩:=h
 refine ⟨by simp; omega,by rw [q3M i0,<- h2]; simp [qy,qbr,qaj],fun row hr=>?_⟩
 rcases jat.1 hr with hr | hr
 ·exact h3 row hr
 ·rw [jaj.1 hr]; rfl
theorem qs3 {k t:Int} {m:ManV} {f:Nat->List Int} (t0:0 <= t):qme k t m f 0 none []/\qz4 t 0 [] (upto t):=by
 refine ⟨⟨rfl,rfl,fun x hx=>(by cases hx),by simp⟩,by simp [upto]; omega,fun x hx=>?_,?_⟩
 ·obtain ⟨j,hj,rfl⟩:=jbl.1 hx
  have:=jb8.1 hj
  omega
 ·show (upto t).Nodup
  unfold upto
  rw [List.Nodup,jd9]
  exact List.nodup_range.imp fun h he=>h (by omega)
set_option maxRecDepth 20000
set_option maxHeartbeats 4000000 in
theorem qAA:∀ Z:Env,qai.pre Z->quX.den qiW Z:=fun Z hp=>by
 obtain ⟨k64,t64,⟨dl,dl1,dl2,dB⟩,⟨bl,bl1,bw⟩,hGr,hGd⟩:=hp
 simp (config:={ maxSteps:=8000000 }) [quX,qiW,qai,q0Y,qhO,qhG,qgP,qhz,qcV,qk7,gaB,qkZ,qeq,qdo,gOk,hGr,hGd]
 have hb:qo (bI (Z 5).d):=allB_list dB
 have hsz:(Z 3).i = ((bI (Z 5).d).length:Int):=by rw [bI_len]; exact dl
 intro k1 kt t12 s500 b40 hf hO hGk hG hEl hE i0 i1 L hg hP hlt hcap
 have hM:=qna (s:=(Z 3).i) k1 kt t12 (by omega) s500
 refine ⟨⟨⟨_,L,hg⟩,hf,by unfold qbn; omega⟩,?_⟩
 intro u _ u1 _ u2 _ u3 _ u4 _ u5 _ u6 _ hf' hpc u7 _
 obtain ⟨e0,ey,em,eB,eR,e8⟩:=q9D hg hP hM hb hsz hG (hpc _ L hg) i0 hlt
 obtain ⟨v,dd,e1,hRd,hdd,hBd⟩:=hE (Z 121).i.toNat (by omega)
 have hcv:qF (Z 110).d (Z 121).i 1 = v:=by simp only [qF,e1,ja0]; rfl
 have ha:qe .add .i64 (Z 121).i 1 = (Z 121).i + 1:=add64 (by omega) (by omega)
 rw [hcv,ha]
 refine ⟨e0,fun _=>⟨ey,fun _=>⟨by omega,by omega,i0,by omega,dd,.inr hRd,fun w0 _ w1 _ _ _=>⟨?_,fun _ u8 _ hst=>⟨⟨⟨⟨k1,kt,t12,s500,b40⟩,hf',hO,hGk,hG,hEl,hE⟩,by omega,by omega,L,qgd hg ?_,hP⟩,by omega⟩⟩⟩⟩⟩
 ·rw [jar (by omega),qho,qho,eR,hdd]
 ·have h:=qbZ 120 20 hst (by simp)
  simpa using h
set_option maxHeartbeats 4000000 in
theorem qAz:∀ Z:Env,qai.pre Z->qtR.den qiW Z:=fun Z hp=>by
 obtain ⟨k64,t64,⟨dl,dl1,dl2,dB⟩,⟨bl,bl1,bw⟩,hGr,hGd⟩:=hp
 simp (config:={ maxSteps:=8000000 }) [qtR,qiW,qai,qts,qtU,qhO,qvD,qhG,qgP,qhJ,qfT,qcs,qmS,qfh,qvS,qcV,qk7,gaB,qkZ,qeq,qdo,gOk,hGr,hGd]
 have hb:qo (bI (Z 5).d):=allB_list dB
 have hsz:(Z 3).i = ((bI (Z 5).d).length:Int):=by rw [bI_len]; exact dl
 intro hik hlt j0 j1 k1 kt t12 s500 b40 hf hO hGk hG hEl hE hOb M L hg hP lf hI hL hcap
 have hi0:(Z 116).i = (L.length:Int):=hP.2.1.symm
 have hM:=qna (s:=(Z 3).i) k1 kt t12 (by omega) s500
 have hDn:(Z 113).i = ((Z 115).d.length:Int):=hI.1
 have hLl:=hL.1
 have hlfl:(lf.length:Int) = (Z 113).i:=(qrg hI).symm
 have hr0:qaz M L = false:=by rw [qrS hP rfl (by omega)]; simp; omega
 have hGl:=qi3 hG (by omega)
 have hGl':((Z 98).d.length:Int) = (Z 1).i:=by rw [<- hGl,qq7]
 obtain ⟨⟨x0,x1⟩,hnm,_⟩:=qtE (b:=[]) (cap:=(Z 113).i) hP hI hL j0 j1 (jey _) (by omega)
 have ha:qe .add .i64 (Z 118).i 1 = (Z 118).i + 1:=add64 (by omega) (by omega)
 have ha2:qe .add .i64 (Z 116).i 1 = (Z 116).i + 1:=add64 (by omega) (by omega)
 obtain ⟨v,dd,e1,hRd,hdd,hBd⟩:=hE (qb (Z 115).d (Z 118).i 0).toNat (by omega)
 have hcv:qF (Z 101).d (qb (Z 115).d (Z 118).i 0) 1 = v:=by simp only [qF,e1,ja0]; rfl
 have hci:qb (Z 101).d (qb (Z 115).d (Z 118).i 0) 0 = qb (Z 115).d (Z 118).i 0:=by
  have:qb (Z 101).d (qb (Z 115).d (Z 118).i 0) 0 = ((qb (Z 115).d (Z 118).i 0).toNat:Int):=by
   rw [qb,qF,e1]; rfl
  rw [this,jay x0]
 have hdl:dd.length <= 500:=by
  have h1:=(qbC (k:=(Z 0).i.toNat) (total:=(Z 1).i.toNat) (data:=bI (Z 5).d) (by omega) (by omega) (by omega) hb (qb (Z 115).d (Z 118).i 0).toNat).1
  rw [<- hdd,bI_len] at h1
  have h2:=qdt (k:=(Z 0).i.toNat) (n:=(bI (Z 5).d).length) (by omega)
  rw [bI_len] at h1 h2
  omega
 simp only [ha,ha2,hcv,hci]
 refine ⟨⟨⟨M,L,hg⟩,hf⟩,?_⟩
 intro u _ u1 _ u2 _ u3 _ u4 _ u5 _ u6 _ hf' hle hdata
 refine ⟨⟨M,L,hg⟩,?_⟩
 intro u7 _ hr
 refine ⟨by rw [hr M L hg]; exact hr0,fun _=>⟨?_,fun _=>?_⟩⟩
 ·rcases hdata M L hg with ⟨_,h1,_⟩ | ⟨_,_,h1,_⟩
  ·exact h1
  ·rw [hr0] at h1; cases h1
 refine ⟨j0,j1,by omega,by omega,x0,x1,by omega,by omega,dd,hRd,?_⟩
 intro w0 _ w1 _ _ _ hgc
 refine ⟨⟨by omega,by omega,by omega⟩,?_⟩
 intro u8 _ u9 _ u10 _ u11 _ u12 _ u13 _ h12 h13 hc12 hc13
 refine ⟨⟨⟨M,L,hg⟩,by rw [hOb]; exact qcO _,⟨k64,t64,by unfold qbn; omega,by rw [hO]; exact qcO _,by rw [h12]; omega,by omega,by rw [h12]; exact hGk⟩,by unfold qbn; omega,⟨by rw [h13],by rw [h13] at hc13; exact hc13,by omega,by rw [h13]; exact hBd⟩,by omega⟩,?_⟩
 intro u14 _ u15 _ u16 _ u17 _ u18 _ u19 _ u20 _ u21 _ u22 _ hoff
 obtain ⟨hE1,hG1⟩:=hoff M L hg
 rw [h12,h13] at hE1 hG1
 have hz:u22.i = 0:=by
  rw [hE1]
  refine q8R ?_ hOb ?_ hnm hr0
  ·show qz _ _ _ _ _ = true
   simp only [hGl]; exact hM
  ·exact qom (by simp only [hGl]; exact hM) hb hsz hG x0 x1 hdd
 rw [jah hz,jah hz] at hG1
 refine ⟨hz,fun _ hcp=>?_⟩
 obtain ⟨_,_,hP',lf',hI',hL'⟩:=qtE (b:=bI dd) (cap:=(Z 114).i) hP hI hL j0 j1 (by omega) (by omega)
 refine ⟨by omega,by omega,by omega,by omega,by omega,by omega,⟨j0,by omega,by omega,hI.2.2⟩,?_⟩
 intro u23 _ u24 _ u25 _ h25 hc25
 have h25l:(u25.d.length:Int) = (Z 118).i:=by rw [h25,jba]; omega
 refine ⟨by omega,by split <;> omega,by omega,by split <;> omega,by omega,?_⟩
 intro u26 _ u27 _ u28 _ hst
 refine ⟨⟨⟨⟨k1,kt,t12,s500,b40⟩,hf',hO,hGk,hG,hEl,hE⟩,by omega,by omega,hOb,_,_,qgd hG1 ?_,hP' hdd,lf',by rw [h25]; exact hI',hL'⟩,by omega⟩
 have h:=qbZ 143 20 hst (by simp)
 simpa using h
end Go.Proofs
