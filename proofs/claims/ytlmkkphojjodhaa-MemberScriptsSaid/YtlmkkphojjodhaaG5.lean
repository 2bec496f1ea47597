/- Texts MB, E15, E16, MD, MT, MU, TT, TP, MP, BQ, BT, BP, E13, E14, CO, NA, CM, OA, OB, PA, NT, NP. -/
import Derived.Test.YtlmkkphojjodhaaG4
import Derived.Test.YtlmkkphojjodhaaG1
import Derived.Test.YtlmkkphojjodhaaProg
import Derived.WalkKit
import Derived.ProofKit
import Derived.OpenShut
import Derived.Carry
import Derived.SizedLaws
import Derived.Test.YtlmkkphojjodhaaRows
set_option linter.unusedSimpArgs false
set_option linter.unusedVariables false
namespace Go.Eng
open Go
structure TS where
 tab:List Ent
 since:List Int
 kept:List Prb
 msgs:List Msg
def qc4 (t:List Ent) (i:Int):Ent:=t.getD i.toNat (0,0)
def qaJ (clock sent:Int):Int:=IntKind.u64.wrap (clock - sent)
def qa9 (self clock draw:Int) (st:TS) (p:Prb):TS :=
 if 10 <= qaJ clock p.sent then
  if (qc4 st.tab p.target).2 = 1 then { st with tab:=qbx st.tab p.target ((qc4 st.tab p.target).1,2),since:=qaE st.tab st.since clock p.target ((qc4 st.tab p.target).1,2) } else st
 else if 4 <= qaJ clock p.sent/\p.asked = false then { st with kept:=st.kept ++ [{ p with asked:=true }],msgs:=st.msgs ++ qgx st.tab self p.seq p.target draw }
 else { st with kept:=st.kept ++ [p] }
def qb7 (self clock draw:Int) (tab:List Ent) (since:List Int) (ps:List Prb):TS:=ps.foldl (qa9 self clock draw) ⟨tab,since,[],[]⟩
def qdR (self clock wait:Int) (since:List Int) (i:Nat) (x:Ent):Ent:=if (i:Int) ≠ self/\x.2 = 2/\wait <= qaJ clock (since.getD i 0) then (x.1,3) else x
def qbZ (self clock wait:Int) (since:List Int) (t:List Ent):List Ent:=t.mapIdx (qdR self clock wait since)
structure Mach where
 self:Int
 tab:List Ent
 since:List Int
 clock:Int
 seq:Int
 pinged:Int
 probes:List Prb
 chal:Int
 left:Bool
def qae (self:Int) (dT dS:List (List Value)) (clock seq pinged np:Int) (dP:List (List Value)) (chal:Int) (left:Bool):Mach :=
 ⟨self,qb dT,qf dS,clock,seq,pinged,(qt dP).take np.toNat,chal,left⟩
def qj (m:Mach):Int:=IntKind.u64.wrap (m.clock + 1)
def qT (m:Mach) (draw:Int):TS:=qb7 m.self (qj m) draw m.tab m.since m.probes
def qaG (n:Nat):Int:=10 + 3 * min (max (n:Int) 0) 16
def qat (m:Mach) (draw:Int):Mach :=
 let st:=qT m draw
 let p:=qbz m.tab.length m.self m.pinged
 let q:=IntKind.u64.wrap (m.seq + 1)
 { m with tab:=qbZ m.self (qj m) (qaG m.tab.length) st.since st.tab,since:=st.since,clock:=qj m,seq:=q,pinged:=p,probes:=st.kept ++ [⟨q,p,qj m,false⟩] }
def qaO (m:Mach) (draw:Int):List Msg:=(qT m draw).msgs ++ [⟨1,0,qbz m.tab.length m.self m.pinged,IntKind.u64.wrap (m.seq + 1),m.self,0⟩]
def qf7 (m:Mach):Prop:=2 <= m.tab.length/\m.tab.length <= 16/\m.since.length = m.tab.length/\0 <= m.self/\m.self < m.tab.length/\0 <= m.pinged/\m.pinged < m.tab.length/\∀ p ∈ m.probes,0 <= p.target/\p.target < m.tab.length
def quP:T:=.vslice 12 (.lit 0) (.var 13) (.var 14) 4
def qh9:SH:=.arr 12 63 qb1 (.var 15) (.var 14)
def m0 (Z:Env):Mach:=qae (Z 1).i (Z 5).d (Z 8).d (Z 9).i (Z 10).i (Z 11).i (Z 13).i (Z 15).d (Z 16).i (Z 17).b
def qxd:List SH:=[qbv quP,qi1,qw6,qh9]
def qrf (Z:Env):Prop:=qf7 (m0 Z)/\(Z 3).i = (Z 5).d.length/\0 <= (Z 13).i/\(Z 13).i <= (Z 15).d.length/\(Z 13).i <= 1000000
def qkl (clock seq pinged rP np capP chal left:T) (rPn:Nat):SH:=.cells 0 117 [.vint .i64 (.var 1),.vslice 2 (.lit 0) (.var 3) (.var 4) 2,.vslice 6 (.lit 0) (.var 3) (.var 7) 1,.vint .u64 clock,.vint .u64 seq,.vint .i64 pinged,.vslice rPn (.lit 0) np capP 4,.vint .u64 chal,.vbool left]
def qgn:Ctr:={ fn:=29,nv:=19,args:=[ptr 0,iv .u64 (.var 18)],heap:=qxd,ro:=[],pre:=fun Z=>qrf Z/\0 <= (Z 18).i/\(Z 18).i < 18446744073709551616,ip:=[(82,0),(164,1)],alts:=[{ k:=0,ret:=.one .vnils,heap:=qxd,post:=fun Z=>(Z 17).b = true },
  { k:=14,ret:=.one (.vslice 19 (.lit 0) (.var 20) (.var 21) 116),heap:=[qkl (.var 22) (.var 23) (.var 24) .dnil (.var 25) (.var 26) (.var 16) (.var 17) 27,.arr 2 25 qp (.var 28) (.var 4),.arr 6 22 [.int .u64] (.var 29) (.var 7),.arr 27 63 qb1 (.var 30) (.var 26),.arr 19 43 qb0 (.var 31) (.var 21),.abs 32 2],post:=fun Z=>(Z 17).b = false/\qae (Z 1).i (Z 28).d (Z 29).d (Z 22).i (Z 23).i (Z 24).i (Z 25).i (Z 30).d (Z 16).i (Z 17).b = qat (m0 Z) (Z 18).i/\(Z 20).i = (Z 31).d.length/\(Z 28).d.length = (Z 5).d.length/\0 <= (Z 25).i/\(Z 25).i <= (Z 30).d.length/\(Z 25).i <= (Z 13).i + 1/\qX (Z 32).h (qaO (m0 Z) (Z 18).i) (Z 1).i (qat (m0 Z) (Z 18).i).tab (qaO (m0 Z) (Z 18).i).length (Z 31).d }] }
def qtm:Inv:={ key:=7,nv:=10,env:=[(0,ptr 0),(1,iv .u64 (.var 18)),(5,.one (.vslice 1005 (.lit 0) (.var 1006) (.var 1007) 116)),(6,.one (.vslice 12 (.lit 0) (.var 1001) (.var 14) 4)),(32,.one quP),(33,iv .i64 (.var 13)),(34,iv .i64 (.var 1000))],heap:=[qkl (.var 1009) (.var 10) (.var 11) .dnil (.var 13) (.var 14) (.var 16) (.var 17) 12,.arr 2 25 qp (.var 1003) (.var 4),.arr 6 22 [.int .u64] (.var 1004) (.var 7),.arr 12 63 qb1 (.var 1002) (.var 14),.arr 1005 43 qb0 (.var 1008) (.var 1007)],inv:=(fun Z=>0 <= (Z 1000).i/\(Z 1000).i <= (Z 13).i/\0 <= (Z 1001).i/\(Z 1001).i <= (Z 1000).i/\(Z 1009).i = qj (m0 Z)/\(Z 1002).d.length = (Z 15).d.length/\(Z 1003).d.length = (Z 5).d.length/\(Z 1004).d.length = (Z 8).d.length/\(Z 1006).i = (Z 1008).d.length/\(Z 1006).i <= 2 * (Z 1000).i/\(qb7 (Z 1).i (Z 1009).i (Z 18).i (qb (Z 5).d) (qf (Z 8).d) ((qt (Z 15).d).take (Z 1000).i.toNat) = ⟨qb (Z 1003).d,qf (Z 1004).d,(qt (Z 1002).d).take (Z 1001).i.toNat,(qb7 (Z 1).i (Z 1009).i (Z 18).i (qb (Z 5).d) (qf (Z 8).d) ((qt (Z 15).d).take (Z 1000).i.toNat)).msgs⟩)/\qC (Z 1008).d (qb7 (Z 1).i (Z 1009).i (Z 18).i (qb (Z 5).d) (qf (Z 8).d) ((qt (Z 15).d).take (Z 1000).i.toNat)).msgs/\(qt (Z 1002).d).drop (Z 1000).i.toNat = (qt (Z 15).d).drop (Z 1000).i.toNat),mu:=(fun Z=>((Z 13).i - (Z 1000).i).toNat) }
def qsx:Inv:={ key:=21,nv:=11,env:=[(0,ptr 0),(5,.one (.vslice 1005 (.lit 0) (.var 1006) (.var 1007) 116)),(6,.one (.vslice 12 (.lit 0) (.var 1002) (.var 14) 4)),(11,iv .u64 (.var 1009)),(94,.one (.vslice 2 (.lit 0) (.var 3) (.var 4) 2)),(95,iv .i64 (.var 3)),(96,iv .i64 (.var 1000))],heap:=[qkl (.var 1010) (.var 10) (.var 11) .dnil (.var 13) (.var 14) (.var 16) (.var 17) 12,.arr 2 25 qp (.var 1001) (.var 4),.arr 6 22 [.int .u64] (.var 1003) (.var 7),.arr 12 63 qb1 (.var 1004) (.var 14),.arr 1005 43 qb0 (.var 1008) (.var 1007)],inv:=(fun Z=>0 <= (Z 1000).i/\(Z 1000).i <= (Z 3).i/\(Z 1010).i = qj (m0 Z)/\(Z 1009).i = qaG (qb (Z 5).d).length/\(Z 1001).d.length = (Z 5).d.length/\(Z 1003).d.length = (Z 8).d.length/\(Z 1006).i = (Z 1008).d.length/\(Z 1006).i <= 2 * (Z 13).i/\0 <= (Z 1002).i/\(Z 1002).i <= (Z 13).i/\(Z 1002).i <= (Z 1004).d.length/\qf (Z 1003).d = (qT (m0 Z) (Z 18).i).since/\(qt (Z 1004).d).take (Z 1002).i.toNat = (qT (m0 Z) (Z 18).i).kept/\qC (Z 1008).d (qT (m0 Z) (Z 18).i).msgs/\(qT (m0 Z) (Z 18).i).tab.length = (Z 5).d.length/\(∀ j:Nat,(qb (Z 1001).d)[j]? = if j < (Z 1000).i.toNat then (qbZ (Z 1).i (qj (m0 Z)) (qaG (qb (Z 5).d).length) (qT (m0 Z) (Z 18).i).since (qT (m0 Z) (Z 18).i).tab)[j]? else (qT (m0 Z) (Z 18).i).tab[j]?)),mu:=(fun Z=>((Z 3).i - (Z 1000).i).toNat) }
theorem Ctr.ok_less {P:Program} {c c':Ctr} (h:c.ok P) (hfn:c'.fn = c.fn) (hnv:c'.nv = c.nv) (ha:c'.args = c.args) (hh:c'.heap = c.heap) (hr:c'.ro = c.ro) (hpre:∀ Z,c'.pre Z->c.pre Z)
  (halt:∀ (Z Z':Env) (ai:Nat) (al:Alt),c'.pre Z->(∀ n,n < c.nv->Z' n = Z n)->c.alts[ai]? = some al->al.post (Z'.upto (c.nv + al.k))->∃ aj:Nat,c'.alts[aj]? = some al):c'.ok P:=by
 refine ⟨fun args w=>by rw [hfn]; exact h.1 args w,fun Z w hF hO hg hd hw hs hro hp=>?_⟩;rw [hfn,ha];refine (h.2 Z w hF hO hg hd hw (hh ▸ hs) (hr ▸ hro) (hpre Z hp)).mono fun e w' hpost=>?_
 obtain ⟨ai,al,Z',h1,h2,h3,h4,h5,h6⟩:=hpost;obtain ⟨aj,hj⟩:=halt Z Z' ai al hp h3 h1 h5;exact ⟨aj,al,Z',hj,h2,fun n hn=>h3 n (by rw [<- hnv]; exact hn),h4,by rw [hnv]; exact h5,h6⟩
end Go.Eng
namespace Go.Proofs
open Go Go.Eng
theorem qaV {Z:Env} {x:SH}:∀ {l:List SH} {h:Hp},qav Z l h->x ∈ l->∃ hx,Hp.le hx h/\x.den Z hx
 | [],_,_,hx=>by cases hx
 | y :: l,h,⟨h1,h2,hd,hu,hy,hs⟩,hx=>by
  subst hu;rcases jba.1 hx with rfl | hx
  ·exact ⟨h1,Hp.le_left _ _,hy⟩
  ·obtain ⟨g,g1,g2⟩:=qaV hs hx
   exact ⟨g,Hp.le_trans g1 (Hp.le_right hd),g2⟩
theorem qb5 {h h':Hp} {pat:List CK} {v:Value} {d:List (List Value)} (hr:Rd h pat v d) (hl:Hp.le h h'):Rd h' pat v d:=by
 rcases hr with h0 | ⟨b,o,cap,c,ty,fr,h1,h2,h3,h4⟩
 ·exact .inl h0
 ·exact .inr ⟨b,o,cap,c,ty,fr,h1,h2,hl _ _ h3,h4⟩
theorem qcL {Z:Env} {r:Nat} {ty:TypeId} {pat:List CK} {d cap:T} {h H:Hp} {n:Nat} {k:Nat} (hx:SH.den Z (.arr r ty pat d cap) h) (hl:Hp.le h H) (hn:n = (d.den Z).d.length) (hc:k = (cap.den Z).i.toNat) :
  Rd H pat (.slice (qg (Z r).r 0) n k) (d.den Z).d:=by
 rcases hx with ⟨h1,h2,h3⟩ | ⟨b,c,h1,h2,h3,h4,h5⟩
 ·refine .inl ⟨none,?_,h2⟩
  rw [h1,hn,h2,hc,h3]; rfl
 ·refine .inr ⟨b,0,k,c,ty,(0,0),by rw [h1,hn]; rfl,by omega,hl _ _ h2,h5⟩
theorem qjy {Z:Env} {l:List SH} {H:Hp} (hs:qav Z l H) {n t:Nat} (hm:SH.abs n t ∈ l):∃ hb,Hp.le hb H/\Hp.le (Z n).h hb:=by
 obtain ⟨hb,lb,db⟩:=qaV hs hm;exact ⟨hb,lb,db.1⟩
def qss:Out:=(fr 0 2 (.ret 0 (sg 0 [])))
theorem qtI:qZ ⟨Try.prog,qG 0 0 0 0 false,[],[]⟩ 100000 Try.f17 = qss:=by kernel_rfl
set_option maxRecDepth 4000 in
theorem qxL:(qG 0 0 0 0 false).ok Try.prog:=by
 refine qn (ctrs:=[]) (invs:=[]) Try.func17 (fun a w=>Try.call17 a w) (by simp []) 100000 (fun Z hg hp=>?_);rw [qtI];simp [qss,qV,qa0,qbf,qas,qy,qau,qap,qF,qW,qz,qS,qad,qaf,qal,qak,qM,qaj,qG,qah,qaH,qa4,qK,qE,qag,qN,qm,qP,qw,qv,qi,qai,qh,qQ,qa5,qR,qL]
def qs9:Out:=(fr 0 2 (.ret 0 (sg 0 [])))
theorem qtM:qZ ⟨Try.prog,qG 1 1 0 0 true,[],[]⟩ 100000 Try.f17 = qs9:=by kernel_rfl
set_option maxRecDepth 4000 in
theorem qxm:(qG 1 1 0 0 true).ok Try.prog:=by
 refine qn (ctrs:=[]) (invs:=[]) Try.func17 (fun a w=>Try.call17 a w) (by simp []) 100000 (fun Z hg hp=>?_);rw [qtM];simp [qs9,qV,qa0,qbf,qas,qy,qau,qap,qF,qW,qz,qS,qad,qaf,qal,qak,qM,qaj,qG,qah,qaH,qa4,qK,qE,qag,qN,qm,qP,qw,qv,qi,qai,qh,qQ,qa5,qR,qL]
def qsG:Out:=(fr 0 2 (.ret 0 (sg 0 [])))
theorem qux:qZ ⟨Try.prog,qG 4 1 3 3 true,[],[]⟩ 100000 Try.f17 = qsG:=by kernel_rfl
set_option maxRecDepth 4000 in
theorem qxK:(qG 4 1 3 3 true).ok Try.prog:=by
 refine qn (ctrs:=[]) (invs:=[]) Try.func17 (fun a w=>Try.call17 a w) (by simp []) 100000 (fun Z hg hp=>?_);rw [qux];simp [qsG,qV,qa0,qbf,qas,qy,qau,qap,qF,qW,qz,qS,qad,qaf,qal,qak,qM,qaj,qG,qah,qaH,qa4,qK,qE,qag,qN,qm,qP,qw,qv,qi,qai,qh,qQ,qa5,qR,qL]
def qsy:Out:=(fr 0 2 (.ret 0 (sg 0 [])))
theorem qu4:qZ ⟨Try.prog,qG 6 2 5 1 true,[],[]⟩ 100000 Try.f17 = qsy:=by kernel_rfl
set_option maxRecDepth 4000 in
theorem qxE:(qG 6 2 5 1 true).ok Try.prog:=by
 refine qn (ctrs:=[]) (invs:=[]) Try.func17 (fun a w=>Try.call17 a w) (by simp []) 100000 (fun Z hg hp=>?_);rw [qu4];simp [qsy,qV,qa0,qbf,qas,qy,qau,qap,qF,qW,qz,qS,qad,qaf,qal,qak,qM,qaj,qG,qah,qaH,qa4,qK,qE,qag,qN,qm,qP,qw,qv,qi,qai,qh,qQ,qa5,qR,qL]
def qyz:Out:=(fr 0 3 (.pre 0 (sg 0 []) (tb (.post 0 0 (sg 0 []) 3 (.ret 0 (sg 0 []))))))
theorem qxX:qZ ⟨Try.prog,qah 0 0 0 0 0 0,[qG 0 0 0 0 false],[]⟩ 100000 Try.f18 = qyz:=by kernel_rfl
set_option maxRecDepth 4000 in
theorem qzw:(qah 0 0 0 0 0 0).ok Try.prog:=by
 refine qn (ctrs:=[qG 0 0 0 0 false]) (invs:=[]) Try.func18 (fun a w=>Try.call18 a w) (by simp [qxL]) 100000 (fun Z hg hp=>?_);rw [qxX];simp [qyz,qV,qa0,qbf,qas,qy,qau,qap,qF,qW,qz,qS,qad,qaf,qal,qak,qM,qaj,qG,qah,qaH,qa4,qK,qE,qag,qN,qm,qP,qw,qv,qi,qai,qh,qQ,qa5,qR,qL]
def qyy:Out:=(fr 0 3 (.pre 0 (sg 0 []) (tb (.post 0 0 (sg 0 []) 3 (.ret 0 (sg 0 []))))))
theorem qxQ:qZ ⟨Try.prog,qah 0 0 1 1 1 1,[qG 1 1 0 0 true],[]⟩ 100000 Try.f18 = qyy:=by kernel_rfl
set_option maxRecDepth 4000 in
theorem qz1:(qah 0 0 1 1 1 1).ok Try.prog:=by
 refine qn (ctrs:=[qG 1 1 0 0 true]) (invs:=[]) Try.func18 (fun a w=>Try.call18 a w) (by simp [qxm]) 100000 (fun Z hg hp=>?_);rw [qxQ];simp [qyy,qV,qa0,qbf,qas,qy,qau,qap,qF,qW,qz,qS,qad,qaf,qal,qak,qM,qaj,qG,qah,qaH,qa4,qK,qE,qag,qN,qm,qP,qw,qv,qi,qai,qh,qQ,qa5,qR,qL]
def qyt:Out:=(fr 0 3 (.pre 0 (sg 0 []) (tb (.post 0 0 (sg 0 []) 3 (.ret 0 (sg 0 []))))))
theorem qxT:qZ ⟨Try.prog,qah 3 3 4 1 4 1,[qG 4 1 3 3 true],[]⟩ 100000 Try.f18 = qyt:=by kernel_rfl
set_option maxRecDepth 4000 in
theorem qz9:(qah 3 3 4 1 4 1).ok Try.prog:=by
 refine qn (ctrs:=[qG 4 1 3 3 true]) (invs:=[]) Try.func18 (fun a w=>Try.call18 a w) (by simp [qxK]) 100000 (fun Z hg hp=>?_);rw [qxT];simp [qyt,qV,qa0,qbf,qas,qy,qau,qap,qF,qW,qz,qS,qad,qaf,qal,qak,qM,qaj,qG,qah,qaH,qa4,qK,qE,qag,qN,qm,qP,qw,qv,qi,qai,qh,qQ,qa5,qR,qL]
def qzT:Out:=(.fresh 5 (tb (.ret 0 (sg 5 []))))
theorem qzk:qZ ⟨Try.prog,qaH 1 0 0 T0,[],[]⟩ 100000 Try.f65 = qzT:=by kernel_rfl
set_option maxRecDepth 4000 in
theorem q0q:(qaH 1 0 0 T0).ok Try.prog:=by
 refine qn (ctrs:=[]) (invs:=[]) Try.func65 (fun a w=>Try.call65 a w) (by simp []) 100000 (fun Z hg hp=>?_);rw [qzk];simp [qzT,qV,qa0,qbf,qas,qy,qau,qap,qF,qW,qz,qS,qad,qaf,qal,qak,qM,qaj,qG,qah,qaH,qa4,qK,qE,qag,qN,qm,qP,qw,qv,qi,qai,qh,qQ,qa5,qR,qL]
def qzD:Out:=(.fresh 5 (tb (.ret 0 (sg 5 []))))
theorem qyP:qZ ⟨Try.prog,qaH 2 1 1 T1,[],[]⟩ 100000 Try.f65 = qzD:=by kernel_rfl
set_option maxRecDepth 4000 in
theorem q0s:(qaH 2 1 1 T1).ok Try.prog:=by
 refine qn (ctrs:=[]) (invs:=[]) Try.func65 (fun a w=>Try.call65 a w) (by simp []) 100000 (fun Z hg hp=>?_);rw [qyP];simp [qzD,qV,qa0,qbf,qas,qy,qau,qap,qF,qW,qz,qS,qad,qaf,qal,qak,qM,qaj,qG,qah,qaH,qa4,qK,qE,qag,qN,qm,qP,qw,qv,qi,qai,qh,qQ,qa5,qR,qL]
def qzM:Out:=(.ret 0 (sg 5 []))
theorem qyS:qZ ⟨Try.prog,qa4 2,[],[]⟩ 100000 Try.f87 = qzM:=by kernel_rfl
set_option maxRecDepth 4000 in
theorem q0t:(qa4 2).ok Try.prog:=by
 refine qn (ctrs:=[]) (invs:=[]) Try.func87 (fun a w=>Try.call87 a w) (by simp []) 100000 (fun Z hg hp=>?_);rw [qyS];simp [qzM,qV,qa0,qbf,qas,qy,qau,qap,qF,qW,qz,qS,qad,qaf,qal,qak,qM,qaj,qG,qah,qaH,qa4,qK,qE,qag,qN,qm,qP,qw,qv,qi,qai,qh,qQ,qa5,qR,qL]
def qy5:Out:=(.fresh 0 (.ret 0 (sg 0 [])))
theorem qym:qZ ⟨Try.prog,qK 6 2,[],[]⟩ 100000 Try.f61 = qy5:=by kernel_rfl
set_option maxRecDepth 4000 in
theorem qzA:(qK 6 2).ok Try.prog:=by
 refine qn (ctrs:=[]) (invs:=[]) Try.func61 (fun a w=>Try.call61 a w) (by simp []) 100000 (fun Z hg hp=>?_);rw [qym];simp [qy5,qV,qa0,qbf,qas,qy,qau,qap,qF,qW,qz,qS,qad,qaf,qal,qak,qM,qaj,qG,qah,qaH,qa4,qK,qE,qag,qN,qm,qP,qw,qv,qi,qai,qh,qQ,qa5,qR,qL]
def qy1:Out:=(.fresh 0 (.ret 0 (sg 0 [])))
theorem qxq:qZ ⟨Try.prog,qK 0 0,[],[]⟩ 100000 Try.f61 = qy1:=by kernel_rfl
set_option maxRecDepth 4000 in
theorem qzs:(qK 0 0).ok Try.prog:=by
 refine qn (ctrs:=[]) (invs:=[]) Try.func61 (fun a w=>Try.call61 a w) (by simp []) 100000 (fun Z hg hp=>?_);rw [qxq];simp [qy1,qV,qa0,qbf,qas,qy,qau,qap,qF,qW,qz,qS,qad,qaf,qal,qak,qM,qaj,qG,qah,qaH,qa4,qK,qE,qag,qN,qm,qP,qw,qv,qi,qai,qh,qQ,qa5,qR,qL]
def qyr:Out:=(.fresh 0 (.ret 0 (sg 0 [])))
theorem qxe:qZ ⟨Try.prog,qK 1 1,[],[]⟩ 100000 Try.f61 = qyr:=by kernel_rfl
set_option maxRecDepth 4000 in
theorem qz5:(qK 1 1).ok Try.prog:=by
 refine qn (ctrs:=[]) (invs:=[]) Try.func61 (fun a w=>Try.call61 a w) (by simp []) 100000 (fun Z hg hp=>?_);rw [qxe];simp [qyr,qV,qa0,qbf,qas,qy,qau,qap,qF,qW,qz,qS,qad,qaf,qal,qak,qM,qaj,qG,qah,qaH,qa4,qK,qE,qag,qN,qm,qP,qw,qv,qi,qai,qh,qQ,qa5,qR,qL]
def qyn:Out:=(.fresh 0 (.pre 0 (sg 0 []) (tb (.post 0 0 (sg 0 []) 1 (.ret 0 (sg 0 []))))))
theorem qxN:qZ ⟨Try.prog,qE 6 2,[qK 6 2],[]⟩ 100000 Try.f60 = qyn:=by kernel_rfl
set_option maxRecDepth 4000 in
theorem qzE:(qE 6 2).ok Try.prog:=by
 refine qn (ctrs:=[qK 6 2]) (invs:=[]) Try.func60 (fun a w=>Try.call60 a w) (by simp [qzA]) 100000 (fun Z hg hp=>?_);rw [qxN];simp [qyn,qV,qa0,qbf,qas,qy,qau,qap,qF,qW,qz,qS,qad,qaf,qal,qak,qM,qaj,qG,qah,qaH,qa4,qK,qE,qag,qN,qm,qP,qw,qv,qi,qai,qh,qQ,qa5,qR,qL]
def qyq:Out:=(.fresh 0 (.pre 0 (sg 0 []) (tb (.post 0 0 (sg 0 []) 1 (.ret 0 (sg 0 []))))))
theorem qxA:qZ ⟨Try.prog,qE 0 0,[qK 0 0],[]⟩ 100000 Try.f60 = qyq:=by kernel_rfl
set_option maxRecDepth 4000 in
theorem qzK:(qE 0 0).ok Try.prog:=by
 refine qn (ctrs:=[qK 0 0]) (invs:=[]) Try.func60 (fun a w=>Try.call60 a w) (by simp [qzs]) 100000 (fun Z hg hp=>?_);rw [qxA];simp [qyq,qV,qa0,qbf,qas,qy,qau,qap,qF,qW,qz,qS,qad,qaf,qal,qak,qM,qaj,qG,qah,qaH,qa4,qK,qE,qag,qN,qm,qP,qw,qv,qi,qai,qh,qQ,qa5,qR,qL]
def qys:Out:=(.fresh 0 (.pre 0 (sg 0 []) (tb (.post 0 0 (sg 0 []) 1 (.ret 0 (sg 0 []))))))
theorem qxP:qZ ⟨Try.prog,qE 1 1,[qK 1 1],[]⟩ 100000 Try.f60 = qys:=by kernel_rfl
set_option maxRecDepth 4000 in
theorem qz2:(qE 1 1).ok Try.prog:=by
 refine qn (ctrs:=[qK 1 1]) (invs:=[]) Try.func60 (fun a w=>Try.call60 a w) (by simp [qz5]) 100000 (fun Z hg hp=>?_);rw [qxP];simp [qys,qV,qa0,qbf,qas,qy,qau,qap,qF,qW,qz,qS,qad,qaf,qal,qak,qM,qaj,qG,qah,qaH,qa4,qK,qE,qag,qN,qm,qP,qw,qv,qi,qai,qh,qQ,qa5,qR,qL]
def qy7:Out:=(.fresh 0 (.ret 0 (sg 0 [])))
theorem qyc:qZ ⟨Try.prog,qag 5 1 true,[],[]⟩ 100000 Try.f72 = qy7:=by kernel_rfl
set_option maxRecDepth 4000 in
theorem qzQ:(qag 5 1 true).ok Try.prog:=by
 refine qn (ctrs:=[]) (invs:=[]) Try.func72 (fun a w=>Try.call72 a w) (by simp []) 100000 (fun Z hg hp=>?_);rw [qyc];simp [qy7,qV,qa0,qbf,qas,qy,qau,qap,qF,qW,qz,qS,qad,qaf,qal,qak,qM,qaj,qG,qah,qaH,qa4,qK,qE,qag,qN,qm,qP,qw,qv,qi,qai,qh,qQ,qa5,qR,qL]
def qyp:Out:=(.fresh 0 (.ret 0 (sg 0 [])))
theorem qxl:qZ ⟨Try.prog,qag 0 0 false,[],[]⟩ 100000 Try.f72 = qyp:=by kernel_rfl
set_option maxRecDepth 4000 in
theorem qzB:(qag 0 0 false).ok Try.prog:=by
 refine qn (ctrs:=[]) (invs:=[]) Try.func72 (fun a w=>Try.call72 a w) (by simp []) 100000 (fun Z hg hp=>?_);rw [qxl];simp [qyp,qV,qa0,qbf,qas,qy,qau,qap,qF,qW,qz,qS,qad,qaf,qal,qak,qM,qaj,qG,qah,qaH,qa4,qK,qE,qag,qN,qm,qP,qw,qv,qi,qai,qh,qQ,qa5,qR,qL]
def qyx:Out:=(.fresh 0 (.ret 0 (sg 0 [])))
theorem qyl:qZ ⟨Try.prog,qag 1 1 true,[],[]⟩ 100000 Try.f72 = qyx:=by kernel_rfl
set_option maxRecDepth 4000 in
theorem qzJ:(qag 1 1 true).ok Try.prog:=by
 refine qn (ctrs:=[]) (invs:=[]) Try.func72 (fun a w=>Try.call72 a w) (by simp []) 100000 (fun Z hg hp=>?_);rw [qyl];simp [qyx,qV,qa0,qbf,qas,qy,qau,qap,qF,qW,qz,qS,qad,qaf,qal,qak,qM,qaj,qG,qah,qaH,qa4,qK,qE,qag,qN,qm,qP,qw,qv,qi,qai,qh,qQ,qa5,qR,qL]
def qqF:Out:=(.pre 0 (sg 0 []) (tb (.post 0 0 (sg 0 []) 11 (.pre 1 (sg 0 []) (tb (.post 1 0 (sg 0 []) 11 (.pre 2 (sg 0 []) (tb (.post 2 0 (sg 0 []) 11 (.ret 0 (sg 11 [])))))))))))
theorem qsi:qZ ⟨Try.prog,qN,[qE 6 2,qE 0 0,qE 1 1],[]⟩ 100000 Try.f84 = qqF:=by kernel_rfl
set_option maxRecDepth 4000 in
theorem qw7:(qN).ok Try.prog:=by
 refine qn (ctrs:=[qE 6 2,qE 0 0,qE 1 1]) (invs:=[]) Try.func84 (fun a w=>Try.call84 a w) (by simp [qzE,qzK,qz2]) 100000 (fun Z hg hp=>?_);rw [qsi];simp [qqF,qV,qa0,qbf,qas,qy,qau,qap,qF,qW,qz,qS,qad,qaf,qal,qak,qM,qaj,qG,qah,qaH,qa4,qK,qE,qag,qN,qm,qP,qw,qv,qi,qai,qh,qQ,qa5,qR,qL]
def qky:Out:=(.pre 0 (sg 0 [bg 10 10]) (tb (.post 0 0 (sg 0 [bg 10 10]) 11 (.ret 0 (sg 11 [])))))
theorem qn6:qZ ⟨Try.prog,qm,[qN],[]⟩ 100000 Try.f59 = qky:=by kernel_rfl
set_option maxRecDepth 4000 in
theorem qpA:(qm).ok Try.prog:=by
 refine qn (ctrs:=[qN]) (invs:=[]) Try.func59 (fun a w=>Try.call59 a w) (by simp [qw7]) 100000 (fun Z hg hp=>?_);rw [qn6];simp [qky,qV,qa0,qbf,qas,qy,qau,qap,qF,qW,qz,qS,qad,qaf,qal,qak,qM,qaj,qG,qah,qaH,qa4,qK,qE,qag,qN,qm,qP,qw,qv,qi,qai,qh,qQ,qa5,qR,qL]
def qrh:Out:=(.pre 0 (sg 0 [bg 10 10]) (tb (.post 0 0 (sg 0 [bg 10 10]) 11 (.ret 0 (sg 11 [])))))
theorem qsl:qZ ⟨Try.prog,qP,[qm],[]⟩ 100000 Try.f20 = qrh:=by kernel_rfl
set_option maxRecDepth 4000 in
theorem qvw:(qP).ok Try.prog:=by
 refine qn (ctrs:=[qm]) (invs:=[]) Try.func20 (fun a w=>Try.call20 a w) (by simp [qpA]) 100000 (fun Z hg hp=>?_);rw [qsl];simp [qrh,qV,qa0,qbf,qas,qy,qau,qap,qF,qW,qz,qS,qad,qaf,qal,qak,qM,qaj,qG,qah,qaH,qa4,qK,qE,qag,qN,qm,qP,qw,qv,qi,qai,qh,qQ,qa5,qR,qL]
def qmC:Out:=(.fresh 11 (tb (.pre 0 (sg 0 [bv 4 4,bv 3 3,bg 1 1,bg 0 0]) (tb (.post 0 0 (sg 0 [bv 4 4,bv 3 3,bg 1 1,bg 0 0]) 12 (tb (.pre 1 (sg 0 [bg 10 10]) (tb (.post 1 0 (sg 0 [bg 10 10]) 12 (.pre 0 (sg 0 [bv 4 4,bv 3 3,bg 1 1,bg 0 0]) (tb (.post 0 0 (sg 0 [bv 4 4,bv 3 3,bg 1 1,bg 0 0]) 12 (.ret 0 (sg 11 []))))))))))))))
theorem qpg:qZ ⟨Try.prog,qw,[qa4 2,qP],[]⟩ 100000 Try.f81 = qmC:=by kernel_rfl
set_option maxRecDepth 4000 in
theorem qsg:(qw).ok Try.prog:=by
 refine qn (ctrs:=[qa4 2,qP]) (invs:=[]) Try.func81 (fun a w=>Try.call81 a w) (by simp [q0t,qvw]) 100000 (fun Z hg hp=>?_);rw [qpg];simp [qmC,qV,qa0,qbf,qas,qy,qau,qap,qF,qW,qz,qS,qad,qaf,qal,qak,qM,qaj,qG,qah,qaH,qa4,qK,qE,qag,qN,qm,qP,qw,qv,qi,qai,qh,qQ,qa5,qR,qL]
def qsO:Out:=(.br (.and (.cmp .eql (.dlen (tv 3)) (tl 0)) (.isnil 0))
 (.need (.cmp .eql (tv 1) (tl 0)) (.ret 0 (sg 4 [bt 6 .dnil,bt 5 (tl 0),(4,.nil)])))
 (.fresh 4 (tn (tl 0) (tv 1) (tn (tv 1) (.dlen (tv 3)) (tn (.tims (tl 16) (tv 1)) (tl 140737488355328) (fr 5 2 (.ret 0 (sg 4 [bt 6 (.dtake (tv 3) (tv 1)),bv 5 6,bg 4 5]))))))))
theorem qvs:qZ ⟨Try.prog,qS,[],[]⟩ 100000 Try.f63 = qsO:=by kernel_rfl
theorem qqr:qS.ok Try.prog:=by
 refine qn (ctrs:=[]) (invs:=[]) Try.func63 (fun a w=>Try.call63 a w) (by simp) 100000 (fun Z hg hp=>?_);rw [qvs];simp [qsO,qS] at hp ⊢;obtain ⟨h1,h2,h3⟩:=hp;refine ⟨fun h=>by rw [h] at h1; simp at h1; omega,fun _=>⟨by omega,by omega,by omega,?_⟩⟩;rw [h1]; simp
def qqc:Out:=(tb (.pre 0 (sg 0 [bv 3 5,bv 2 4,bv 1 3,bg 0 2]) (tb (fr 27 3 (.post 0 0 (sg 0 [bv 3 5,bv 2 4,bv 1 3,bg 0 2]) 27 (tb (ts (tl 0) (.dlen (tv 15)) (tb (tb (tb (tb (tb (.ret 0 (sg 27 [bv 29 29,bv 28 28,bg 27 27]))))))))))))))
theorem qsk:qZ ⟨Try.prog,qad,[qS],[]⟩ 100000 Try.f68 = qqc:=by kernel_rfl
theorem qvx:qad.ok Try.prog:=by
 refine qn (ctrs:=[qS]) (invs:=[]) Try.func68 (fun a w=>Try.call68 a w) (by simp [qqr]) 100000 (fun Z hg hp=>?_);rw [qsk];simp [qqc,qad,qS] at hp ⊢;exact ⟨⟨hp.1,hp.2.1,hp.2.2.1⟩,fun u hu h=>⟨by omega,h⟩⟩
def qqA:Out:=(tb (.pre 0 (sg 0 [bv 3 5,bv 2 4,bv 1 3,bg 0 2]) (tb (fr 150 3 (.post 0 0 (sg 0 [bv 3 5,bv 2 4,bv 1 3,bg 0 2]) 150 (tb (tb (tb (tb (tb (tb (.ret 0 (sg 150 [bv 152 152,bv 151 151,bg 150 150])))))))))))))
theorem qrJ:qZ ⟨Try.prog,qaf,[qS],[]⟩ 100000 Try.f68 = qqA:=by kernel_rfl
theorem qwp:qaf.ok Try.prog:=by
 refine qn (ctrs:=[qS]) (invs:=[]) Try.func68 (fun a w=>Try.call68 a w) (by simp [qqr]) 100000 (fun Z hg hp=>?_);rw [qrJ];simp [qqA,qaf,qS] at hp ⊢;exact hp
def qsI:Out:=(.ret 0 (sg 3 []))
theorem qtJ:qZ ⟨Try.prog,qal,[],[]⟩ 100000 Try.f67 = qsI:=by kernel_rfl
set_option maxRecDepth 4000 in
theorem qyd:(qal).ok Try.prog:=by
 refine qn (ctrs:=[]) (invs:=[]) Try.func67 (fun a w=>Try.call67 a w) (by simp []) 100000 (fun Z hg hp=>?_);rw [qtJ];simp [qsI,qV,qa0,qbf,qas,qy,qau,qap,qF,qW,qz,qS,qad,qaf,qal,qak,qM,qaj,qG,qah,qaH,qa4,qK,qE,qag,qN,qm,qP,qw,qv,qi,qai,qh,qQ,qa5,qR,qL]
def qsD:Out:=(.ret 0 (sg 0 []))
theorem qu8:qZ ⟨Try.prog,qak,[],[]⟩ 100000 Try.f24 = qsD:=by kernel_rfl
set_option maxRecDepth 4000 in
theorem qxB:(qak).ok Try.prog:=by
 refine qn (ctrs:=[]) (invs:=[]) Try.func24 (fun a w=>Try.call24 a w) (by simp []) 100000 (fun Z hg hp=>?_);rw [qu8];simp [qsD,qV,qa0,qbf,qas,qy,qau,qap,qF,qW,qz,qS,qad,qaf,qal,qak,qM,qaj,qG,qah,qaH,qa4,qK,qE,qag,qN,qm,qP,qw,qv,qi,qai,qh,qQ,qa5,qR,qL]
def qqj:Out:=(.ret 0 (sg 9 []))
theorem qrL:qZ ⟨Try.prog,qM,[],[]⟩ 100000 Try.f64 = qqj:=by kernel_rfl
set_option maxRecDepth 4000 in
theorem qoH:(qM).ok Try.prog:=by
 refine qn (ctrs:=[]) (invs:=[]) Try.func64 (fun a w=>Try.call64 a w) (by simp []) 100000 (fun Z hg hp=>?_);rw [qrL];simp [qqj,qV,qa0,qbf,qas,qy,qau,qap,qF,qW,qz,qS,qad,qaf,qal,qak,qM,qaj,qG,qah,qaH,qa4,qK,qE,qag,qN,qm,qP,qw,qv,qi,qai,qh,qQ,qa5,qR,qL]
@[simp] def qo2:Sg:=sg 0 [bt 8 (tl 0),bt 7 .vnils,bt 6 (tl 0),bt 5 (tl 0),bt 4 (tl 0),bt 3 (.vslice 2 (tl 0) (tl 3) (tl 3) 1),bt 2 (.vslice 1 (tl 0) (tl 3) (tl 3) 2),bt 1 (tl 0),bg 0 0]
@[simp] def qoB:Sg:=sg 0 [bt 5 (.dput (.drep (tl 3) (.rcons (.vint .u64 (tl 0)) (.rcons (tu (tl 0)) .rnil))) (tl 0) 0 (.rcons (.vint .u64 (tl 5)) (.rcons (tu (tl 1)) .rnil))),bt 26 (.bl false),bt 25 (tl 0),bt 24 (.vslice 7 (tl 0) (tl 1) (tv 8) 4),bt 23 (tl 1),bt 22 (tl 1),bt 21 (tl 1),bt 20 (.vslice 2 (tl 0) (tl 3) (tl 3) 1),bt 4 (tl 3),bt 3 (tl 3),bg 2 1,bt 1 (tl 0),bt 15 (.rcons (tu (tl 1)) (.rcons (ti (tl 0)) (.rcons (ti (tl 1)) (.rcons (.vint .u64 (tl 1)) (.rcons (ti (tl 0)) (.rcons (ti (tl 0)) (.rcons .vnils (.rcons .vnils (.rcons .vnils (.rcons (ti (tl 0)) (rr 32 (tu (tl 0)) (.rcons .vnils (.rcons (.vbool (.bl false)) (rr 32 (tu (tl 0)) (rr 4 (ti (tl 0)) (rr 32 (tu (tl 0)) (.rcons .vnils (.rcons (ti (tl 0)) (.rcons .vnils (.rcons (ti (tl 0)) .rnil)))))))))))))))))))),bv 11 11,bg 10 10,bg 0 0]
def qs8:Out:=(.pre 1 qo2 (tb (.post 1 0 qo2 3 (.pre 3 (sg 0 []) (tb (.post 3 0 (sg 0 []) 3 (fr 3 3 (.pre 2 (sg 0 [bg 2 2,bg 1 1,bg 0 0]) (tb (.post 2 0 (sg 0 [bg 2 2,bg 1 1,bg 0 0]) 6 (tb (.fresh 6 (tb (tn (.tims (tl 32) (tl 1)) (tl 140737488355328) (fr 7 2 (tb (tb (tb (tb (.fresh 9 (tb (tn (.tims (tl 352) (tl 1)) (tl 140737488355328) (fr 10 2 (tb (.pre 0 qoB (tb (fr 12 3 (.post 0 0 qoB 12 (.ret 0 (sg 3 [bv 7 14,bv 6 13,bg 5 12,bv 9 8,bg 8 7,bv 4 11,bg 3 10]))))))))))))))))))))))))))))))
theorem qup:qZ ⟨Try.prog,qaj,[qad,qM,qal,qak],[]⟩ 100000 Try.f29 = qs8:=by kernel_rfl
set_option maxRecDepth 4000 in
theorem qxx:(qaj).ok Try.prog:=by
 refine qn (ctrs:=[qad,qM,qal,qak]) (invs:=[]) Try.func29 (fun a w=>Try.call29 a w) (by simp [qvx,qoH,qyd,qxB]) 100000 (fun Z hg hp=>?_);rw [qup];simp [qs8,qV,qa0,qbf,qas,qy,qau,qap,qF,qW,qz,qS,qad,qaf,qal,qak,qM,qaj,qG,qah,qaH,qa4,qK,qE,qag,qN,qm,qP,qw,qv,qi,qai,qh,qQ,qa5,qR,qL]
@[simp] def qj6:Sg:=sg 0 [bt 8 (tl 0),bv 7 4,bt 6 (tl 1),bt 5 (tl 1),bt 4 (tl 1),bv 3 3,bt 2 (.vslice 1 (tl 0) (tl 3) (tl 3) 2),bt 1 (tl 0),bg 0 0]
@[simp] def qiU:Sg:=sg 0 [bt 5 (.dput (.dput (.dput (.drep (tl 3) (.rcons (.vint .u64 (tl 0)) (.rcons (tu (tl 0)) .rnil))) (tl 0) 0 (.rcons (.vint .u64 (tl 5)) (.rcons (tu (tl 1)) .rnil))) (tl 1) 0 (.rcons (.vint .u64 (tl 0)) (.rcons (tu (tl 0)) .rnil))) (tl 2) 0 (.rcons (.vint .u64 (tl 1)) (.rcons (tu (tl 1)) .rnil))),bt 26 (.bl false),bt 25 (tl 6),bv 24 4,bt 23 (tl 1),bt 22 (tl 1),bt 21 (tl 1),bv 20 3,bt 4 (tl 3),bt 3 (tl 3),bg 2 1,bt 1 (tl 0),bt 145 (ti (tl 0)),bt 144 .vnils,bt 143 (ti (tl 0)),bt 142 .vnils,bt 141 (tu (tl 0)),bt 140 (tu (tl 0)),bt 139 (tu (tl 0)),bt 138 (tu (tl 0)),bt 137 (tu (tl 0)),bt 136 (tu (tl 0)),bt 135 (tu (tl 0)),bt 134 (tu (tl 0)),bt 133 (tu (tl 0)),bt 132 (tu (tl 0)),bt 131 (tu (tl 0)),bt 130 (tu (tl 0)),bt 129 (tu (tl 0)),bt 128 (tu (tl 0)),bt 127 (tu (tl 0)),bt 126 (tu (tl 0)),bt 125 (tu (tl 0)),bt 124 (tu (tl 0)),bt 123 (tu (tl 0)),bt 122 (tu (tl 0)),bt 121 (tu (tl 0)),bt 120 (tu (tl 0)),bt 119 (tu (tl 0)),bt 118 (tu (tl 0)),bt 117 (tu (tl 0)),bt 116 (tu (tl 0)),bt 115 (tu (tl 0)),bt 114 (tu (tl 0)),bt 113 (tu (tl 0)),bt 112 (tu (tl 0)),bt 111 (tu (tl 0)),bt 110 (tu (tl 0)),bt 109 (ti (tl 0)),bt 108 (ti (tl 0)),bt 107 (ti (tl 0)),bt 106 (ti (tl 0)),bt 105 (tu (tl 0)),bt 104 (tu (tl 0)),bt 103 (tu (tl 0)),bt 102 (tu (tl 0)),bt 101 (tu (tl 0)),bt 100 (tu (tl 0)),bt 99 (tu (tl 0)),bt 98 (tu (tl 0)),bt 97 (tu (tl 0)),bt 96 (tu (tl 0)),bt 95 (tu (tl 0)),bt 94 (tu (tl 0)),bt 93 (tu (tl 0)),bt 92 (tu (tl 0)),bt 91 (tu (tl 0)),bt 90 (tu (tl 0)),bt 89 (tu (tl 0)),bt 88 (tu (tl 0)),bt 87 (tu (tl 0)),bt 86 (tu (tl 0)),bt 85 (tu (tl 0)),bt 84 (tu (tl 0)),bt 83 (tu (tl 0)),bt 82 (tu (tl 0)),bt 81 (tu (tl 0)),bt 80 (tu (tl 0)),bt 79 (tu (tl 0)),bt 78 (tu (tl 0)),bt 77 (tu (tl 0)),bt 76 (tu (tl 0)),bt 75 (tu (tl 0)),bt 74 (tu (tl 0)),bt 73 (.vbool (.bl false)),bt 72 .vnils,bt 71 (tu (tl 0)),bt 70 (tu (tl 0)),bt 69 (tu (tl 0)),bt 68 (tu (tl 0)),bt 67 (tu (tl 0)),bt 66 (tu (tl 0)),bt 65 (tu (tl 0)),bt 64 (tu (tl 0)),bt 63 (tu (tl 0)),bt 62 (tu (tl 0)),bt 61 (tu (tl 0)),bt 60 (tu (tl 0)),bt 59 (tu (tl 0)),bt 58 (tu (tl 0)),bt 57 (tu (tl 0)),bt 56 (tu (tl 0)),bt 55 (tu (tl 0)),bt 54 (tu (tl 0)),bt 53 (tu (tl 0)),bt 52 (tu (tl 0)),bt 51 (tu (tl 0)),bt 50 (tu (tl 0)),bt 49 (tu (tl 0)),bt 48 (tu (tl 0)),bt 47 (tu (tl 0)),bt 46 (tu (tl 0)),bt 45 (tu (tl 0)),bt 44 (tu (tl 0)),bt 43 (tu (tl 0)),bt 42 (tu (tl 0)),bt 41 (tu (tl 0)),bt 40 (tu (tl 0)),bt 39 (ti (tl 0)),bt 38 .vnils,bt 37 .vnils,bt 36 .vnils,bt 35 (ti (tl 0)),bt 34 (ti (tl 2)),bt 33 (.vint .u64 (tl 9)),bt 32 (ti (tl 2)),bt 31 (ti (tl 0)),bt 30 (tu (tl 2)),bg 10 16,bg 0 0]
def qm4:Out:=(.fresh 11 (.pre 0 qj6 (tb (.post 0 0 qj6 12 (.pre 1 (sg 0 [bv 4 4,bv 3 3,bg 1 1,bg 10 10,bg 0 0]) (tb (.post 1 0 (sg 0 [bv 4 4,bv 3 3,bg 1 1,bg 10 10,bg 0 0]) 12 (.fresh 12 (tb (.pre 2 (sg 0 []) (tb (.post 2 0 (sg 0 []) 13 (tb (.fresh 13 (tb (.pre 3 (sg 0 []) (tb (.post 3 0 (sg 0 []) 14 (tb (.pre 5 (sg 0 [bv 4 4,bv 3 3,bg 1 1,bg 0 0]) (tb (.post 5 0 (sg 0 [bv 4 4,bv 3 3,bg 1 1,bg 0 0]) 14 (.fresh 14 (tb (.pre 4 (sg 0 []) (tb (.post 4 0 (sg 0 []) 15 (tb (.pre 6 (sg 0 [bv 4 4,bv 3 3,bg 1 1,bg 0 0]) (tb (.post 6 0 (sg 0 [bv 4 4,bv 3 3,bg 1 1,bg 0 0]) 15 (fr 15 2 (.pre 7 qiU (tb (fr 17 3 (.post 7 0 qiU 17 (.ret 0 (sg 11 [bv 14 19,bv 13 18,bg 12 17,bg 11 16]))))))))))))))))))))))))))))))))))))))
theorem qpi:qZ ⟨Try.prog,qv,[qM,qw,qG 6 2 5 1 true,qah 0 0 0 0 0 0,qah 0 0 1 1 1 1,qaH 1 0 0 T0,qaH 2 1 1 T1,qaf],[]⟩ 100000 Try.f58 = qm4:=by kernel_rfl
set_option maxRecDepth 4000 in
theorem qsn:(qv).ok Try.prog:=by
 refine qn (ctrs:=[qM,qw,qG 6 2 5 1 true,qah 0 0 0 0 0 0,qah 0 0 1 1 1 1,qaH 1 0 0 T0,qaH 2 1 1 T1,qaf]) (invs:=[]) Try.func58 (fun a w=>Try.call58 a w) (by simp [qoH,qsg,qxE,qzw,qz1,q0q,q0s,qwp]) 100000 (fun Z hg hp=>?_);rw [qpi];simp [qm4,qV,qa0,qbf,qas,qy,qau,qap,qF,qW,qz,qS,qad,qaf,qal,qak,qM,qaj,qG,qah,qaH,qa4,qK,qE,qag,qN,qm,qP,qw,qv,qi,qai,qh,qQ,qa5,qR,qL]
def qqV:Out:=(.fresh 2 (.pre 0 (sg 0 []) (tb (.post 0 0 (sg 0 []) 3 (.fresh 3 (tn (.tims (tl 8) (tl 1)) (tl 140737488355328) (fr 4 3 (.pre 1 (sg 0 []) (tb (.post 1 0 (sg 0 []) 7 (.fresh 7 (.pre 2 (sg 0 []) (tb (.post 2 0 (sg 0 []) 8 (.fresh 8 (tn (.tims (tl 8) (tl 2)) (tl 140737488355328) (fr 9 2 (.ret 0 (sg 2 [bt 4 (.dapp (.rcons (ti (tl 0)) .rnil) (.rcons (ti (tl 2)) .rnil)),bv 3 10,bg 2 9])))))))))))))))))))
theorem qrN:qZ ⟨Try.prog,qi,[qag 5 1 true,qag 0 0 false,qag 1 1 true],[]⟩ 100000 Try.f37 = qqV:=by kernel_rfl
set_option maxRecDepth 4000 in
theorem qwq:(qi).ok Try.prog:=by
 refine qn (ctrs:=[qag 5 1 true,qag 0 0 false,qag 1 1 true]) (invs:=[]) Try.func37 (fun a w=>Try.call37 a w) (by simp [qzQ,qzB,qzJ]) 100000 (fun Z hg hp=>?_);rw [qrN];simp [qqV,qV,qa0,qbf,qas,qy,qau,qap,qF,qW,qz,qS,qad,qaf,qal,qak,qM,qaj,qG,qah,qaH,qa4,qK,qE,qag,qN,qm,qP,qw,qv,qi,qai,qh,qQ,qa5,qR,qL]
def qsR:Out:=(.pre 0 (sg 0 [bg 1 1]) (tb (fr 5 3 (.post 0 0 (sg 0 [bg 1 1]) 5 (.ret 0 (sg 5 [bv 7 7,bv 6 6,bg 5 5]))))))
theorem qtu:qZ ⟨Try.prog,qai,[qi],[]⟩ 100000 Try.f30 = qsR:=by kernel_rfl
set_option maxRecDepth 4000 in
theorem qxD:(qai).ok Try.prog:=by
 refine qn (ctrs:=[qi]) (invs:=[]) Try.func30 (fun a w=>Try.call30 a w) (by simp [qwq]) 100000 (fun Z hg hp=>?_);rw [qtu];simp [qsR,qV,qa0,qbf,qas,qy,qau,qap,qF,qW,qz,qS,qad,qaf,qal,qak,qM,qaj,qG,qah,qaH,qa4,qK,qE,qag,qN,qm,qP,qw,qv,qi,qai,qh,qQ,qa5,qR,qL]
def qtb:Out:=(.ret 0 (sg 5 []))
theorem qtv:qZ ⟨Try.prog,qh,[],[]⟩ 100000 Try.f50 = qtb:=by kernel_rfl
set_option maxRecDepth 4000 in
theorem qxG:(qh).ok Try.prog:=by
 refine qn (ctrs:=[]) (invs:=[]) Try.func50 (fun a w=>Try.call50 a w) (by simp []) 100000 (fun Z hg hp=>?_);rw [qtv];simp [qtb,qV,qa0,qbf,qas,qy,qau,qap,qF,qW,qz,qS,qad,qaf,qal,qak,qM,qaj,qG,qah,qaH,qa4,qK,qE,qag,qN,qm,qP,qw,qv,qi,qai,qh,qQ,qa5,qR,qL]
def qqg:Out:=(.ret 0 (sg 5 []))
theorem qrV:qZ ⟨Try.prog,qQ,[],[]⟩ 100000 Try.f45 = qqg:=by kernel_rfl
set_option maxRecDepth 4000 in
theorem qv4:(qQ).ok Try.prog:=by
 refine qn (ctrs:=[]) (invs:=[]) Try.func45 (fun a w=>Try.call45 a w) (by simp []) 100000 (fun Z hg hp=>?_);rw [qrV];simp [qqg,qV,qa0,qbf,qas,qy,qau,qap,qF,qW,qz,qS,qad,qaf,qal,qak,qM,qaj,qG,qah,qaH,qa4,qK,qE,qag,qN,qm,qP,qw,qv,qi,qai,qh,qQ,qa5,qR,qL]
def qwe:Out:=(.both (tn (.tims (tl 16) (tl 3)) (tl 281474976710656) (.fresh 0 (tb (tn (.tims (tl 8) (tl 3)) (tl 281474976710656) (.fresh 1 (tb (.fresh 2 (.ret 0 (sg 0 [bg 2 1,bg 1 0,bg 0 2]))))))))) (tb (tn (.tims (tl 8) (tl 3)) (tl 281474976710656) (.fresh 0 (tb (tn (.tims (tl 16) (tl 3)) (tl 281474976710656) (.fresh 1 (tb (.fresh 2 (.ret 0 (sg 0 [bg 2 0,bg 1 1,bg 0 2])))))))))))
theorem qvY:qZ ⟨Try.prog,qa5,[],[]⟩ 100000 Try.f22 = qwe:=by kernel_rfl
set_option maxRecDepth 4000 in
theorem qyX:(qa5).ok Try.prog:=by
 refine qn (ctrs:=[]) (invs:=[]) Try.func22 (fun a w=>Try.call22 a w) (by simp []) 100000 (fun Z hg hp=>?_);rw [qvY];simp [qwe,qV,qa0,qbf,qas,qy,qau,qap,qF,qW,qz,qS,qad,qaf,qal,qak,qM,qaj,qG,qah,qaH,qa4,qK,qE,qag,qN,qm,qP,qw,qv,qi,qai,qh,qQ,qa5,qR,qL]
@[simp] def qef:Sg:=sg 0 [bt 4 (.vslice 8 (tl 0) (tl 1) (tv 9) 4),bt 3 (.vslice 2 (tl 0) (tl 3) (tl 3) 1),bg 1 1,bg 0 0]
@[simp] def qnT:Sg:=sg 0 [bt 4 (.vslice 8 (tl 0) (tl 1) (tv 9) 4),bt 3 (.vslice 2 (tl 0) (tl 3) (tl 3) 1),bg 1 1,bg 10 10,bg 0 0]
def qsP:Out:=(.pre 0 (sg 0 []) (tb (fr 0 3 (.post 0 0 (sg 0 []) 0 (.pre 1 (sg 0 []) (tb (.post 1 0 (sg 0 []) 3 (.pre 2 (sg 0 [bg 2 2,bg 1 1,bg 0 0]) (tb (fr 3 7 (.post 2 0 (sg 0 [bg 2 2,bg 1 1,bg 0 0]) 3 (.fresh 10 (.pre 3 qnT (tb (fr 11 4 (.post 3 0 qnT 11 (.pre 4 qef (tb (.post 4 0 qef 15 (.pre 5 qef (tb (fr 15 3 (.post 5 0 qef 15 (.pre 6 qef (tb (.post 6 0 qef 18 (.ret 0 (sg 0 []))))))))))))))))))))))))))))
theorem qu6:qZ ⟨Try.prog,qR,[qa5,qah 3 3 4 1 4 1,qaj,qv,qh,qai,qQ],[]⟩ 100000 Try.f19 = qsP:=by kernel_rfl
set_option maxRecDepth 4000 in
theorem qpL:(qR).ok Try.prog:=by
 refine qn (ctrs:=[qa5,qah 3 3 4 1 4 1,qaj,qv,qh,qai,qQ]) (invs:=[]) Try.func19 (fun a w=>Try.call19 a w) (by simp [qyX,qz9,qxx,qsn,qxG,qxD,qv4]) 100000 (fun Z hg hp=>?_);rw [qu6];simp [qsP,qV,qa0,qbf,qas,qy,qau,qap,qF,qW,qz,qS,qad,qaf,qal,qak,qM,qaj,qG,qah,qaH,qa4,qK,qE,qag,qN,qm,qP,qw,qv,qi,qai,qh,qQ,qa5,qR,qL]
def qsT:Out:=(.br (.cmp .lss (tv 0) (tl 0))
 (.ret 0 (sg 1 [bt 1 (tl 0)]))
 (.br (.cmp .gtr (tv 0) (tl 16))
 (.ret 0 (sg 1 [bt 1 (tl 16)]))
 (.ret 0 (sg 1 [bv 1 0]))))
theorem qxh:ql Try.prog qj0 [] [] qsT:=qe Try.func62 Try.call62 (by kernel_rfl)
def qws:Out:=(.ret 0 (sg 1 [bt 1 (.arith .add .i64 (tl 10) (.arith .mul .i64 (tl 3) (.imin (.imax (tv 0) (tl 0)) (tl 16))))]))
theorem qyM:ql Try.prog qap [] [] qws:=qe Try.func24 Try.call24 (by kernel_rfl)
def qok:Out:=(.pre 0 (sg 0 [bv 0 0]) (tb (.fresh 1 (.post 0 0 (sg 0 [bv 0 0]) 1 (.ret 0 (sg 1 [bt 1 (.arith .add .i64 (tl 10) (.arith .mul .i64 (tl 3) (tv 1)))]))))))
theorem quK:ql Try.prog qF [qj0] [] qok:=qe Try.func25 Try.call25 (by kernel_rfl)
def qtl:Out:=(fr 4 2 (.br (.cmp .gtr (tv 0) (tv 2))
 (.need (.beq (.or (.cmp .gtr (tv 0) (tv 2)) (.and (.cmp .eql (tv 0) (tv 2)) (.cmp .gtr (tv 1) (tv 3)))) (.bl true)) (.ret 0 (sg 4 [])))
 (.br (.cmp .eql (tv 0) (tv 2))
 (.need (.beq (.or (.cmp .gtr (tv 0) (tv 2)) (.and (.cmp .eql (tv 0) (tv 2)) (.cmp .gtr (tv 1) (tv 3)))) (.cmp .gtr (tv 1) (tv 3))) (.ret 0 (sg 4 [])))
 (.need (.beq (.or (.cmp .gtr (tv 0) (tv 2)) (.and (.cmp .eql (tv 0) (tv 2)) (.cmp .gtr (tv 1) (tv 3)))) (.bl false)) (.ret 0 (sg 4 []))))))
theorem qx6:ql Try.prog qdk [] [] qtl:=qe Try.func17 Try.call17 (by kernel_rfl)
def qvB:Out:=(fr 4 3 (.pre 0 (sg 0 [bv 3 1,bv 2 0,bv 1 3,bv 0 2]) (tb (.post 0 0 (sg 0 [bv 3 1,bv 2 0,bv 1 3,bv 0 2]) 7 (.br (.or (.cmp .gtr (tv 2) (tv 0)) (.and (.cmp .eql (tv 2) (tv 0)) (.cmp .gtr (tv 3) (tv 1))))
 (.ret 0 (sg 4 []))
 (.ret 1 (sg 4 [])))))))
theorem qzq:ql Try.prog qgV [qdk] [] qvB:=qe Try.func18 Try.call18 (by kernel_rfl)
theorem qaU {x:Int} (h1:-9223372036854775808 <= x) (h2:x <= 9223372036854775807):IntKind.i64.wrap x = x:=by
 simp [IntKind.wrap,IntKind.signed,IntKind.bits]; omega
theorem qxU:qj0.ok Try.prog:=qxh (by simp) fun Z hg hp=>by
 simp [qsT,qj0]; omega
theorem qyN:qap.ok Try.prog:=qyM (by simp) fun Z hg hp=>by
 simp [qws,qap,qk,qaU];rw [qaU (x:=3 * _) (by omega) (by omega),qaU (by omega) (by omega)];omega
theorem qu2:qF.ok Try.prog:=quK (by simp [qxU]) fun Z hg hp=>by
 simp [qok,qF,qap,qj0,qk];intro u hu h;rw [qaU (x:=3 * _) (by omega) (by omega),qaU (by omega) (by omega),h]
theorem qpU:qdk.ok Try.prog:=qx6 (by simp) fun Z hg hp=>by
 simp [qtl,qdk,qV];refine ⟨fun h=>.inl h,fun h=>⟨fun h'=>?_,fun h'=>⟨h,.inl h'⟩⟩⟩;cases hx:qO BinOp.gtr (Z 1).i (Z 3).i <;> cases hy:qO BinOp.gtr (Z 0).i (Z 2).i <;> simp_all <;> omega
theorem qzn:qgV.ok Try.prog:=qzq (by simp [qpU]) fun Z hg hp=>by
 simp [qvB,qgV,qa0,qdk,qV,qcy]
def qnM:Out:=(.br (.and (.cmp .eql (.dlen (tv 3)) (tl 0)) (.isnil 0))
 (.need (.cmp .eql (tv 1) (tl 0)) (.ret 0 (sg 5 [bt 7 .dnil,bt 6 (tl 0),(5,.nil)])))
 (.fresh 5 (tn (tl 0) (tv 1) (tn (tv 1) (.dlen (tv 3)) (tn (.tims (tl 16) (tv 1)) (tl 140737488355328) (fr 6 2 (.ret 0 (sg 5 [bt 7 (.dtake (tv 3) (tv 1)),bv 6 7,bg 5 6]))))))))
theorem quz:ql Try.prog qdX [] [] qnM:=qe Try.func63 Try.call63 (by kernel_rfl)
def qoY:Out:=(.fresh 2 (.br (.cmp .leq (tv 1) (tl 4))
 (.ret 0 (sg 2 [bt 2 (.beq (.cmp .eql (tv 0) (tl 0)) (.cmp .eql (tv 1) (tl 0)))]))
 (.ret 0 (sg 2 [bt 2 (.bl false)]))))
theorem qt6:ql Try.prog qbA [] [] qoY:=qe Try.func61 Try.call61 (by kernel_rfl)
def qqb:Out:=(.fresh 2 (.br (.cmp .leq (tv 1) (tl 4))
 (.ret 0 (sg 2 [bt 2 (.beq (.cmp .eql (tv 0) (tl 0)) (.cmp .eql (tv 1) (tl 0)))]))
 (.ret 0 (sg 2 [bt 2 (.bl false)]))))
theorem qwG:ql Try.prog qh4 [] [] qqb:=qe Try.func71 Try.call71 (by kernel_rfl)
def qoQ:Out:=(.fresh 2 (.pre 0 (sg 0 [bv 1 1,bv 0 0]) (tb (.fresh 3 (.post 0 0 (sg 0 [bv 1 1,bv 0 0]) 3 (.ret 0 (sg 2 [bt 2 (.not (tv 3))])))))))
theorem qvu:ql Try.prog qg0 [qbA] [] qoQ:=qe Try.func60 Try.call60 (by kernel_rfl)
def qqe:Out:=(.fresh 2 (.br (.cmp .eql (tv 1) (tl 1))
 (.ret 0 (sg 2 [bt 2 (.bl true)]))
 (.ret 0 (sg 2 [bt 2 (.cmp .eql (tv 1) (tl 2))]))))
theorem qwx:ql Try.prog qhF [] [] qqe:=qe Try.func72 Try.call72 (by kernel_rfl)
def qnZ:Out:=(tn (tl 0) (tv 1) (.inv 0 5 (sg 1000 [bt 1000 (tl 0)]) (.fresh 5 (.hyp 0 5 (.br (.cmp .lss (tv 5) (tv 1))
 (tn (tl 0) (tv 5) (ts (tv 5) (.dlen (tv 3)) (.pre 0 (sg 0 [bt 1 (.icell (tv 3) (tv 5) 1),bt 0 (.icell (tv 3) (tv 5) 0)]) (tb (.fresh 6 (.post 0 0 (sg 0 [bt 1 (.icell (tv 3) (tv 5) 1),bt 0 (.icell (tv 3) (tv 5) 0)]) 6 (.br (tv 6)
 (.ret 0 (sg 5 [bv 5 5]))
 (.back 0 5 (sg 1000 [bt 1000 (.arith .add .i64 (tv 5) (tl 1))])))))))))
 (.ret 0 (sg 5 [bt 5 (.lit (-1))])))))))
theorem quR:ql Try.prog qbN [qg0] [qgv] qnZ:=qe Try.func84 Try.call84 (by kernel_rfl)
def qjq:Out:=(.pre 0 (sg 0 [bv 4 4,bv 3 3,bv 2 2,bv 1 1,bg 0 0]) (tb (.fresh 5 (.post 0 0 (sg 0 [bv 4 4,bv 3 3,bv 2 2,bv 1 1,bg 0 0]) 5 (.ret 0 (sg 5 [bt 5 (.cmp .geq (tv 5) (tl 0))]))))))
theorem qph:ql Try.prog qbT [qbN] [] qjq:=qe Try.func59 Try.call59 (by kernel_rfl)
def qox:Out:=(tn (tl 0) (tv 1) (.br (.cmp .geq (tv 1) (tl 1))
 (.br (.cmp .leq (tv 1) (tl 16))
 (.pre 0 (sg 0 [bv 4 4,bv 3 3,bv 2 2,bv 1 1,bg 0 0]) (tb (.fresh 5 (.post 0 0 (sg 0 [bv 4 4,bv 3 3,bv 2 2,bv 1 1,bg 0 0]) 5 (.ret 0 (sg 5 [bt 5 (.not (tv 5))]))))))
 (.ret 0 (sg 5 [bt 5 (.bl false)])))
 (.ret 0 (sg 5 [bt 5 (.bl false)]))))
theorem quq:ql Try.prog qdo [qbT] [] qox:=qe Try.func20 Try.call20 (by kernel_rfl)
def qiX:Out:=(tn (tl 0) (tv 1) (.br (.cmp .lss (tv 1) (tl 1))
 (.ret 0 (sg 5 [bt 5 (.bl false)]))
 (.br (.cmp .gtr (tv 1) (tl 16))
 (.ret 0 (sg 5 [bt 5 (.bl false)]))
 (.inv 0 5 (sg 1000 [bt 1000 (tl 0)]) (.fresh 5 (.hyp 0 5 (.br (.cmp .lss (tv 5) (tv 1))
 (tn (tl 0) (tv 5) (ts (tv 5) (.dlen (tv 3)) (.pre 0 (sg 0 [bt 1 (.icell (tv 3) (tv 5) 1),bt 0 (.icell (tv 3) (tv 5) 0)]) (tb (.fresh 6 (.post 0 0 (sg 0 [bt 1 (.icell (tv 3) (tv 5) 1),bt 0 (.icell (tv 3) (tv 5) 0)]) 6 (.br (.not (tv 6))
 (.ret 0 (sg 5 [bt 5 (.bl false)]))
 (.back 0 5 (sg 1000 [bt 1000 (.arith .add .i64 (tv 5) (tl 1))])))))))))
 (.ret 0 (sg 5 [bt 5 (.bl true)])))))))))
theorem qpx:ql Try.prog qdM [qh4] [qkv] qiX:=qe Try.func35 Try.call35 (by kernel_rfl)
def qsY:Out:=(.fresh 5 (tn (tl 0) (tv 1) (tn (tv 1) (.dlen (tv 3)) (tn (.tims (tl 16) (tv 1)) (tl 140737488355328) (fr 6 2 (.ret 0 (sg 5 [bt 7 (.dtake (tv 3) (tv 1)),bv 6 7,bg 5 6])))))))
theorem qxM:ql Try.prog qgL [] [] qsY:=qe Try.func21 Try.call21 (by kernel_rfl)
def qjS:Out:=(fr 4 2 (.br (.cmp .neq (tv 0) (tv 2))
 (.need (.beq (.or (.cmp .gtr (tv 0) (tv 2)) (.and (.cmp .eql (tv 0) (tv 2)) (.cmp .gtr (tv 1) (tv 3)))) (.cmp .gtr (tv 0) (tv 2))) (.ret 0 (sg 4 [])))
 (.need (.beq (.or (.cmp .gtr (tv 0) (tv 2)) (.and (.cmp .eql (tv 0) (tv 2)) (.cmp .gtr (tv 1) (tv 3)))) (.cmp .gtr (tv 1) (tv 3))) (.ret 0 (sg 4 [])))))
theorem qp0:ql Try.prog qcr [] [] qjS:=qe Try.func79 Try.call79 (by kernel_rfl)
def qkF:Out:=(fr 4 3 (.pre 0 (sg 0 [bv 3 1,bv 2 0,bv 1 3,bv 0 2]) (tb (.post 0 0 (sg 0 [bv 3 1,bv 2 0,bv 1 3,bv 0 2]) 7 (.br (.or (.cmp .gtr (tv 2) (tv 0)) (.and (.cmp .eql (tv 2) (tv 0)) (.cmp .gtr (tv 3) (tv 1))))
 (.ret 0 (sg 4 []))
 (.ret 1 (sg 4 [])))))))
theorem qqw:ql Try.prog qe3 [qcr] [] qkF:=qe Try.func70 Try.call70 (by kernel_rfl)
def qrr:Out:=(tn (tl 0) (tv 1) (tn (tl 0) (tv 6) (.br (.cmp .neq (tv 1) (tv 6))
 (.ret 0 (sg 10 [bt 10 (.bl false)]))
 (.inv 0 10 (sg 1000 [bt 1000 (tl 0)]) (.fresh 10 (.hyp 0 10 (.br (.cmp .lss (tv 10) (tv 1))
 (tn (tl 0) (tv 10) (ts (tv 10) (.dlen (tv 3)) (ts (tv 10) (tv 6) (ts (tv 10) (.dlen (tv 8)) (.br (.not (.and (.cmp .eql (.icell (tv 3) (tv 10) 0) (.icell (tv 8) (tv 10) 0)) (.cmp .eql (.icell (tv 3) (tv 10) 1) (.icell (tv 8) (tv 10) 1))))
 (.ret 0 (sg 10 [bt 10 (.bl false)]))
 (.back 0 10 (sg 1000 [bt 1000 (.arith .add .i64 (tv 10) (tl 1))])))))))
 (.ret 0 (sg 10 [bt 10 (.bl true)])))))))))
theorem qvI:ql Try.prog qc3 [] [qta] qrr:=qe Try.func34 Try.call34 (by kernel_rfl)
def qjn:Out:=(tn (tl 0) (tv 1) (tn (tl 0) (tv 6) (.br (.cmp .neq (tv 1) (tv 6))
 (.ret 0 (sg 10 [bt 10 (.bl false)]))
 (.inv 0 10 (sg 1000 [bt 1000 (tl 0)]) (.fresh 10 (.hyp 0 10 (.br (.cmp .lss (tv 10) (tv 1))
 (tn (tl 0) (tv 10) (ts (tv 10) (.dlen (tv 3)) (ts (tv 10) (tv 6) (ts (tv 10) (.dlen (tv 8)) (.br (.cmp .neq (.icell (tv 3) (tv 10) 0) (.icell (tv 8) (tv 10) 0))
 (.ret 0 (sg 10 [bt 10 (.bl false)]))
 (.back 0 10 (sg 1000 [bt 1000 (.arith .add .i64 (tv 10) (tl 1))])))))))
 (.ret 0 (sg 10 [bt 10 (.bl true)])))))))))
theorem qpn:ql Try.prog qbF [] [qk8] qjn:=qe Try.func36 Try.call36 (by kernel_rfl)
def qpZ:Out:=(tn (tl 0) (tv 1) (.inv 0 5 (sg 1000 [bt 1003 .dnil,bt 1000 (tl 0),bt 1002 (tl 0),bt 1004 (tl 0),(1001,.nil)]) (fr 5 5 (.hyp 0 5 (.br (.cmp .lss (tv 5) (tv 1))
 (tn (tl 0) (tv 5) (ts (tv 5) (.dlen (tv 3)) (.fresh 10 (.pre 0 (sg 0 [bt 1 (.icell (tv 3) (tv 5) 1),bt 0 (.icell (tv 3) (tv 5) 0)]) (tb (.fresh 11 (.post 0 0 (sg 0 [bt 1 (.icell (tv 3) (tv 5) 1),bt 0 (.icell (tv 3) (tv 5) 0)]) 11 (.br (tv 11)
 (.fresh 12 (.need (.cmp .eql (tv 9) (.dlen (tv 8))) (tn (.tims (tl 8) (.plus (tv 9) (tl 1))) (tl 140737488355328) (fr 13 2 (.back 0 5 (sg 1000 [bt 1003 (.dapp (tv 8) (.rcons (ti (tv 5)) .rnil)),bt 1000 (.arith .add .i64 (tv 5) (tl 1)),bv 1002 14,bt 1004 (.plus (tv 9) (tl 1)),bg 1001 13]))))))
 (.back 0 5 (sg 1000 [bv 1003 8,bt 1000 (.arith .add .i64 (tv 5) (tl 1)),bv 1002 7,bv 1004 9,bg 1001 6]))))))))))
 (.ret 0 (sg 5 [bv 7 8,bv 6 7,bv 8 9,bg 5 6])))))))
theorem qv5:ql Try.prog qbB [qhF] [qjZ] qpZ:=qe Try.func37 Try.call37 (by kernel_rfl)
@[simp] def qiJ:Out:=.fresh 11 (.need (.cmp .eql (tv 10) (.dlen (tv 9))) (tn (.tims (tl 8) (.plus (tv 10) (tl 1))) (tl 140737488355328) (fr 12 2 (.back 0 6 (sg 1000 [bt 1003 (.dapp (tv 9) (.rcons (ti (tv 6)) .rnil)),bt 1000 (.arith .add .i64 (tv 6) (tl 1)),bv 1002 13,bt 1004 (.plus (tv 10) (tl 1)),bg 1001 12])))))
def qkI:Out:=(.fresh 5 (.inv 0 6 (sg 1000 [bt 1003 .dnil,bt 1000 (tl 0),bt 1002 (tl 0),bt 1004 (tl 0),bg 1001 5]) (fr 6 5 (.hyp 0 6 (tn (tl 0) (tv 1) (.br (.cmp .lss (tv 6) (tv 1))
 (tn (tl 0) (tv 6) (ts (tv 6) (.dlen (tv 3)) (.br (.cmp .eql (.icell (tv 3) (tv 6) 1) (tl 1))
 qiJ
 (.br (.cmp .eql (.icell (tv 3) (tv 6) 1) (tl 2))
 qiJ
 (.back 0 6 (sg 1000 [bv 1003 9,bt 1000 (.arith .add .i64 (tv 6) (tl 1)),bv 1002 8,bv 1004 10,bg 1001 7]))))))
 (.ret 0 (sg 5 [bv 7 9,bv 6 8,bv 8 10,bg 5 7]))))))))
theorem qqm:ql Try.prog qbe [] [qmt] qkI:=qe Try.func38 Try.call38 (by kernel_rfl)
theorem qJ {i n:Int} (h0:0 <= i) (h:i < n) (hn:n <= big):IntKind.i64.wrap (i + 1) = i + 1:=by
 unfold big at hn; exact qaU (by omega) (by omega)
theorem qu (d:List (List Value)):(qb d).length = d.length:=by simp [qb]
theorem qH (d:List (List Value)):(qf d).length = d.length:=by simp [qf]
theorem qaw {d:List (List Value)} {i:Int} (h0:0 <= i) (h:i < (d.length:Int)):(qb d)[i.toNat]? = some (qc d i 0,qc d i 1):=by
 have hl:i.toNat < d.length:=by omega
 simp [qb,jaq,jae hl,qc,qba,qb3]
theorem qaW {d:List (List Value)} {i:Int} (h0:0 <= i) (h:i < (d.length:Int)):(qf d)[i.toNat]? = some (qc d i 0):=by
 have hl:i.toNat < d.length:=by omega
 simp [qf,jaq,jae hl,qc,qba,qb3]
theorem qA {i:Int} (h:0 <= i):(i + 1).toNat = i.toNat + 1:=by omega
theorem qa2 {α:Type} {l:List α} {n:Nat} {x:α} (h:l[n]? = some x):l.take (n + 1) = l.take n ++ [x]:=by
 rw [List.take_add_one,h]; rfl
theorem qrl (l:List Ent):okN l 0 = true:=by simp [okN]
theorem qqT {l:List Ent} {n:Nat} {x:Ent} (h:l[n]? = some x) (h':okN l n = true) (hx:qfx x = true):okN l (n + 1) = true:=by
 unfold okN at *; rw [qa2 h,jef,h']; simp [hx]
theorem qs3 {l:List Ent} {n:Nat} (h:l.length <= n) (h':okN l n = true):qig l = true:=by
 unfold okN at h'; rwa [jap h] at h'
theorem qoJ {l:List Ent} {n:Nat} {x:Ent} (h:l[n]? = some x) (hx:qfx x = false):qig l = false:=by
 have hm:=jar h;cases hh:qig l with
 | false=>rfl
 | true=>have:=jam.1 hh x hm; rw [hx] at this; cases this
theorem qtV (a b:List Ent):qhb a b 0:=by simp [qhb]
theorem quD {a b:List Ent} {n:Nat} {x:Ent} (h:qhb a b n) (ha:a[n]? = some x) (hb:b[n]? = some x):qhb a b (n + 1):=by
 unfold qhb at *; rw [qa2 ha,qa2 hb,h]
theorem qvW {a b:List Ent} {n:Nat} (h:qhb a b n) (ha:a.length <= n) (hb:b.length <= n):a = b:=by
 unfold qhb at h; rwa [jap ha,jap hb] at h
theorem qsb (a b:List Int):qf1 a b 0:=by simp [qf1]
theorem qrO {a b:List Int} {n:Nat} {x:Int} (h:qf1 a b n) (ha:a[n]? = some x) (hb:b[n]? = some x):qf1 a b (n + 1):=by
 unfold qf1 at *; rw [qa2 ha,qa2 hb,h]
theorem qtt {a b:List Int} {n:Nat} (h:qf1 a b n) (ha:a.length <= n) (hb:b.length <= n):a = b:=by
 unfold qf1 at h; rwa [jap ha,jap hb] at h
theorem quh:qbA.ok Try.prog:=qt6 (by simp) fun Z hg hp=>by
 simp [qoY,qbA,qfx];refine ⟨fun h=>?_,fun h=>?_⟩
 ·simp [h,qO]
 ·intro h'; omega
theorem qvP:qh4.ok Try.prog:=qwG (by simp) fun Z hg hp=>by
 simp [qqb,qh4,qbA,qfx];refine ⟨fun h=>?_,fun h=>?_⟩
 ·simp [h,qO]
 ·intro h'; omega
theorem qtz:qg0.ok Try.prog:=qvu (by simp [quh]) fun Z hg hp=>by
 simp [qoQ,qg0,qbA]
theorem qwD:qhF.ok Try.prog:=qwx (by simp) fun Z hg hp=>by
 simp [qqe,qhF,qbA,qgO];refine ⟨fun h=>.inl h,fun h=>?_⟩;rw [show ((Z 1).i == 1) = false by simpa using h]; simp [qO]
theorem qtD:qbN.ok Try.prog:=quR (by simp [qtz]) fun Z hg hp=>by
 obtain ⟨hl,hb⟩:=hp;simp [qnZ,qbN,qgv,qg0,qbA,qk,qrl];refine ⟨by omega,fun u _ h0 h1 h2=>⟨fun h3=>⟨h0,by omega,fun u1 _ h4=>?_⟩,fun h3=>qs3 (by rw [qu]; omega) h2⟩⟩;have hc:=qaw (d:=(Z 3).d) h0 (by omega);rw [qJ h0 h3 hb];refine ⟨fun h5=>⟨fun _=>?_,fun _=>h0⟩,fun h5=>⟨⟨by omega,by omega,?_⟩,by omega⟩⟩
 ·refine qoJ hc ?_
  rw [h5] at h4; simpa using h4.symm
 ·rw [qA h0]
  refine qqT hc h2 ?_;rw [h5] at h4; simpa using h4.symm
theorem qpe:qbT.ok Try.prog:=qph (by simp [qtD]) fun Z hg hp=>by
 simp only [qbT,qbN] at hp;simp [qjq,qbT,qbN,hp];refine ⟨by omega,fun u _ h=>?_⟩;cases hx:qig (qb (Z 3).d) <;> cases hy:qO BinOp.geq u.i 0 <;> simp_all <;> omega
theorem qvl:qdo.ok Try.prog:=quq (by simp [qpe]) fun Z hg hp=>by
 obtain ⟨hl,hb⟩:=hp;simp [qox,qdo,qbT,qbN,qdm,qu];refine ⟨by omega,fun h=>⟨fun h2=>⟨⟨hl,hb⟩,fun u _ h3=>?_⟩,fun h2=>?_⟩,fun h=>?_⟩
 ·rw [show decide (1 <= (Z 3).d.length) = true by simp; omega,show decide ((Z 3).d.length <= 16) = true by simp; omega,h3]; simp
 ·intro h3; omega
 ·intro h3; omega
theorem qpj:qdM.ok Try.prog:=qpx (by simp [qvP]) fun Z hg hp=>by
 obtain ⟨hl,hb⟩:=hp;simp [qiX,qdM,qdo,qbT,qbN,qkv,qgv,qh4,qbA,qk,qrl,qdm,qu];refine ⟨by omega,fun h=>?_,fun h=>⟨fun h2=>?_,fun h2=>⟨by omega,fun u _ h0 h1 h3=>⟨fun h4=>⟨h0,by omega,fun u1 _ h5=>?_⟩,fun h4=>?_⟩⟩⟩⟩
 ·intro h3; omega
 ·intro h3; omega
 ·have hc:=qaw (d:=(Z 3).d) h0 (by omega)
  rw [qJ h0 h4 hb];refine ⟨fun h6 _ _=>?_,fun h6=>⟨⟨by omega,by omega,?_⟩,by omega⟩⟩
  ·exact qoJ hc (by rw [<- h5,h6])
  ·rw [qA h0]; exact qqT hc h3 (by rw [<- h5,h6])
 ·exact ⟨⟨by omega,by omega⟩,qs3 (by rw [qu]; omega) h3⟩
theorem qqE:qgL.ok Try.prog:=qxM (by simp) fun Z hg hp=>by
 obtain ⟨hl,hb⟩:=hp;unfold big at hb;simp [qsY,qgL];exact ⟨by omega,by omega,by omega,by rw [hl]; simp⟩
theorem qlU:qdX.ok Try.prog:=quz (by simp) fun Z hg hp=>by
 obtain ⟨hl,h0,hb⟩:=hp;unfold big at hb;simp [qnM,qdX];refine ⟨fun h=>?_,fun _=>⟨by omega,by omega,by omega,by rw [hl]; simp⟩⟩;rw [h] at hl; simp at hl; omega
theorem qzo {d:List (List Value)} {i:Int} {x y:Int} (h0:0 <= i) (h:i < (d.length:Int)) (j:Nat) :
  (qb (qL d i 0 [.int .u64 x,.int .u8 y]))[j]? = if j = i.toNat then some (x,y) else (qb d)[j]?:=by
 simp only [qb,qL,jaq,ja0];by_cases hj:i.toNat = j
 ·subst hj
  have:i.toNat < d.length:=by omega
  simp [this,qbb,qb3,qbk]
 ·rw [jaf hj,jaf (fun h=>hj h.symm)]
theorem qaC (d:List (List Value)) (i:Int) (c:Nat) (vs:List Value):(qL d i c vs).length = d.length:=by simp [qL]
theorem qiC:qcr.ok Try.prog:=qp0 (by simp) fun Z hg hp=>by
 simp [qjS,qcr,qdk,qV];refine ⟨fun h=>?_,fun h=>?_⟩
 ·cases hx:qO BinOp.gtr (Z 1).i (Z 3).i <;> cases hy:qO BinOp.gtr (Z 0).i (Z 2).i <;> simp_all
 ·cases hx:qO BinOp.gtr (Z 1).i (Z 3).i <;> cases hy:qO BinOp.gtr (Z 0).i (Z 2).i <;> simp_all
theorem qq1:qe3.ok Try.prog:=qqw (by simp [qiC]) fun Z hg hp=>by
 simp [qkF,qe3,qgV,qa0,qcr,qdk,qV,qcy]
theorem qjK:qc3.ok Try.prog:=qvI (by simp) fun Z hg hp=>by
 obtain ⟨hl,hm,hb,hc⟩:=hp;simp [qrr,qc3,qdY,qta,qk,qtV];refine ⟨by omega,by omega,fun h h'=>?_,fun h=>⟨⟨by omega,h⟩,fun u _ h0 h1 _ h2=>⟨fun h3=>⟨h0,by omega,by omega,by omega,fun h4 h5=>?_,fun h4 h5=>?_⟩,fun h3=>?_⟩⟩⟩
 ·have:=congrArg List.length h'; rw [qu,qu] at this; omega
 ·have hcA:=qaw (d:=(Z 3).d) h0 (by omega)
  have hcB:=qaw (d:=(Z 8).d) h0 (by omega);rw [h5,hcB] at hcA;simp only [jaa,jak] at hcA;rcases h4 with h4 | h4
  ·exact h4 hcA.1.symm
  ·exact h4 hcA.2.symm
 ·have hcA:=qaw (d:=(Z 3).d) h0 (by omega)
  have hcB:=qaw (d:=(Z 8).d) h0 (by omega);rw [h4,h5] at hcA;rw [qJ h0 h3 hb,qA h0];exact ⟨⟨by omega,by omega,h,quD h2 hcA hcB⟩,by omega⟩
 ·exact qvW h2 (by rw [qu]; omega) (by rw [qu]; omega)
theorem qiB:qbF.ok Try.prog:=qpn (by simp) fun Z hg hp=>by
 obtain ⟨hl,hm,hb,hc⟩:=hp;simp [qjn,qbF,qdY,qk8,qk,qsb];refine ⟨by omega,by omega,fun h h'=>?_,fun h=>⟨⟨by omega,h⟩,fun u _ h0 h1 _ h2=>⟨fun h3=>⟨h0,by omega,by omega,by omega,fun h4 h5=>?_,fun h4=>?_⟩,fun h3=>?_⟩⟩⟩
 ·have:=congrArg List.length h'; rw [qH,qH] at this; omega
 ·have hcA:=qaW (d:=(Z 3).d) h0 (by omega)
  have hcB:=qaW (d:=(Z 8).d) h0 (by omega);rw [h5,hcB] at hcA;simp only [jaa] at hcA;exact h4 hcA.symm
 ·have hcA:=qaW (d:=(Z 3).d) h0 (by omega)
  have hcB:=qaW (d:=(Z 8).d) h0 (by omega);rw [h4] at hcA;rw [qJ h0 h3 hb,qA h0];exact ⟨⟨by omega,by omega,h,qrO h2 hcA hcB⟩,by omega⟩
 ·exact qtt h2 (by rw [qH]; omega) (by rw [qH]; omega)
theorem qlI (l:List Ent):qdx l 0 = []:=by simp [qdx]
theorem qjw {l:List Ent} {n:Nat} {x:Ent} (h:l[n]? = some x) (hx:qgO x.2 = true):qdx l (n + 1) = qdx l n ++ [(n:Int)]:=by
 simp [qdx,jdk,jbs,jce,List.getD,h,hx]
theorem qqR {l:List Ent} {n:Nat} {x:Ent} (h:l[n]? = some x) (hx:qgO x.2 = false):qdx l (n + 1) = qdx l n:=by
 simp [qdx,jdk,jbs,jce,List.getD,h,hx]
theorem qj1 (d:List (List Value)) (z:Int):qf (d ++ [[.int .i64 z]]) = qf d ++ [z]:=by simp [qf,qb3,qbk]
theorem qjW:qbB.ok Try.prog:=qv5 (by simp [qwD]) fun Z hg hp=>by
 obtain ⟨hl,hb⟩:=hp;simp [qpZ,qbB,qjZ,qhF,qbA,qk,qlI];refine ⟨by omega,⟨by omega,by simp [qf]⟩,fun ui _ ux _ uy _ h0 h1 h2 h3 h4=>⟨fun h5=>⟨h0,by omega,fun ub _ h6=>⟨fun h7=>?_,fun h7=>?_⟩⟩,fun h5=>⟨?_,h2,by omega⟩⟩⟩
 ·have hc:=qaw (d:=(Z 3).d) h0 (by omega)
  have hbig:8 * (uy.i + 1) <= 140737488355328:=by unfold big at hb; omega
  rw [qJ h0 h5 hb,qA h0];refine ⟨h2,hbig,⟨by omega,by omega,h2,by omega,?_⟩,by omega⟩;rw [qjw hc (by rw [<- h6,h7]),qj1,h4,jbl h0]
 ·have hc:=qaw (d:=(Z 3).d) h0 (by omega)
  rw [qJ h0 h5 hb,qA h0];refine ⟨⟨by omega,by omega,h2,by omega,?_⟩,by omega⟩;rw [qqR hc (by rw [<- h6,h7]),h4]
 ·rw [h4,qdQ,qu,show ui.i.toNat = (Z 3).d.length by omega]
theorem qe4:qbe.ok Try.prog:=qqm (by simp) fun Z hg hp=>by
 obtain ⟨hl,hb⟩:=hp;simp [qkI,qbe,qmt,qbB,qjZ,qk,qlI];refine ⟨⟨by omega,by simp [qf]⟩,fun ui _ ux _ uy _ h0 h1 h2 h3 h4=>⟨by omega,fun h5=>⟨h0,by omega,fun h6=>?_,fun h6=>⟨fun h7=>?_,fun h7=>?_⟩⟩,fun h5=>⟨?_,h2,by omega⟩⟩⟩
 ·have hc:=qaw (d:=(Z 3).d) h0 (by omega)
  have hbig:8 * (uy.i + 1) <= 140737488355328:=by unfold big at hb; omega
  rw [qJ h0 h5 hb,qA h0];refine ⟨h2,hbig,⟨by omega,by omega,h2,by omega,?_⟩,by omega⟩;rw [qjw hc (by simp [h6,qgO]),qj1,h4,jbl h0]
 ·have hc:=qaw (d:=(Z 3).d) h0 (by omega)
  have hbig:8 * (uy.i + 1) <= 140737488355328:=by unfold big at hb; omega
  rw [qJ h0 h5 hb,qA h0];refine ⟨h2,hbig,⟨by omega,by omega,h2,by omega,?_⟩,by omega⟩;rw [qjw hc (by simp [h7,qgO]),qj1,h4,jbl h0]
 ·have hc:=qaw (d:=(Z 3).d) h0 (by omega)
  rw [qJ h0 h5 hb,qA h0];refine ⟨⟨by omega,by omega,h2,by omega,?_⟩,by omega⟩;rw [qqR hc (by simp [h6,h7,qgO]),h4]
 ·rw [h4,qdQ,qu,show ui.i.toNat = (Z 3).d.length by omega]
theorem qlk {h h':Hp} {v:Value} {t:List Ent} (hr:RdT h v t) (hl:Hp.le h h'):RdT h' v t:=by
 obtain ⟨d,h1,h2⟩:=hr; exact ⟨d,qb5 h1 hl,h2⟩
theorem qyv {Z:Env} {r:Nat} {ty:TypeId} {pat:List CK} {d cap:T} {h:Hp} {n k:Nat} (hx:SH.den Z (.arr r ty pat d cap) h):atZ (.slice (qg (Z r).r 0) n k):=by
 intro a n c e;simp only [Value.slice.injEq] at e;rcases hx with ⟨h1,_⟩ | ⟨b,c,h1,_⟩
 ·rw [h1] at e; cases e.1
 ·rw [h1] at e
  obtain rfl:=(jax e.1).symm;rfl
theorem qgd:qbV.ok Try.prog:=quO (by simp) fun Z hg hp=>by
 simp [qoz,qbV]
theorem qqH {d:List (List Value)} {i:Int} {x:Int} (h0:0 <= i) (h:i < (d.length:Int)):qf (qL d i 0 [.int .u64 x]) = (qf d).set i.toNat x:=by
 apply jbo;intro j;simp only [qf,qL,jaq,ja0,ja3];by_cases hj:i.toNat = j
 ·subst hj
  have:i.toNat < d.length:=by omega
  simp [this,qbb,qb3,qbk]
 ·simp [hj]
theorem qea {d:List (List Value)} {i:Int} {x y:Int} (h0:0 <= i) (h:i < (d.length:Int)):qb (qL d i 0 [.int .u64 x,.int .u8 y]) = qbx (qb d) i (x,y):=by
 apply jbo;intro j;rw [qzo h0 h,qbx,ja0];by_cases hj:j = i.toNat
 ·subst hj; rw [jah rfl,jah rfl,jah (by rw [qu]; omega)]
 ·rw [jaf hj,jaf (fun h=>hj h.symm)]
theorem qq5:qgt.ok Try.prog:=qx2 (by simp) fun Z hg hp=>by
 obtain ⟨h1,h2,h3,h4⟩:=hp;have hc:=qaw (d:=(Z 5).d) h3 (by omega);have ht:=qea (d:=(Z 5).d) (x:=(Z 19).i) (y:=(Z 20).i) h3 (by omega);simp [qs0,qgt,ht,qaC];refine ⟨h3,by omega,by omega,fun h5=>⟨fun h6=>⟨by omega,?_⟩,fun h6=>?_⟩,fun h5 h6=>?_⟩
 ·rw [qqH h3 (by omega),qaE,hc,jah ⟨fun e=>by rcases h5 with h5 | h5 <;> simp [h5] at e,h6⟩]
 ·rw [qaE,jaf (fun h=>h6 h.2)]
 ·rw [qaE,hc,h5,h6,jaf (fun h=>h.1 rfl)]
theorem qwc:qh7.ok Try.prog:=qwB (by simp) fun Z hg hp=>by
 obtain ⟨h1,h2,h3,h4⟩:=hp;have hw:IntKind.i64.wrap ((Z 11).i + 1) = (Z 11).i + 1:=qaU (by omega) (by omega);have hlt:Int.tmod ((Z 11).i + 1) (Z 3).i < (Z 3).i:=jb2 _ (by omega);have hge:0 <= Int.tmod ((Z 11).i + 1) (Z 3).i:=jcb _ (by omega);have hw2:IntKind.i64.wrap (Int.tmod ((Z 11).i + 1) (Z 3).i + 1) = Int.tmod ((Z 11).i + 1) (Z 3).i + 1:=qaU (by omega) (by omega);simp [qpF,qh7,qk,hw,hw2];refine ⟨by omega,by omega,fun h=>?_,fun h=>?_⟩
 ·rw [qbz,jah h]
 ·rw [qbz,jaf h]
theorem qqZ {h:Hp} {ms:List Msg} {self:Int} {t:List Ent} {d:List (List Value)} (hd:qC d ms):qX h ms self t 0 d:=⟨[],rfl,by simpa [qfy,qC] using hd,by simp⟩
theorem qsA {A B:List (List Value)} {r:List Value} {i:Int} (h0:0 <= i) (hi:i.toNat = A.length) (c:Nat) (vs:List Value):qL (A ++ r :: B) i c vs = A ++ qbb r c vs :: B:=by
 unfold qL;rw [hi,List.set_append_right _ _ (jb0 _),ja6 (jb0 _)];simp
theorem qql {h h':Hp} {ms:List Msg} {self:Int} {t:List Ent} {i:Int} {d:List (List Value)} {v:Value} (h0:0 <= i) (hi:i.toNat < ms.length) (hs:qX h ms self t i.toNat d) (hl:Hp.le h h') (hv:RdT h' v t) :
  qX h' ms self t (i.toNat + 1) (qL (qL d i 1 [.int .i64 self]) i 6 [v]):=by
 obtain ⟨vs,h1,h2,h3⟩:=hs;have hget:ms[i.toNat]? = some ms[i.toNat]:=jae hi;have hAl:(qfy ((ms.take i.toNat).map fun m=>{ m with src:=self }) vs).length = i.toNat:=by simp [qfy,h1]; omega
 refine ⟨vs ++ [v],by simp [h1],?_,fun x hx=>?_⟩
 ·rw [h2,jbq hi,jao,qsA h0 hAl.symm,qsA h0 hAl.symm,qa2 hget]
  simp only [qfy,jcj];rw [List.zipWith_append (by simp [h1]; omega)];simp only [jbw,jao,jbf,List.zipWith_cons_cons,List.zipWith_nil_left,jdc,jcm];rfl
 ·rcases ja4.1 hx with hx | hx
  ·exact qlk (h3 x hx) hl
  ·simp only [jan] at hx; subst hx; exact hv
theorem qi0:qcE.ok Try.prog:=qvh (by simp [qlU]) fun Z hg hp=>by
 obtain ⟨⟨h1,h2,h3,h4,h5,h6,h7⟩,h8,h9,hms⟩:=hp;obtain ⟨ms0,hms0⟩:=hms;have hml:ms0.length = (Z 21).d.length:=by rw [hms0]; simp
 simp [qop,qcE,qdX,qqU,qk];refine ⟨by omega,fun u0 _ _=>⟨⟨by omega,fun ms hm=>qqZ hm⟩,fun ui _ ud _ ut _ g0 g1 g2 g3=>⟨fun g4=>⟨⟨h1,by omega,?_⟩,fun ur _ uc _ uD _ g5=>⟨g0,by omega,fun uh _ g6=>?_⟩⟩,fun g4 ms hm=>?_⟩⟩⟩
 ·unfold big; omega
 ·rw [qJ g0 g4 h9,qA g0]
  refine ⟨⟨by omega,by omega,by rw [qaC,qaC]; exact g2,fun ms hm=>?_⟩,by omega⟩;obtain ⟨ha,la,da⟩:=qaV g6 (jac ..);obtain ⟨hb,lb,db⟩:=qaV g6 (jab _ (jac ..));have hl:Hp.le ut.h uh.h:=by
   have:Hp.le ut.h hb:=by simpa using db.1
   exact Hp.le_trans this lb
  have hr:=qcL (n:=(Z 3).i.toNat) (k:=uc.i.toNat) da la (by simp [g5]; omega) (by simp);have hr:Rd uh.h qp (.slice (qg ur.r 0) (Z 3).i.toNat uc.i.toNat) uD.d:=by simpa [qp] using hr
  have hmlen:ms.length = (Z 21).d.length:=by rw [hm]; simp
  exact qql g0 (by omega) (g3 ms hm) hl ⟨_,hr,by rw [g5],qyv da⟩
 ·have hmlen:ms.length = (Z 21).d.length:=by rw [hm]; simp
  have:=g3 ms hm
  rwa [show ui.i.toNat = ms.length by omega] at this
theorem ql6 {α:Type} (p:α->Bool) (l:List α):qdc p l 0 = true:=by simp [qdc]
theorem qlt {α:Type} {p:α->Bool} {l:List α} {n:Nat} {x:α} (h:l[n]? = some x) (h':qdc p l n = true) (hx:p x = false):qdc p l (n + 1) = true:=by
 unfold qdc at *; rw [qa2 h,jef,h']; simp [hx]
theorem qoR {α:Type} {p:α->Bool} {l:List α} {n:Nat} (h:l.length <= n) (h':qdc p l n = true):qdc p l l.length = true:=by
 unfold qdc at *; rw [jap h] at h'; rwa [jap (jb0 _)]
theorem qgK {α:Type} {p:α->Bool} {l:List α} {n:Nat} (h:qdc p l n = true):(l.take n).filter (fun x=>!p x) = l.take n:=by
 rw [jdg]; unfold qdc at h; exact jam.1 h
theorem qqt:qgB.ok Try.prog:=qxR (by simp) fun Z hg hp=>by
 simp [qsM,qgB,qn3];refine ⟨fun h=>.inl h,fun h=>?_⟩;rw [show ((Z 24).i == (Z 1).i) = false by simpa using h]; simp [qO]
theorem qvt:qgC.ok Try.prog:=qt3 (by simp [qqt]) fun Z hg hp=>by
 obtain ⟨hl,hb⟩:=hp;simp [qod,qgC,qro,qgB,qk,ql6];refine ⟨by omega,fun u _ h0 h1 h2=>⟨fun h3=>⟨h0,by omega,fun u1 _ h4=>⟨fun h5=>?_,fun h5=>⟨?_,?_⟩⟩⟩,fun h3=>.inl ⟨rfl,qoR (by rw [qH]; omega) h2⟩⟩⟩
 ·exact .inr ⟨h0,by rw [qH]; omega,h2,by rw [qaW h0 (by omega)]; simp [<- h4,h5]⟩
 ·rw [qJ h0 h3 hb,qA h0]
  exact ⟨by omega,by omega,qlt (qaW h0 (by omega)) h2 (by rw [<- h4,h5])⟩
 ·rw [qJ h0 h3 hb]; omega
theorem qlR {α:Type} {p:α->Bool} {l:List α} {i:Int} (h:qxt p l i) (hi:¬ i = -1):qfS p l l i (i + 1):=by
 rcases h with ⟨h,_⟩ | ⟨h0,h1,h2,h3⟩
 ·exact absurd h hi
 ·obtain ⟨x,hx,hpx⟩:=jag.1 h3
  refine ⟨h0,by omega,by omega,rfl,?_,rfl⟩;rw [qA h0,qa2 hx,jbs,qgK h2];simp [hpx]
theorem qpa {α:Type} {p:α->Bool} {orig cur:List α} {i j:Int} (h:qfS p orig cur i j) (hj:j < orig.length):orig[j.toNat]? = cur[j.toNat]?:=by
 obtain ⟨h0,h1,h2,h3,h4,h5⟩:=h;have:=congrArg (fun l=>l[0]?) h5;simpa [ja7] using this.symm
theorem qmv {α:Type} {p:α->Bool} {orig cur:List α} {i j:Int} {x:α} (h:qfS p orig cur i j) (hj:j < orig.length) (hx:cur[j.toNat]? = some x) (hp:p x = false):qfS p orig (cur.set i.toNat x) (i + 1) (j + 1):=by
 have ho:=qpa h hj;obtain ⟨h0,h1,h2,h3,h4,h5⟩:=h;rw [hx] at ho;refine ⟨by omega,by omega,by omega,by simpa using h3,?_,?_⟩
 ·rw [qA h0,qA (show 0 <= j by omega),qa2 ho,jbs,<- h4]
  have hlt:i.toNat < cur.length:=by omega
  rw [qa2 (x:=x) (by simp [hlt]),List.take_set_of_le (by omega)];simp [hp]
 ·rw [qA (show 0 <= j by omega),List.drop_set_of_lt (by omega)]
  have:=congrArg (List.drop 1) h5;simpa [jcy,jda] using this
theorem qlv {α:Type} {p:α->Bool} {orig cur:List α} {i j:Int} {x:α} (h:qfS p orig cur i j) (hj:j < orig.length) (hx:cur[j.toNat]? = some x) (hp:p x = true):qfS p orig cur i (j + 1):=by
 have ho:=qpa h hj;obtain ⟨h0,h1,h2,h3,h4,h5⟩:=h;rw [hx] at ho;refine ⟨h0,by omega,by omega,h3,?_,?_⟩
 ·rw [qA (show 0 <= j by omega),qa2 ho,jbs,<- h4]; simp [hp]
 ·rw [qA (show 0 <= j by omega)]
  have:=congrArg (List.drop 1) h5;simpa [jcy,jda] using this
theorem qmj {α:Type} {p:α->Bool} {orig cur:List α} {i j:Int} (h:qfS p orig cur i j) (hj:orig.length <= j):cur.take i.toNat = orig.filter (fun x=>!p x):=by
 obtain ⟨h0,h1,h2,h3,h4,h5⟩:=h;rw [h4,jap (by omega)]
theorem qxp {d:List (List Value)} {i:Int} {x:Int} (h0:0 <= i) (h:i < (d.length:Int)):qf (qL d i 0 [.int .i64 x]) = (qf d).set i.toNat x:=by
 apply jbo;intro j;simp only [qf,qL,jaq,ja0,ja3];by_cases hj:i.toNat = j
 ·subst hj
  have:i.toNat < d.length:=by omega
  simp [this,qbb,qb3,qbk]
 ·simp [hj]
theorem qw1 (d:List (List Value)) (n:Nat):qf (d.take n) = (qf d).take n:=by simp [qf,jcu]
theorem qcd {x:Int} (h1:0 <= x) (h2:x < 18446744073709551616):IntKind.u64.wrap x = x:=by
 simp [IntKind.wrap,IntKind.signed,IntKind.bits]; omega
theorem qr9:qfs.ok Try.prog:=qsp (by simp [qvt,qqt]) fun Z hg hp=>by
 obtain ⟨hl,hb,hcap⟩:=hp;simp [qlN,qfs,qnO,qgC,qgB,qk];refine ⟨⟨hl,hb⟩,fun u _ hu=>⟨fun h1=>?_,fun h1=>?_⟩⟩
 ·refine ⟨by omega,by omega,?_⟩
  rcases hu with ⟨_,h2⟩ | ⟨h2,_⟩
  ·rw [jap (by rw [qH]; omega)]
   have:=qgK h2;rw [jap (jb0 _)] at this;exact this.symm
  ·omega
 ·have h0:0 <= u.i/\u.i < (Z 29).i:=by
   rcases hu with ⟨h2,_⟩ | ⟨h2,h3,_⟩
   ·exact absurd h2 h1
   ·rw [qH] at h3; omega
  refine ⟨by rw [qJ h0.1 h0.2 hb]; exact qlR hu h1,fun ui _ uj _ ud _ g=>⟨by omega,fun g1=>?_,fun g1=>?_⟩⟩
  ·have hg':=g
   obtain ⟨k0,k1,k2,k3,k4,k5⟩:=g;rw [qH,qH] at k3;have hc:=qaW (d:=ud.d) (i:=uj.i) (by omega) (by omega);rw [qJ (n:=(Z 29).i) (show 0 <= uj.i by omega) g1 hb];refine ⟨by omega,by omega,fun u3 _ h3=>⟨fun h4=>⟨by omega,by omega,by omega,?_,by omega⟩,fun h4=>⟨?_,by omega⟩⟩⟩
   ·rw [qJ (n:=(Z 29).i) (show 0 <= ui.i by omega) (by omega) hb,qxp (by omega) (by omega)]
    exact qmv hg' (by rw [qH]; omega) hc (by rw [<- h3,h4])
   ·exact qlv hg' (by rw [qH]; omega) hc (by rw [<- h3,h4])
  ·have hg':=g
   obtain ⟨k0,k1,k2,k3,k4,k5⟩:=g;rw [qH,qH] at k3;rw [qH] at k2;intro hkn;have hd:=qmj hg' (by rw [qH]; omega);have hmin:(if (Z 29).i - ui.i = 0 then (ud.d.length:Int) else if (Z 30).i = ui.i then 0 else ui.i).toNat = if (Z 29).i - ui.i = 0 then ud.d.length else ui.i.toNat:=by
    split
    ·simp
    ·rw [jaf (by omega)]
   simp only [hmin];refine ⟨by omega,by omega,by omega,by omega,?_,by omega,?_,fun hk2=>⟨by omega,by omega,?_,by omega,?_⟩⟩
   ·split <;> omega
   ·split <;> omega
   ·split <;> omega
   ·rw [qw1,jdy,<- hd]
    congr 1
    split <;> omega
theorem qob (l:List Ent) (n:Nat):(qdx l n).length <= n:=by
 simp only [qdx,ja3];exact jdl (List.length_filter_le _ _) (by simp)
theorem qw2 (t:List Ent) (self target:Int):(qcY t self target).length <= t.length :=
 jdl (List.length_filter_le _ _) (qob t t.length)
theorem qoD (c:List Int) (seq target draw:Int) (n:Nat):qi3 c seq target draw (n + 1) = qi3 c seq target draw n ++ [qf3 c seq target draw n]:=by
 simp [qi3,jdk]
theorem qd1 {d:List (List Value)} {ms:List Msg} {m:Msg} (h:qC d ms):qC (d ++ [qdZ m]) (ms ++ [m]):=by
 unfold qC at *; rw [h]; simp
set_option maxRecDepth 20000 in
theorem qxW:qjL.ok Try.prog:=qya (by simp [qjW,qr9]) fun Z hg hp=>by
 obtain ⟨⟨h1,h2,h3,h4,h5,h6,h7⟩,h8,h9⟩:=hp;have hcl:=qw2 (qb (Z 5).d) (Z 1).i (Z 19).i;rw [qu] at hcl;have hb:(Z 3).i <= big:=by unfold big; omega
 simp [qsC,qjL,qbB,qfs,qvU,qk];refine ⟨⟨h1,hb⟩,fun ul _ uk _ g1 g2 g3=>⟨⟨g2,by omega⟩,fun un _ ud _ k1 k2 k3 k4=>⟨k1,?_,fun ui _ vn _ vl _ vd _ vr _ q0 q1 q2 q3 q4 q5 q6 q7=>⟨fun q8=>?_,fun q8=>?_⟩⟩⟩⟩
 ·have hc:(qf ud.d).take un.i.toNat = qcY (qb (Z 5).d) (Z 1).i (Z 19).i:=by rw [k4,g1]; rfl
  have hlen:=congrArg List.length hc;rw [jbe,qH] at hlen;exact ⟨by omega,hc,k2,by simp [qC,qi3]⟩
 ·have hn:vn.i <= 16:=by omega
  have q8a:ui.i < vn.i:=by split at q8 <;> omega
  have q8b:ui.i < 2:=by split at q8 <;> omega
  have hw1:IntKind.u64.wrap vn.i = vn.i:=qcd (by omega) (by omega);have t1:Int.tmod (Z 22).i vn.i < vn.i:=jb2 _ (by omega);have t0:0 <= Int.tmod (Z 22).i vn.i:=jcb _ h8;have hw2:IntKind.i64.wrap (Int.tmod (Z 22).i vn.i) = Int.tmod (Z 22).i vn.i:=qaU (by omega) (by omega);have hw3:IntKind.i64.wrap (Int.tmod (Z 22).i vn.i + ui.i) = Int.tmod (Z 22).i vn.i + ui.i:=qaU (by omega) (by omega);have hw4:IntKind.i64.wrap (ui.i + 1) = ui.i + 1:=qaU (by omega) (by omega);rw [hw1,hw2,hw3,hw4];have s1:Int.tmod (Int.tmod (Z 22).i vn.i + ui.i) vn.i < vn.i:=jb2 _ (by omega);have s0:0 <= Int.tmod (Int.tmod (Z 22).i vn.i + ui.i) vn.i:=jcb _ (by omega);have hcell:=qaW (d:=vd.d) s0 (by omega);have hget:(qcY (qb (Z 5).d) (Z 1).i (Z 19).i)[(Int.tmod (Int.tmod (Z 22).i vn.i + ui.i) vn.i).toNat]? = some (qc vd.d (Int.tmod (Int.tmod (Z 22).i vn.i + ui.i) vn.i) 0):=by
   rw [<- q3,ja8,jah (by omega)]; exact hcell
  have hm:qf3 (qcY (qb (Z 5).d) (Z 1).i (Z 19).i) (Z 18).i (Z 19).i (Z 22).i ui.i.toNat = ⟨3,0,qc vd.d (Int.tmod (Int.tmod (Z 22).i vn.i + ui.i) vn.i) 0,(Z 18).i,0,(Z 19).i⟩:=by
   unfold qf3;rw [<- q2,jbl q0,ja2,hget]; rfl
  have key:=qd1 (m:=qf3 (qcY (qb (Z 5).d) (Z 1).i (Z 19).i) (Z 18).i (Z 19).i (Z 22).i ui.i.toNat) q7;rw [<- qoD,hm,<- qA q0] at key;exact ⟨by omega,by omega,by omega,s0,s1,by omega,q5,by omega,⟨by omega,by omega,q2,q3,q4,by omega,by omega,key⟩,by omega⟩
 ·refine ⟨q5,?_⟩
  have:ui.i.toNat = min 2 (qcY (qb (Z 5).d) (Z 1).i (Z 19).i).length:=by split at q8 <;> omega
  rw [this] at q7;exact q7
theorem qcs (d:List (List Value)):(qt d).length = d.length:=by simp [qt]
theorem qbQ {d:List (List Value)} {i:Int} (h0:0 <= i) (h:i < (d.length:Int)):(qt d)[i.toNat]? = some ⟨qc d i 0,qc d i 1,qc d i 2,qcw d i 3⟩:=by
 have hl:i.toNat < d.length:=by omega
 simp [qt,qkd,jaq,jae hl,qc,qcw,qba,qb3,qnI]
theorem qpV {d:List (List Value)} {i a b c:Int} {e:Bool} (h0:0 <= i) (h:i < (d.length:Int)):qt (qL d i 0 [.int .u64 a,.int .i64 b,.int .u64 c,.bool e]) = (qt d).set i.toNat ⟨a,b,c,e⟩:=by
 apply jbo;intro j;simp only [qt,qL,jaq,ja0,ja3];by_cases hj:i.toNat = j
 ·subst hj
  have:i.toNat < d.length:=by omega
  simp [this,qbb,qkd,qb3,qnI,qbk,qew]
 ·simp [hj]
theorem qpP {d:List (List Value)} {i y:Int} (h0:0 <= i) (h:i < (d.length:Int)) (hz:qc d i 1 ≠ 0):qb (qL d i 1 [.int .u8 y]) = (qb d).set i.toNat (qc d i 0,y):=by
 apply jbo;intro j;have hl:i.toNat < d.length:=by omega
 simp only [qb,qL,jaq,ja0,ja3];by_cases hj:i.toNat = j
 ·subst hj
  simp only [jah hl,ja9,ja5,jaa];have hz:qbk ((d[i.toNat])[1]?.getD .nilFunc) ≠ 0:=by simpa [qc,qba,jae hl] using hz
  simp only [qc,qba,jae hl,jbc];generalize d[i.toNat] = r at hz
  match r,hz with
  | [],hz=>simp [qbk] at hz
  | [a],hz=>simp [qbk] at hz
  | a :: b :: r,_=>simp [qb3,qbb,qbk]
 ·simp [hj]
theorem qdB {d:List (List Value)} {i:Int} (h0:0 <= i) (h:i < (d.length:Int)):qc4 (qb d) i = (qc d i 0,qc d i 1):=by
 simp [qc4,ja2,qaw h0 h]
theorem qhr {self clock draw:Int} {tab:List Ent} {since:List Int} {P:List Prb} {i:Nat} {p:Prb} (h:P[i]? = some p) :
  qb7 self clock draw tab since (P.take (i + 1)) = qa9 self clock draw (qb7 self clock draw tab since (P.take i)) p:=by
 rw [qa2 h]; simp [qb7]
def TI (self clock draw:Int) (tab:List Ent) (since:List Int) (P:List Prb) (i k:Int) (dT dS dK dM:List (List Value)):Prop :=
 qb7 self clock draw tab since (P.take i.toNat) = ⟨qb dT,qf dS,(qt dK).take k.toNat,(qb7 self clock draw tab since (P.take i.toNat)).msgs⟩/\qC dM (qb7 self clock draw tab since (P.take i.toNat)).msgs/\(qt dK).drop i.toNat = P.drop i.toNat
theorem qoF {d e:List (List Value)} {ms ns:List Msg} (h:qC d ms) (h':qC e ns):qC (d ++ e) (ms ++ ns):=by
 unfold qC at *; rw [h,h']; simp
theorem qqJ {self clock draw:Int} {tab:List Ent} {since:List Int} {P:List Prb} {i k:Int} {dT dS dK dM:List (List Value)} (h:TI self clock draw tab since P i k dT dS dK dM) (h0:0 <= i) (hi:i < dK.length) :
  P[i.toNat]? = some ⟨qc dK i 0,qc dK i 1,qc dK i 2,qcw dK i 3⟩:=by
 have:=congrArg (fun l=>l[0]?) h.2.2;simp only [ja7,jcd] at this;rw [<- this,qbQ h0 hi]
theorem qnC {self clock draw:Int} {tab:List Ent} {since:List Int} {P:List Prb} {i k a b c:Int} {e:Bool} {dT dS dK dM dN:List (List Value)} {ns:List Msg}
  (h:TI self clock draw tab since P i k dT dS dK dM) (h0:0 <= k) (hk:k <= i) (hi:i < dK.length) (hn:qC dN ns)
  (hp:∀ st:TS,st.tab = qb dT->qa9 self clock draw st ⟨qc dK i 0,qc dK i 1,qc dK i 2,qcw dK i 3⟩ = { st with kept:=st.kept ++ [⟨a,b,c,e⟩],msgs:=st.msgs ++ ns }) :
  TI self clock draw tab since P (i + 1) (k + 1) dT dS (qL dK k 0 [.int .u64 a,.int .i64 b,.int .u64 c,.bool e]) (dM ++ dN):=by
 have hg:=qqJ h (by omega) hi;obtain ⟨h1,h2,h3⟩:=h;have hst:=qhr (self:=self) (clock:=clock) (draw:=draw) (tab:=tab) (since:=since) hg;rw [hp _ (by rw [h1])] at hst;have hlt:k.toNat < (qt dK).length:=by rw [qcs]; omega
 unfold TI;rw [qA (show 0 <= i by omega),qA h0,hst,qpV h0 (by omega)];refine ⟨?_,qoF h2 hn,?_⟩
 ·rw [qa2 (x:=(⟨a,b,c,e⟩:Prb)) (by simp [hlt]),List.take_set_of_le (by omega)]
  conv=>lhs; rw [h1]
 ·rw [List.drop_set_of_lt (by omega)]
  have:=congrArg (List.drop 1) h3;simpa [jcy,jda] using this
theorem qsU {self clock draw:Int} {tab:List Ent} {since:List Int} {P:List Prb} {i k:Int} {dT dS dK dM dT' dS':List (List Value)}
  (h:TI self clock draw tab since P i k dT dS dK dM) (h0:0 <= i) (hi:i < dK.length)
  (hp:∀ st:TS,st.tab = qb dT->st.since = qf dS->qa9 self clock draw st ⟨qc dK i 0,qc dK i 1,qc dK i 2,qcw dK i 3⟩ = { st with tab:=qb dT',since:=qf dS' }) :
  TI self clock draw tab since P (i + 1) k dT' dS' dK dM:=by
 have hg:=qqJ h (by omega) hi;obtain ⟨h1,h2,h3⟩:=h;have hst:=qhr (self:=self) (clock:=clock) (draw:=draw) (tab:=tab) (since:=since) hg;rw [hp _ (by rw [h1]) (by rw [h1])] at hst;unfold TI;rw [qA h0,hst];refine ⟨?_,h2,?_⟩
 ·conv=>lhs; rw [h1]
 ·have:=congrArg (List.drop 1) h3
  simpa [jcy,jda] using this
theorem qq7 (t:List Ent) (self seq target draw:Int):(qgx t self seq target draw).length <= 2:=by
 simp only [qgx,qi3,ja3,List.length_range]; omega
def DI (T U:List Ent) (d:List (List Value)) (i:Int):Prop:=∀ j:Nat,(qb d)[j]? = if (j:Int) < i then U[j]? else T[j]?
theorem qzf {T U:List Ent} {d:List (List Value)} (h:qb d = T):DI T U d 0:=fun j=>by rw [jaf (by omega),h]
theorem qzP {T U:List Ent} {d:List (List Value)} {i:Int} (h:DI T U d i) (hT:(T.length:Int) <= i) (hU:(U.length:Int) <= i):qb d = U:=by
 apply jbo;intro j;rw [h j];split
 ·rfl
 ·rw [jat (by omega),jat (by omega)]
theorem qnq {T U:List Ent} {d:List (List Value)} {i:Int} (h:DI T U d i) (h0:0 <= i) (hx:U[i.toNat]? = (qb d)[i.toNat]?):DI T U d (i + 1):=fun j=>by
 by_cases hj:(j:Int) = i
 ·subst hj
  rw [jah (by omega)]; simpa using hx.symm
 ·rw [h j]
  by_cases hj2:(j:Int) < i
  ·rw [jah hj2,jah (by omega)]
  ·rw [jaf hj2,jaf (by omega)]
theorem qzx {T U:List Ent} {d:List (List Value)} {i y:Int} (h:DI T U d i) (h0:0 <= i) (hi:i < d.length) (hz:qc d i 1 ≠ 0) (hx:U[i.toNat]? = some (qc d i 0,y)):DI T U (qL d i 1 [.int .u8 y]) (i + 1):=fun j=>by
 rw [qpP h0 hi hz,ja0];by_cases hj:i.toNat = j
 ·subst hj
  rw [jah rfl,jah (by rw [qu]; omega),jah (by omega),hx]
 ·rw [jaf hj,h j]
  by_cases hj2:(j:Int) < i
  ·rw [jah hj2,jah (by omega)]
  ·rw [jaf hj2,jaf (by omega)]
theorem qzy {T U:List Ent} {d:List (List Value)} {i:Int} (h:DI T U d i) (h0:0 <= i) (hi:i < d.length):T[i.toNat]? = some (qc d i 0,qc d i 1):=by
 have:=h i.toNat;rw [jaf (by omega),qaw h0 hi] at this;exact this.symm
theorem qi6 {self clock wait:Int} {since:List Int} {t:List Ent} {i:Nat} {x:Ent} (h:t[i]? = some x):(qbZ self clock wait since t)[i]? = some (qdR self clock wait since i x):=by
 simp [qbZ,jdv,h]
theorem qiu {self clock wait:Int} {since:List Int} {t:List Ent}:(qbZ self clock wait since t).length = t.length:=by simp [qbZ]
theorem qfr {n self pinged:Int} (h2:2 <= n) (h:n <= 16) (h0:0 <= pinged):0 <= qbz n self pinged/\qbz n self pinged < n:=by
 have a1:Int.tmod (pinged + 1) n < n:=jb2 _ (by omega);have a0:0 <= Int.tmod (pinged + 1) n:=jcb _ (by omega);have b1:Int.tmod (Int.tmod (pinged + 1) n + 1) n < n:=jb2 _ (by omega);have b0:0 <= Int.tmod (Int.tmod (pinged + 1) n + 1) n:=jcb _ (by omega);unfold qbz; split <;> omega
theorem qom {d:List (List Value)} {ms:List Msg} (h:qC d ms):d.length = ms.length:=by rw [h]; simp
theorem qbG {h:Hp} {ms:List Msg} {self:Int} {t:List Ent} {d:List (List Value)} {i:Nat} (hs:qX h ms self t i d):d.length = min i ms.length + (ms.length - i):=by
 obtain ⟨vs,h1,h2,_⟩:=hs;rw [h2]; simp [qfy,h1]
theorem qaQ {h h':Hp} {ms:List Msg} {self:Int} {t:List Ent} {d:List (List Value)} {i:Nat} (hs:qX h ms self t i d) (hl:Hp.le h h'):qX h' ms self t i d:=by
 obtain ⟨vs,h1,h2,h3⟩:=hs;exact ⟨vs,h1,h2,fun v hv=>qlk (h3 v hv) hl⟩
@[simp] def qil:Sg:=sg 0 [bv 17 17,bv 16 16,bt 12 (.vslice 12 (tl 0) (tv 13) (tv 14) 4),bv 11 11,bv 10 10,bv 9 9,bv 7 7,bg 6 6,bv 4 4,bv 3 3,bg 2 2,bv 1 1,bg 0 0]
@[simp] def qmu:Sg:=sg 0 [bv 17 17,bv 16 16,bt 12 (.vslice 12 (tl 0) (tv 13) (tv 14) 4),bv 11 11,bv 10 10,bv 9 40,bv 7 7,bg 6 6,bv 4 4,bv 3 3,bg 2 2,bv 1 1,bg 0 0]
@[simp] def qih:Out:=.back 1 30 (sg 1000 [bv 1008 38,bv 1004 34,bv 1003 33,bv 1001 31,bv 1010 40,bt 1000 (.arith .add .i64 (tv 30) (tl 1)),bv 1009 39,bv 1002 32,bv 1007 37,bv 1006 36,bg 1005 35])
@[simp] def qlu:Sg:=sg 0 [bv 8 23,bv 5 22,bv 17 17,bv 16 16,bt 12 (.vslice 12 (tl 0) (tv 13) (tv 14) 4),bv 11 11,bv 10 10,bv 9 28,bv 7 7,bg 6 6,bv 4 4,bv 3 3,bg 2 2,bv 1 1,bt 20 (tl 2),bt 19 (.icell (tv 22) (.icell (tv 21) (tv 19) 1) 0),bt 18 (.icell (tv 21) (tv 19) 1),bg 0 0]
@[simp] def qmm:Sg:=sg 0 [bv 5 22,bv 17 17,bv 16 16,bt 12 (.vslice 12 (tl 0) (tv 13) (tv 14) 4),bv 11 11,bv 10 10,bv 9 28,bv 7 7,bg 6 6,bv 4 4,bv 3 3,bg 2 2,bv 1 1,bv 22 18,bt 21 (.bl true),bt 20 (.icell (tv 21) (tv 19) 2),bt 19 (.icell (tv 21) (tv 19) 1),bt 18 (.icell (tv 21) (tv 19) 0),bg 0 0]
@[simp] def qlA:Out:=.fresh 30 (.know (.cmp .leq (.dlen (tv 21)) (tv 14)) (tn (.plus (tv 20) (tl 1)) (tv 14) (tn (tl 0) (tv 20) (ts (tv 20) (.dlen (tv 21)) (.fresh 31 (.back 0 19 (sg 1000 [bv 1008 27,bt 1002 (.dput (tv 21) (tv 20) 0 (.rcons (.vint .u64 (.icell (tv 21) (tv 19) 0)) (.rcons (ti (.icell (tv 21) (tv 19) 1)) (.rcons (.vint .u64 (.icell (tv 21) (tv 19) 2)) (.rcons (.vbool (.bcell (tv 21) (tv 19) 3)) .rnil))))),bv 1004 23,bv 1003 22,bv 1009 28,bt 1000 (.arith .add .i64 (tv 19) (tl 1)),bt 1001 (.plus (tv 20) (tl 1)),bv 1007 26,bv 1006 25,bg 1005 24])))))))
@[simp] def qmn:Sg:=sg 0 [bv 5 31,bv 17 17,bv 16 16,bt 12 (.vslice 43 (tl 0) (.plus (tv 32) (tl 1)) (tv 44) 4),bv 11 41,bt 10 (.arith .add .u64 (tv 10) (tl 1)),bv 9 40,bv 7 7,bg 6 6,bv 4 4,bv 3 3,bg 2 2,bv 1 1,bt 21 (.dapp (tv 38) (.rcons (tu (tl 1)) (.rcons (ti (tl 0)) (.rcons (ti (tv 41)) (.rcons (.vint .u64 (.arith .add .u64 (tv 10) (tl 1))) (.rcons (ti (tv 1)) (.rcons (ti (tl 0)) (.rcons .vnils (.rcons .vnils (.rcons .vnils (.rcons (ti (tl 0)) (rr 32 (tu (tl 0)) (.rcons .vnils (.rcons (.vbool (.bl false)) (rr 32 (tu (tl 0)) (rr 4 (ti (tl 0)) (rr 32 (tu (tl 0)) (.rcons .vnils (.rcons (ti (tl 0)) (.rcons .vnils (.rcons (ti (tl 0)) .rnil))))))))))))))))))))),bv 20 47,bt 19 (.plus (tv 36) (tl 1)),bg 18 46,bg 0 0]
def qqQ:Out:=(.pre 0 qil (.both (.post 0 0 qil 19 (.ret 0 (sg 19 []))) (tb (.post 0 1 qil 19 (.know (.cmp .leq (.dlen (tv 15)) (tv 14)) (tn (tl 0) (tv 13) (tn (tl 0) (tv 14) (.inv 0 19 (sg 1000 [bt 1008 .dnil,bv 1002 15,bv 1004 8,bv 1003 5,bt 1009 (.arith .add .u64 (tv 9) (tl 1)),bt 1000 (tl 0),bt 1001 (tl 0),bt 1007 (tl 0),bt 1006 (tl 0),(1005,.nil)]) (fr 19 10 (.hyp 0 19 (.br (.cmp .lss (tv 19) (tv 13))
 (tn (tl 0) (tv 19) (ts (tv 19) (.dlen (tv 21)) (.fresh 29 (.br (.cmp .geq (.arith .sub .u64 (tv 28) (.icell (tv 21) (tv 19) 2)) (tl 10))
 (tn (tl 0) (.icell (tv 21) (tv 19) 1) (ts (.icell (tv 21) (tv 19) 1) (tv 3) (ts (.icell (tv 21) (tv 19) 1) (.dlen (tv 22)) (tb (.fresh 30 (tb (.br (.cmp .eql (.icell (tv 22) (.icell (tv 21) (tv 19) 1) 1) (tl 1))
 (.pre 1 qlu (tb (fr 31 2 (.post 1 0 qlu 31 (.back 0 19 (sg 1000 [bv 1008 27,bv 1002 21,bv 1004 32,bv 1003 31,bv 1009 28,bt 1000 (.arith .add .i64 (tv 19) (tl 1)),bv 1001 20,bv 1007 26,bv 1006 25,bg 1005 24]))))))
 (.back 0 19 (sg 1000 [bv 1008 27,bv 1002 21,bv 1004 23,bv 1003 22,bv 1009 28,bt 1000 (.arith .add .i64 (tv 19) (tl 1)),bv 1001 20,bv 1007 26,bv 1006 25,bg 1005 24])))))))))
 (.br (.cmp .geq (.arith .sub .u64 (tv 28) (.icell (tv 21) (tv 19) 2)) (tl 4))
 (.br (.not (.bcell (tv 21) (tv 19) 3))
 (.pre 2 qmm (tb (fr 30 4 (.post 2 0 qmm 30 (.need (.cmp .eql (tv 25) (.dlen (tv 27))) (tn (tl 0) (tv 33) (tn (tv 33) (.dlen (tv 32)) (tn (.tims (tl 352) (.plus (tv 25) (tv 33))) (tl 140737488355328) (fr 34 3 (.know (.cmp .leq (.dlen (tv 21)) (tv 14)) (tn (.plus (tv 20) (tl 1)) (tv 14) (tn (tl 0) (tv 20) (ts (tv 20) (.dlen (tv 21)) (.fresh 37 (.back 0 19 (sg 1000 [bt 1008 (.dapp (tv 27) (.dtake (tv 32) (tv 33))),bt 1002 (.dput (tv 21) (tv 20) 0 (.rcons (.vint .u64 (.icell (tv 21) (tv 19) 0)) (.rcons (ti (.icell (tv 21) (tv 19) 1)) (.rcons (.vint .u64 (.icell (tv 21) (tv 19) 2)) (.rcons (.vbool (.bl true)) .rnil))))),bv 1004 23,bv 1003 22,bv 1009 28,bt 1000 (.arith .add .i64 (tv 19) (tl 1)),bt 1001 (.plus (tv 20) (tl 1)),bv 1007 35,bt 1006 (.plus (tv 25) (tv 33)),bg 1005 34]))))))))))))))))
 qlA)
 qlA)))))
 (tn (tl 0) (tv 3) (.pre 3 (sg 0 [bv 0 3]) (tb (.fresh 29 (.post 3 0 (sg 0 [bv 0 3]) 29 (.inv 1 30 (sg 1000 [bv 1008 27,bv 1004 21,bv 1003 23,bv 1001 22,bv 1010 28,bt 1000 (tl 0),bt 1009 (.conv .u64 (tv 29)),bv 1002 20,bv 1007 26,bv 1006 25,bg 1005 24]) (fr 30 11 (.hyp 1 30 (.br (.cmp .lss (tv 30) (tv 3))
 (tn (tl 0) (tv 30) (ts (tv 30) (.dlen (tv 31)) (.fresh 41 (.br (.cmp .neq (tv 30) (tv 1))
 (.br (.cmp .eql (.icell (tv 31) (tv 30) 1) (tl 2))
 (ts (tv 30) (.dlen (tv 33)) (.br (.cmp .geq (.arith .sub .u64 (tv 40) (.icell (tv 33) (tv 30) 0)) (tv 39))
 (.back 1 30 (sg 1000 [bv 1008 38,bv 1004 34,bv 1003 33,bt 1001 (.dput (tv 31) (tv 30) 1 (.rcons (tu (tl 3)) .rnil)),bv 1010 40,bt 1000 (.arith .add .i64 (tv 30) (tl 1)),bv 1009 39,bv 1002 32,bv 1007 37,bv 1006 36,bg 1005 35]))
 qih))
 qih)
 qih))))
 (.pre 4 qmu (tb (.fresh 41 (.post 4 0 qmu 41 (tb (.fresh 42 (tb (.need (.cmp .eql (tv 32) (.dlen (.dtake (tv 34) (tv 32)))) (tn (.tims (tl 32) (.plus (tv 32) (tl 1))) (tl 140737488355328) (fr 43 2 (tb (tb (tb (tb (.fresh 45 (tb (.need (.cmp .eql (tv 36) (.dlen (tv 38))) (tn (.tims (tl 352) (.plus (tv 36) (tl 1))) (tl 140737488355328) (fr 46 2 (tb (.pre 5 qmn (tb (fr 48 2 (.post 5 0 qmn 48 (.pack [.abs 49 2,.cells 45 43 [(tu (tl 1)),(ti (tl 0)),(ti (tv 41)),(.vint .u64 (.arith .add .u64 (tv 10) (tl 1))),(ti (tv 1)),(ti (tl 0)),.vnils,.vnils,.vnils,(ti (tl 0)),(tu (tl 0)),(tu (tl 0)),(tu (tl 0)),(tu (tl 0)),(tu (tl 0)),(tu (tl 0)),(tu (tl 0)),(tu (tl 0)),(tu (tl 0)),(tu (tl 0)),(tu (tl 0)),(tu (tl 0)),(tu (tl 0)),(tu (tl 0)),(tu (tl 0)),(tu (tl 0)),(tu (tl 0)),(tu (tl 0)),(tu (tl 0)),(tu (tl 0)),(tu (tl 0)),(tu (tl 0)),(tu (tl 0)),(tu (tl 0)),(tu (tl 0)),(tu (tl 0)),(tu (tl 0)),(tu (tl 0)),(tu (tl 0)),(tu (tl 0)),(tu (tl 0)),(tu (tl 0)),.vnils,(.vbool (.bl false)),(tu (tl 0)),(tu (tl 0)),(tu (tl 0)),(tu (tl 0)),(tu (tl 0)),(tu (tl 0)),(tu (tl 0)),(tu (tl 0)),(tu (tl 0)),(tu (tl 0)),(tu (tl 0)),(tu (tl 0)),(tu (tl 0)),(tu (tl 0)),(tu (tl 0)),(tu (tl 0)),(tu (tl 0)),(tu (tl 0)),(tu (tl 0)),(tu (tl 0)),(tu (tl 0)),(tu (tl 0)),(tu (tl 0)),(tu (tl 0)),(tu (tl 0)),(tu (tl 0)),(tu (tl 0)),(tu (tl 0)),(tu (tl 0)),(tu (tl 0)),(tu (tl 0)),(tu (tl 0)),(ti (tl 0)),(ti (tl 0)),(ti (tl 0)),(ti (tl 0)),(tu (tl 0)),(tu (tl 0)),(tu (tl 0)),(tu (tl 0)),(tu (tl 0)),(tu (tl 0)),(tu (tl 0)),(tu (tl 0)),(tu (tl 0)),(tu (tl 0)),(tu (tl 0)),(tu (tl 0)),(tu (tl 0)),(tu (tl 0)),(tu (tl 0)),(tu (tl 0)),(tu (tl 0)),(tu (tl 0)),(tu (tl 0)),(tu (tl 0)),(tu (tl 0)),(tu (tl 0)),(tu (tl 0)),(tu (tl 0)),(tu (tl 0)),(tu (tl 0)),(tu (tl 0)),(tu (tl 0)),(tu (tl 0)),(tu (tl 0)),(tu (tl 0)),(tu (tl 0)),.vnils,(ti (tl 0)),.vnils,(ti (tl 0))],.cells 42 63 [(.vint .u64 (.arith .add .u64 (tv 10) (tl 1))),(ti (tv 41)),(.vint .u64 (tv 40)),(.vbool (.bl false))]] 50 (.ret 1 (sg 19 [bg 32 50,bv 31 48,bt 30 (.dapp (.dtake (tv 34) (tv 32)) (.rcons (.vint .u64 (.arith .add .u64 (tv 10) (tl 1))) (.rcons (ti (tv 41)) (.rcons (.vint .u64 (tv 40)) (.rcons (.vbool (.bl false)) .rnil))))),bv 29 33,bv 28 31,bv 26 44,bt 25 (.plus (tv 32) (tl 1)),bg 27 43,bv 24 41,bt 23 (.arith .add .u64 (tv 10) (tl 1)),bv 22 40,bv 21 47,bt 20 (.plus (tv 36) (tl 1)),bg 19 46])))))))))))))))))))))))))))))))))))))))))))))))
theorem qvX:ql Try.prog qgn [qbV,qgt,qjL,qap,qh7,qcE] [qtm,qsx] qqQ:=qe Try.func29 Try.call29 (by kernel_rfl)
set_option maxRecDepth 20000 in
set_option maxHeartbeats 4000000 in
theorem qwm:qgn.ok Try.prog:=qvX (by simp [qgd,qq5,qxW,qwc,qi0,qyN]) fun Z hg hp=>by
 obtain ⟨⟨⟨a1,a2,a3,a4,a5,a6,a7,a8⟩,h2,h3,h4,h5⟩,h8,h9⟩:=hp;simp only [m0,qae,qu,qH] at a1 a2 a3 a4 a5 a6 a7 a8;simp [qqQ,qgn,qbV,qgt,qjL,qap,qh7,qcE,qtm,qsx,qk,mOk,m0];generalize hM:qae (Z 1).i (Z 5).d (Z 8).d (Z 9).i (Z 10).i (Z 11).i (Z 13).i (Z 15).d (Z 16).i (Z 17).b = M;have hbig:(Z 13).i <= big:=by unfold big; omega
 have hc1:IntKind.u64.wrap ((Z 9).i + 1) = qj M:=by subst hM; rfl
 intro hL hcap;refine ⟨h3,by omega,⟨h3,hc1,by simp [qb7],by simp [qb7,qC]⟩,?_⟩;intro ui _ uk _ uK _ uT _ uS _ ur _ un _ ucap _ uM _ uc _ g0 g1 g2 g3 g4 g5 g6 g7 g8 g9 g10 g11 g12;have hTI:TI (Z 1).i uc.i (Z 18).i (qb (Z 5).d) (qf (Z 8).d) (qt (Z 15).d) ui.i uk.i uT.d uS.d uK.d uM.d:=⟨g10,g11,g12⟩;constructor
 ·intro hi
  have hget:=qqJ hTI g0 (by omega);have htb:=a8 _ (jar (show ((qt (Z 15).d).take (Z 13).i.toNat)[ui.i.toNat]? = some _ by rw [ja8,jah (by omega)]; exact hget));simp only at htb;have hst:=qdB (d:=uT.d) (i:=qc uK.d ui.i 1) htb.1 (by omega);rw [qJ g0 hi hbig];have hal:∀ d:List (List Value),qC d (qgx (qb uT.d) (Z 1).i (qc uK.d ui.i 0) (qc uK.d ui.i 1) (Z 18).i)->d.length <= 2:=fun d h=>by
   have h1:=congrArg List.length h;have h2:=qq7 (qb uT.d) (Z 1).i (qc uK.d ui.i 0) (qc uK.d ui.i 1) (Z 18).i;simp only [ja3] at h1;omega
  refine ⟨g0,by omega,fun hage=>⟨htb.1,by omega,by omega,fun hs=>⟨⟨by omega,by omega,htb.1,by omega⟩,fun v1 _ v2 _ k1 k2 k3 k4=>⟨⟨by omega,by omega,g2,by omega,g4,g5,by omega,by omega,g8,by omega,?_⟩,by omega⟩⟩,fun hs=>⟨⟨by omega,by omega,g2,by omega,g4,g5,g6,g7,g8,by omega,?_⟩,by omega⟩⟩,fun hage=>⟨fun hage4=>⟨fun hask=>⟨⟨⟨by omega,by omega,by omega,by omega,by omega,by omega,by omega⟩,by omega,by omega⟩,fun v1 _ v2 _ k1 k2=>⟨g8,by omega,by omega,by have:=hal _ k2; omega,fun hcap'=>⟨by omega,g2,by omega,⟨by omega,by omega,by omega,by omega,g4,by rw [qaC]; exact g5,g6,g7,by omega,by have:=hal _ k2; omega,?_⟩,by omega⟩⟩⟩,fun hask hcap'=>⟨by omega,g2,by omega,⟨by omega,by omega,by omega,by omega,g4,by rw [qaC]; exact g5,g6,g7,g8,by omega,?_⟩,by omega⟩⟩,fun hage4 hcap'=>⟨by omega,g2,by omega,⟨by omega,by omega,by omega,by omega,g4,by rw [qaC]; exact g5,g6,g7,g8,by omega,?_⟩,by omega⟩⟩⟩
  ·exact qsU hTI g0 (by omega) fun st t1 t2=>by
    unfold qa9 qaJ;rw [jah hage,t1,t2,hst,jah hs,k1,k2]
  ·exact qsU hTI g0 (by omega) fun st t1 t2=>by
    unfold qa9 qaJ;rw [jah hage,t1,hst,jaf hs,<- t1,<- t2]
  ·rw [show v1.d.take v2.i.toNat = v1.d from jap (by omega)]
   exact qnC hTI g2 g3 (by omega) k2 fun st t1=>by
    unfold qa9 qaJ;rw [jaf (jcx.2 hage),jah (And.intro hage4 hask),t1]
  ·have:=qnC (dN:=[]) (ns:=[]) hTI g2 g3 (by omega) rfl (a:=qc uK.d ui.i 0) (b:=qc uK.d ui.i 1) (c:=qc uK.d ui.i 2) (e:=qcw uK.d ui.i 3) fun st t1=>by
    unfold qa9 qaJ;rw [jaf (jcx.2 hage),jaf (fun h=>by have h:=h.2; simp only [hask] at h; cases h),jbz]
   rwa [jbz] at this
  ·have:=qnC (dN:=[]) (ns:=[]) hTI g2 g3 (by omega) rfl (a:=qc uK.d ui.i 0) (b:=qc uK.d ui.i 1) (c:=qc uK.d ui.i 2) (e:=qcw uK.d ui.i 3) fun st t1=>by
    unfold qa9 qaJ;rw [jaf (jcx.2 hage),jaf (fun h=>absurd h.1 (jcx.2 hage4)),jbz]
   rwa [jbz] at this
 ·intro hi
  have hTS:qT M (Z 18).i = qb7 (Z 1).i uc.i (Z 18).i (qb (Z 5).d) (qf (Z 8).d) ((qt (Z 15).d).take ui.i.toNat):=by
   rw [g4,show ui.i.toNat = (Z 13).i.toNat by omega]; subst hM; rfl
  rw [<- hTS] at g10 g11;have hT1:(qT M (Z 18).i).tab = qb uT.d:=by rw [g10]
  have hT2:(qT M (Z 18).i).since = qf uS.d:=by rw [g10]
  have hT3:(qT M (Z 18).i).kept = (qt uK.d).take uk.i.toNat:=by rw [g10]
  refine ⟨by omega,fun uw _ kw=>⟨⟨by omega,g4,?_,g6,g7,g8,by omega,g2,by omega,by omega,hT2.symm,hT3.symm,g11,by rw [hT1,qu]; exact g6,?_⟩,?_⟩⟩
  ·rw [kw,qcd (by omega) (by omega),qaG,qu,h2]
  ·exact qzf hT1.symm
  intro vi _ vT _ vk _ vS _ vK _ vr _ vn _ vcap _ vM _ vw _ vc _ q0 q1 q2 q3 q4 q5 q6 q7 q8 q9 q10 q11 q12 q13 q14 q15;have hDI:DI (qT M (Z 18).i).tab (qbZ (Z 1).i (qj M) (qaG (qb (Z 5).d).length) (qT M (Z 18).i).since (qT M (Z 18).i).tab) vT.d vi.i:=q15;constructor
  ·intro hlt
   rw [qJ q0 hlt (by unfold big; omega)];have hget:=qzy hDI q0 (by omega);have hdg:=qi6 (self:=(Z 1).i) (clock:=qj M) (wait:=qaG (qb (Z 5).d).length) (since:=(qT M (Z 18).i).since) hget;have hct:=qaw (d:=vT.d) q0 (by omega);have hsg:(qT M (Z 18).i).since.getD vi.i.toNat 0 = qc vS.d vi.i 0:=by rw [<- q11,ja2,qaW q0 (by omega)]; rfl
   have hin:((vi.i.toNat:Nat):Int) = vi.i:=by omega
   refine ⟨q0,by omega,fun hne=>⟨fun hs2=>⟨by omega,fun hage=>⟨⟨by omega,by omega,q2,q3,by rw [qaC]; exact q4,q5,q6,q7,q8,q9,q10,q11,q12,q13,q14,?_⟩,by omega⟩,fun hage=>⟨⟨by omega,by omega,q2,q3,q4,q5,q6,q7,q8,q9,q10,q11,q12,q13,q14,?_⟩,by omega⟩⟩,fun hs2=>⟨⟨by omega,by omega,q2,q3,q4,q5,q6,q7,q8,q9,q10,q11,q12,q13,q14,?_⟩,by omega⟩⟩,fun heq=>⟨⟨by omega,by omega,q2,q3,q4,q5,q6,q7,q8,q9,q10,q11,q12,q13,q14,?_⟩,by omega⟩⟩
   ·refine qzx hDI q0 (by omega) (by omega) ?_
    rw [hdg,qdR,jah];simp only [hin,hs2,hsg,qaJ,<- q2,<- q3];exact ⟨hne,trivial,hage⟩
   ·refine qnq hDI q0 ?_
    rw [hdg,hct,qdR,jaf];simp only [hin,hs2,hsg,qaJ,<- q2,<- q3]
    rintro ⟨_,_,h⟩; omega
   ·refine qnq hDI q0 ?_
    rw [hdg,hct,qdR,jaf]
    rintro ⟨_,h,_⟩; exact hs2 h
   ·refine qnq hDI q0 ?_
    rw [hdg,hct,qdR,jaf]
    rintro ⟨h,_,_⟩; exact h (by omega)
  ·intro hge
   have hdt:=qzP hDI (by omega) (by rw [qiu]; omega);have hpl:∀ p,qC (vM.d ++ [qdZ ⟨1,0,p,IntKind.u64.wrap ((Z 10).i + 1),(Z 1).i,0⟩]) ((qT M (Z 18).i).msgs ++ [⟨1,0,p,IntKind.u64.wrap ((Z 10).i + 1),(Z 1).i,0⟩]):=fun p=>qd1 q13
   refine ⟨⟨by omega,by omega,by omega,by omega⟩,fun up _ kp _ _=>⟨by omega,by omega,fun _ _ _ _ _ _=>⟨q6,by omega,fun _ _ _ _=>⟨⟨⟨by omega,by omega,by omega,by omega,by omega,?_,?_⟩,q6,by unfold big; omega,?_⟩,fun uD _ uH _ kst uF _ kF=>⟨hL,?_,?_,q4,by omega,by omega,by omega,?_⟩⟩⟩⟩⟩
   ·rw [kp]; exact (qfr (by omega) (by omega) a6).1
   ·rw [kp]; exact (qfr (by omega) (by omega) a6).2
   ·exact ⟨_,hpl up.i⟩
   ·have hTM:qat M (Z 18).i = ⟨(Z 1).i,qbZ (Z 1).i (qj M) (qaG (qb (Z 5).d).length) (qT M (Z 18).i).since (qT M (Z 18).i).tab,(qT M (Z 18).i).since,qj M,IntKind.u64.wrap ((Z 10).i + 1),qbz (qb (Z 5).d).length (Z 1).i (Z 11).i,(qT M (Z 18).i).kept ++ [⟨IntKind.u64.wrap ((Z 10).i + 1),qbz (qb (Z 5).d).length (Z 1).i (Z 11).i,qj M,false⟩],(Z 16).i,(Z 17).b⟩:=by subst hM; rfl
    rw [hTM,<- hdt,<- q11,<- q12,qu,<- h2,<- kp,<- q2];have hk:((qt vK.d).take vk.i.toNat).length = vk.i.toNat:=by rw [jbe,qcs]; omega
    unfold qae;rw [qA q8]
    congr 1
    simp only [qt,jcj,jcu,jao,jbf];rw [jap]
    ·rfl
    ·rw [jbt,jbe,ja3]; simp; omega
   ·have:=qbG (kst _ (hpl up.i))
    have hq:=qom q13;rw [jbt] at this; simp only [jbb,jck] at this; omega
   ·have hTM:qaO M (Z 18).i = (qT M (Z 18).i).msgs ++ [⟨1,0,up.i,IntKind.u64.wrap ((Z 10).i + 1),(Z 1).i,0⟩]:=by
     rw [kp]; subst hM; unfold qaO; simp only [qae,qu,h2]
    have hTT:(qat M (Z 18).i).tab = qb vT.d:=by rw [hdt]; subst hM; rfl
    rw [hTM,hTT];obtain ⟨hb,lb,db⟩:=qaV kF (jac ..);have hl:Hp.le uH.h hb:=by simpa using db.1
    exact qaQ (kst _ (hpl up.i)) (Hp.le_trans hl lb)
end Go.Proofs
namespace Go.Eng
open Go Go.ChangeShapes Go.WideShapes Go.ChangeAt Go.RowKit
structure Grew (W w':World):Prop where
 os:w'.os = W.os
 out:w'.output = W.output
 blk:∀ (b:Nat) (o:Obj),W.heap[b]? = some o->w'.heap[b]? = some o
theorem Grew.block {W w':World} (h:Grew W w') {i:Nat} (hi:i < W.heap.size):w'.heap[i]? = W.heap[i]?:=by
 rw [jb7 hi]; exact h.blk i _ (jb7 hi)
theorem Grew.kept {W w':World} (h:Grew W w') (may:MemPlace->Prop):W.keptBut w' may:=by
 refine ⟨h.os,h.out,fun i hi=>?_⟩;rw [h.block hi,jb7 hi];cases W.heap[i] <;> simp
theorem Grew.trodAll {H:Type} {enc:TypeId × Value->H} {P:Program} {W W':World} (hg:Grew W W') (hl:laidOutB P = true) {sp:Nat->Bool}:∀ {ts:List TypeId} {vs:List Value} {ds:List (DataW H)} {ps:List MemPlace},
  (∀ t ∈ ts,P.readableRec t = true/\t < P.types.size)->DataW.TrodAll enc P W 0 (fun _=>true) true ts vs ds ps->(∀ p ∈ ps,p.block < W.heap.size)->(∀ p ∈ ps,sp p.block = true) ->
  DataW.TrodAll enc P W' 0 sp true ts vs ds ps
 | [],[],[],_,_,h,_,_=>h
 | _ :: _,_ :: _,_ :: _,_,hT,⟨p,q,h1,h2,e⟩,hlt,hs=>by
  subst e;refine ⟨p,q,?_,Grew.trodAll hg hl (fun t ht=>hT t (jab _ ht)) h2 (fun x hx=>hlt x (jby _ hx)) (fun x hx=>hs x (jby _ hx)),rfl⟩;have hr:=hT _ (jac ..);refine WideElems.Trod_stays hl hr.1 hr.2 h1 (fun x hx=>?_) (fun x hx=>hs x (jbd _ hx));have hb:=hg.block (hlt x (jbd _ hx));cases x with
  | cell b o=>exact World.cell?_of_block (w:=W) hb
  | map b=>exact hb
theorem qv8 {P:Program} {c:Ctr} (hok:c.ok P) (hheap:c.heap = []) (halts:∀ al ∈ c.alts,al.ret = .one (.vbool (.bl true))) {Z:Env} (hg:Z.good) (W:World)
  (hro:∀ x ∈ c.ro,x.roden Z (fun b=>W.heap[b]?)) (hpre:c.pre Z) :
  Calls P c.fn (c.args.map (SV.den Z)).toArray W fun e W'=>e = .returned (.bool true)/\Grew W W':=by
 have h:=hok.2 Z W ⟨fun b=>W.heap[b]?,W.os,W.output⟩ Hp.emp hg (Hp.disj_emp _)
  ⟨fun b o hb=>by simpa [Hp.union,Hp.emp] using hb,rfl,rfl⟩ (by rw [hheap]; trivial) hro hpre
 refine h.mono fun e w' hq=>?_
 obtain ⟨ai,al,Z',hal,_,_,rfl,_,hO,_,_,hsub,hwi⟩:=hq;refine ⟨by rw [halts al (jar hal)]; rfl,⟨hwi.1,hwi.2,fun b o hb=>hsub b o ?_⟩⟩;simp [Hp.union,hb]
theorem qxi {H:Type} {enc:TypeId × Value->H} {P:Program} {f:Func} {s:ChangeSpec} {W W':World} {args:Array Value} {ds gs:List (DataW H)} {before:List MemPlace} {bt:TypeId}
  (hl:laidOutB P = true) (hT:∀ t ∈ f.params.toList,P.readableRec t = true/\t < P.types.size) (hvars:s.vars = []) (hrt:f.resultTypes = #[bt]) (hbt:P.underlying bt = some .bool)
  (hfn:∀ ds':List (DataW H),ds'.length = f.params.size->s.fn H ds' = { results:=[.lit (.bool true)],args:=ds' })
  (hW:DataW.Whole enc P f.params.toList s.vars false W args.toList ds gs before) (hg:Grew W W'):s.post enc P f false true false false W args (.bool true) W':=by
 have hlt:=hW.lt;have hW0:=hW;obtain ⟨p,q,hA,hV,hpq,hz,hn⟩:=hW;rw [hvars] at hV;obtain ⟨rfl,rfl⟩:=trodVars_none hV;have hlen:ds.length = f.params.size:=by
  have:∀ {ts:List TypeId} {vs:List Value} {ds:List (DataW H)} {ps:List MemPlace},DataW.TrodAll enc P W 0 (fun _=>true) true ts vs ds ps->ds.length = ts.length:=by
   intro ts
   induction ts with
   | nil=>intro vs ds ps h; cases vs <;> cases ds <;> simp_all [DataW.TrodAll]
   | cons t ts ih =>
    intro vs ds ps h;cases vs <;> cases ds <;> simp_all [DataW.TrodAll];obtain ⟨p,q,_,h2,_⟩:=h;exact ih h2
  simpa using this hA
 have hlt':∀ x ∈ p,x.block < W.heap.size:=fun x hx=>hlt x (by rw [hpq]; exact jbd _ hx)
 refine ⟨ds,[],before,[],p,[],hW0,?_,?_,?_,hg.kept _,fun h=>by cases h⟩
 ·rw [jbz,hfn ds hlen,hrt]
  exact ⟨[],[],⟨1,by simp [DataW.trod,hbt,Value.cells]⟩,rfl,rfl⟩
 ·rw [jbz,hfn ds hlen]
  exact hg.trodAll hl hT hA hlt' (fun x hx=>by simpa using hlt' x hx)
 ·rw [jbz,hfn ds hlen,hvars]
  rfl
theorem qxw {H:Type} {enc:TypeId × Value->H} {P:Program} {f:Func} {s:ChangeSpec} {c:Ctr} {W:World} {args:Array Value} {ds gs:List (DataW H)} {before:List MemPlace} {bt:TypeId} {Z:Env}
  (hok:c.ok P) (hheap:c.heap = []) (halts:∀ al ∈ c.alts,al.ret = .one (.vbool (.bl true)))
  (hl:laidOutB P = true) (hT:∀ t ∈ f.params.toList,P.readableRec t = true/\t < P.types.size) (hvars:s.vars = []) (hrt:f.resultTypes = #[bt]) (hbt:P.underlying bt = some .bool)
  (hfn:∀ ds':List (DataW H),ds'.length = f.params.size->s.fn H ds' = { results:=[.lit (.bool true)],args:=ds' })
  (hW:DataW.Whole enc P f.params.toList s.vars false W args.toList ds gs before)
  (hg:Z.good) (hargs:args = (c.args.map (SV.den Z)).toArray) (hro:∀ x ∈ c.ro,x.roden Z (fun b=>W.heap[b]?)) (hpre:c.pre Z) :
  Calls P c.fn args W fun e W'=>∃ v,e = .returned v/\s.post enc P f false true false false W args v W':=by
 rw [hargs];refine (qv8 hok hheap halts hg W hro hpre).mono fun e W' ⟨he,hgr⟩=>⟨_,he,?_⟩
 rw [<- hargs];exact qxi hl hT hvars hrt hbt hfn hW hgr
def qmE (P:Program) (f:TypeId->Option (List CK)):List Field->Nat->Option (List CK)
 | [],_=>some []
 | x :: fs,off =>
  if Nat.beq x.offset off then
   match f x.type with
   | some p=>if Nat.beq p.length (P.cellsOf x.type) then (qmE P f fs (off + p.length)).map (p ++ ·) else none
   | none=>none
  else none
def qjT (p:List CK):Nat->List CK
 | 0=>[]
 | n + 1=>p ++ qjT p n
def qik (P:Program):Nat->TypeId->Option (List CK)
 | 0,_=>none
 | n + 1,t =>
  match P.underlying t with
  | some (.int k)=>some [.int k]
  | some .bool=>some [.bool]
  | some .string=>some [.any]
  | some (.slice _)=>some [.any]
  | some (.pointer _)=>some [.any]
  | some (.struct fs)=>match qmE P (qik P n) fs.toList 0 with
   | some p=>if Nat.beq p.length (P.cellsOf t) then some p else none
   | none=>none
  | some (.array m e)=>match qik P n e with
   | some p=>if Nat.beq p.length (P.cellsOf e) && Nat.beq (P.cellsOf t) (m * P.cellsOf e) then some (qjT p m) else none
   | none=>none
  | _=>none
theorem qhQ {p q:List CK} {cs:List Value} (h1:qaa p (cs.take p.length)) (h2:qaa q (cs.drop p.length)):qaa (p ++ q) cs:=by
 obtain ⟨a1,a2⟩:=h1;obtain ⟨b1,b2⟩:=h2;have hle:p.length <= cs.length:=by simp at a1; omega
 refine ⟨by simp at a1 b1 ⊢; omega,fun c k v hk hv=>?_⟩;by_cases hc:c < p.length
 ·rw [jbm hc] at hk
  exact a2 c k v hk (by rw [ja8,jah hc]; exact hv)
 ·rw [ja6 (by omega)] at hk
  exact b2 (c - p.length) k v hk (by rw [ja7,show p.length + (c - p.length) = c by omega]; exact hv)
section
variable {H:Type} {enc:TypeId × Value->H} {P:Program} {w:World} {base:Nat} {spare:Nat->Bool} {held:Bool}
theorem qez {v:Value} (h:v.oneCell' = true):qaa [.any] [v]:=⟨rfl,fun c k v' hk hv=>by
 cases c with
 | zero=>simp at hk hv; subst hk; subst hv; exact h
 | succ c=>simp at hk⟩
theorem qnb {f:TypeId->Option (List CK)} {cs:List Value} (hf:∀ t p,f t = some p->∀ cs',(∃ fuel x,DataW.trod enc P w base spare held fuel t cs' = some x)->qaa p cs') :
  ∀ {fs:List Field} {off:Nat} {p:List CK},qmE P f fs off = some p->(∀ x ∈ fs,∃ fuel y,DataW.trod enc P w base spare held fuel x.type ((cs.drop x.offset).take (P.cellsOf x.type)) = some y)->off + p.length = cs.length->qaa p (cs.drop off)
 | [],off,p,h,_,hl=>by
  simp only [qmE,jaa] at h; subst h;simp at hl;refine ⟨by simp; omega,fun c k v hk=>by simp at hk⟩
 | x :: fs,off,p,h,ht,hl=>by
  simp only [qmE] at h;split at h
  ·rename_i ho
   have ho:=Nat.eq_of_beq_eq_true ho;split at h
   ·rename_i p1 hp1
    split at h
    ·rename_i hc
     have hc:=Nat.eq_of_beq_eq_true hc;simp only [jag] at h;obtain ⟨p2,hp2,rfl⟩:=h;simp only [jbt] at hl;have h1:=hf x.type p1 hp1 _ (ht x (jac ..));rw [ho,<- hc] at h1;have h2:=qnb hf hp2 (fun y hy=>ht y (jab _ hy)) (by omega);exact qhQ h1 (by rw [jcy]; exact h2)
    ·simp at h
   ·simp at h
  ·simp at h
theorem qkJ {p:List CK}:∀ {m:Nat} {cs:List Value},cs.length = m * p.length->(∀ i,i < m->qaa p ((cs.drop (i * p.length)).take p.length))->qaa (qjT p m) cs
 | 0,cs,hl,_=>by
  simp at hl; subst hl;exact ⟨rfl,fun c k v hk=>by simp [qjT] at hk⟩
 | m + 1,cs,hl,h=>by
  simp only [qjT];refine qhQ (by simpa using h 0 (by omega)) (qkJ (by rw [jdr,hl,jbk]; omega) fun i hi=>?_);rw [jcy,show p.length + i * p.length = (i + 1) * p.length by rw [jbk]; omega];exact h (i + 1) (by omega)
theorem qgN:∀ (n:Nat) {t:TypeId} {pat:List CK},qik P n t = some pat->∀ cs,(∃ fuel x,DataW.trod enc P w base spare held fuel t cs = some x)->qaa pat cs
 | 0,t,pat,h,_,_=>by simp [qik] at h
 | n + 1,t,pat,h,cs,⟨fuel,x,hx⟩=>by
  simp only [qik] at h;split at h
  ·rename_i k hu
   simp only [jaa] at h; subst h;obtain ⟨z,rfl,_,_⟩:=DataW.trod_int hu hx;refine ⟨rfl,fun c k' v hk hv=>?_⟩;cases c with
   | zero=>simp at hk hv; subst hk; subst hv; simp [CK.fits]
   | succ c=>simp at hk
  ·rename_i hu
   simp only [jaa] at h; subst h;cases fuel with
   | zero=>simp [DataW.trod] at hx
   | succ m =>
    unfold DataW.trod at hx;rw [hu] at hx;split at hx <;> simp_all;refine ⟨rfl,fun c k' v hk hv=>?_⟩;cases c with
    | zero=>simp at hk hv; subst hk; subst hv; simp [CK.fits]
    | succ c=>simp at hk
  ·rename_i hu
   simp only [jaa] at h; subst h;cases fuel with
   | zero=>simp [DataW.trod] at hx
   | succ m =>
    unfold DataW.trod at hx;rw [hu] at hx;split at hx <;> simp_all;exact qez rfl
  ·rename_i e hu
   simp only [jaa] at h; subst h;rcases DataW.trod_slice hu hx with ⟨rfl,_⟩ | ⟨a,len,cap,elems,rest,m,_,rfl,_⟩
   ·exact qez rfl
   ·exact qez rfl
  ·rename_i e hu
   simp only [jaa] at h; subst h;cases fuel with
   | zero=>simp [DataW.trod] at hx
   | succ m =>
    unfold DataW.trod at hx;rw [hu] at hx;split at hx <;> simp_all
    all_goals exact qez rfl
  ·rename_i fs hu
   split at h
   ·rename_i p hp
    split at h
    ·rename_i hc
     have hc:=Nat.eq_of_beq_eq_true hc;simp only [jaa] at h; subst h;obtain ⟨xs,m,_,_,hl,hxl,hall⟩:=DataW.trod_struct hu hx;have:=qnb (cs:=cs) (f:=qik P n) (fun t p hp cs' hh=>qgN n hp cs' hh) hp (fun y hy=>by
      obtain ⟨i,hi⟩:=jbp hy;have hi':fs[i]? = some y:=by simpa using hi
      have h1:=hall i y hi';have hlt:i < xs.length:=by
       rw [hxl]; exact (jcv.1 hi').1
      exact ⟨m,xs[i],by rw [h1]; simp [hlt]⟩) (by omega)
     simpa using this
    ·simp at h
   ·simp at h
  ·rename_i m e hu
   split at h
   ·rename_i p hp
    split at h
    ·rename_i hc
     simp only [jad] at hc;have hc1:=Nat.eq_of_beq_eq_true hc.1;have hc2:=Nat.eq_of_beq_eq_true hc.2;simp only [jaa] at h; subst h;obtain ⟨xs,k,_,_,hl,hxl,hall⟩:=DataW.trod_array hu hx;refine qkJ (by rw [hl,hc2,hc1]) fun i hi=>?_
     have h1:=hall i hi;rw [<- hc1] at h1;exact qgN n hp _ ⟨k,xs[i]'(by omega),by rw [h1]; simp [hxl,hi]⟩
    ·simp at h
   ·simp at h
  ·simp at h
theorem qms {a:Addr} {n:Nat} {cs:List Value} (h:w.cells? base a n = some cs):cs.length = n/\∀ i,i < n->w.cell? (a.add i) = cs[i]?:=by
 unfold World.cells? at h;split at h
 ·exact ⟨by simpa using mapM_some_length h,fun i hi=>by simpa using mapM_some_get h i i (by simp [hi])⟩
 ·simp at h
theorem qor {t e:TypeId} {pat:List CK} {n:Nat} {v:Value} {d:DataW H} {ps:List MemPlace} (ht:P.underlying t = some (.slice e)) (hpat:qik P n e = some pat) (hce:P.cellsOf e = pat.length) (hpos:0 < pat.length)
  {fuel:Nat} (hsp:∀ b,spare b = true) (hf:DataW.trod enc P w base spare held fuel t [v] = some (d,ps)) :
  ∃ rows:List (List Value),Rd (fun b=>w.heap[b]?) pat v rows/\(∀ row ∈ rows,∃ fuel x,DataW.trod enc P w base spare held fuel e row = some x) /\
   ((d = .nil/\rows = [])∨∃ elems sp,d = .slice elems sp/\elems.length = rows.length/\∀ (i:Nat) (row:List Value),rows[i]? = some row->∃ fuel x,DataW.trod enc P w base spare held fuel e row = some x/\elems[i]? = some x.1):=by
 rcases DataW.trod_slice ht hf with ⟨h1,h2⟩ | ⟨a,len,cap,elems,rest,m,_,h1,h2,hb,hlc,hcm,hel,hall,hrest,_⟩
 ·simp at h1 h2
  exact ⟨[],.inl ⟨_,h1,rfl⟩,by simp,.inl ⟨h2.1,rfl⟩⟩
 ·simp at h1 h2
  subst h1;have hrow:∀ i,i < len->∃ cs x,w.cells? base (a.add (i * P.cellsOf e)) (P.cellsOf e) = some cs/\DataW.trod enc P w base spare held m e cs = some x/\elems[i]? = some x:=fun i hi=>by
   have:=hall i hi;rw [jae (by omega)] at this;obtain ⟨cs,g1,g2⟩:=jai.1 this;exact ⟨cs,_,g1,g2,jae _⟩
  let rows:List (List Value):=(List.range len).map fun i=>((w.cells? base (a.add (i * P.cellsOf e)) (P.cellsOf e)).getD [])
  have hget:∀ i row,rows[i]? = some row->i < len/\w.cells? base (a.add (i * P.cellsOf e)) (P.cellsOf e) = some row:=fun i row hr=>by
   simp only [rows,jaq,jag] at hr;obtain ⟨j,hj,rfl⟩:=hr;have hlt:i < len:=by
    have:=(jaj.1 hj).1; simpa using this
   rw [jde hlt] at hj;simp only [jaa] at hj; subst hj;obtain ⟨cs,x,g1,_,_⟩:=hrow i hlt;exact ⟨hlt,by rw [g1]; rfl⟩
  have hrl:rows.length = len:=by simp [rows]
  have htr:∀ row ∈ rows,∃ fuel x,DataW.trod enc P w base spare held fuel e row = some x:=fun row hr=>by
   obtain ⟨i,hi⟩:=jbp hr;obtain ⟨hlt,hc⟩:=hget i row hi;obtain ⟨cs,x,g1,g2,_⟩:=hrow i hlt;rw [hc] at g1;simp only [jaa] at g1; subst g1;exact ⟨m,x,g2⟩
  refine ⟨rows,?_,htr,.inr ⟨_,_,h2.1,by simp [hel,hrl],fun i row hi=>?_⟩⟩
  rotate_left
  ·obtain ⟨hlt,hc⟩:=hget i row hi
   obtain ⟨cs,x,g1,g2,g3⟩:=hrow i hlt;rw [hc] at g1;simp only [jaa] at g1; subst g1;exact ⟨m,x,g2,by simp [g3]⟩
  by_cases hcap:cap = 0
  ·have hl0:len = 0:=by omega
   have:rows = []:=by apply jcq; omega
   exact .inl ⟨some a,by rw [hl0,hcap],this⟩
  have hfirst:∃ cs,w.cells? base (a.add 0) (P.cellsOf e) = some cs:=by
   by_cases hl:0 < len
   ·obtain ⟨cs,_,g1,_,_⟩:=hrow 0 hl
    rw [jd8] at g1;exact ⟨cs,g1⟩
   ·obtain ⟨r1,r2⟩:=hrest (hsp _)
    have:=r2 0 (by omega);rw [show (len + 0) * P.cellsOf e = 0 by rw [show len + 0 = 0 by omega]; simp,jae (by omega)] at this;obtain ⟨cs,g1,_⟩:=jai.1 this;exact ⟨cs,g1⟩
  obtain ⟨cs0,hc0⟩:=hfirst;obtain ⟨hl0,hg0⟩:=qms hc0;have h00:=hg0 0 (by omega);rw [show (a.add 0).add 0 = a from rfl,jae (by omega)] at h00;obtain ⟨ab,ao,asp⟩:=a;have hblk0:=h00;unfold World.cell? at hblk0;split at hblk0
  ·rename_i c ty fr hblk
   simp only at hblk;have hsp0:asp = none:=by
    cases asp with
    | none=>rfl
    | some s=>simp at hblk0
   subst hsp0;refine .inr ⟨ab,ao,cap,c,ty,fr,by rw [hrl],by omega,hblk,fun i row hi=>?_⟩;obtain ⟨hlt,hc⟩:=hget i row hi;refine ⟨qgN n hpat row (htr row (jar hi)),fun k x hk=>?_⟩;obtain ⟨hl1,hg⟩:=qms hc;have hkl:k < P.cellsOf e:=by
    rw [<- hl1]; exact (jaj.1 hk).1
   have:=hg k hkl;rw [hk,hce] at this;rw [Go.Eng.addr_add,Go.Eng.addr_add,qb4 hblk] at this;exact this
  ·simp at hblk0
end
theorem okWide_slice {P:Program} {w:World} {r:Go.Reach} {b:Nat} {t e:TypeId} {v:Value} (ht:P.underlying t = some (.slice e)) (h:Value.okWide P w r b t v) :
  v.cells = #[v]/\∀ a len cap,v = .slice (some a) len cap->a.spot = none/\(w.shape? a.block).isSome = true:=by
 simp only [Value.okWide,ht,Cell.okWide,Cell.ok] at h;cases v <;> simp_all [Value.cells];rename_i a len cap;intro a' ha;subst ha;obtain ⟨_,_,_,h1,row,cells,h2,_⟩:=h;exact ⟨h1,by rw [h2]; rfl⟩
end Go.Eng
namespace Go.Proofs.Ytlmkkphojjodhaa
open Go Go.Eng Go.Proofs Go.ChangeShapes Go.WideShapes Go.ChangeAt Go.RowKit
theorem own:ownKnob Try.prog.godebug = none:=by kernel_rfl
theorem qyG:laidOutB Try.prog = true:=by kernel_rfl
theorem q0k:qik Try.prog 3 25 = some qp:=by kernel_rfl
theorem qzp:Try.prog.cellsOf 25 = qp.length:=by kernel_rfl
theorem qzj:Try.prog.bytesOf 25 = 16:=by kernel_rfl
end Go.Proofs.Ytlmkkphojjodhaa
namespace Go.Eng
open Go
def qer (n i:Int):Bool:=decide (0 <= i) && decide (i < n)
def qec (self n:Int) (g:Msg) (t:List Ent):Bool :=
 qer n g.src && !(g.src == self) && (g.dst == self) && qdm t && decide ((t.length:Int) = n) &&
  (if g.kind = 1∨g.kind = 2 then qer n g.origin else if g.kind = 3 then qer n g.target else false)
def qde (t:List Ent) (i:Nat):Ent:=t.getD i (0,0)
def qbM (self:Int) (tab t:List Ent):List Ent:=tab.mapIdx fun i x=>if (i:Int) = self then x else qcg x (qde t i)
def qbc (self clock:Int) (tab:List Ent) (since:List Int) (t:List Ent):List Int:=since.mapIdx fun i s=>if (i:Int) ≠ self/\qcg (qde tab i) (qde t i) ≠ qde tab i/\(qcg (qde tab i) (qde t i)).2 = 2 then clock else s
def qb8 (self:Int) (tab t:List Ent) (chal:Int):Int:=if qby (qde t self.toNat) (qde tab self.toNat) = true then max chal (qde t self.toNat).1 else chal
def qaL (self:Int) (g:Msg):Bool:=decide (g.kind = 2/\g.origin = self)
def qbl (m:Mach) (g:Msg) (t:List Ent):Mach :=
 { m with tab:=qbM m.self m.tab t,since:=qbc m.self m.clock m.tab m.since t,chal:=qb8 m.self m.tab t m.chal,probes:=if qaL m.self g then m.probes.filter (fun p=>!(p.seq == g.seq)) else m.probes }
def qbh (self:Int) (g:Msg):Msg :=
 if g.kind = 3 then (if g.target = self then ⟨2,0,g.src,g.seq,g.src,0⟩ else ⟨1,0,g.target,g.seq,g.src,0⟩)
 else if g.kind = 2 then ⟨2,0,g.origin,g.seq,g.origin,0⟩ else ⟨2,0,g.src,g.seq,g.origin,0⟩
def qbr {α:Type} (old new cur:List α) (i:Int):Prop:=∀ j:Nat,cur[j]? = if (j:Int) < i then new[j]? else old[j]?
def qbE (m:Mach) (g:Msg) (t:List Ent):Int:=if m.left then 30 else if qec m.self m.tab.length g t then 0 else 2
def qab (m:Mach) (g:Msg) (t:List Ent):Mach:=if qbE m g t = 0 then qbl m g t else m
def qaY (m:Mach) (g:Msg) (t:List Ent):List Msg:=if qbE m g t = 0/\qaL m.self g = false then [qbh m.self g] else []
def qbS (b:Nat) (tab:T) (rest:Nat):List T:=[.vint .u8 (.var b),.vint .i64 (.var (b + 1)),.vint .i64 (.var (b + 2)),.vint .u64 (.var (b + 3)),.vint .i64 (.var (b + 4)),.vint .i64 (.var (b + 5)),tab] ++ qfz rest 109
def qaP (Z:Env) (b:Nat):Msg:=⟨(Z b).i,(Z (b + 1)).i,(Z (b + 2)).i,(Z (b + 3)).i,(Z (b + 4)).i,(Z (b + 5)).i⟩
def qhG:Ctr:={ fn:=87,nv:=19,args:=[ptr 0,iv .i64 (.var 18)],heap:=[],ro:=[qbv (.var 12)],pre:=fun Z=>0 <= (Z 3).i,alts:=[{ k:=1,ret:=qdF 19,heap:=[],post:=fun Z=>(Z 19).b = qer (Z 3).i (Z 18).i }] }
def qmM:T:=.vslice 24 (.lit 0) (.var 25) (.var 26) 2
def qeq:Ctr:={ fn:=81,nv:=138,args:=[ptr 0,.agg (qbS 18 qmM 29)],heap:=[],ro:=[qbv (.var 12),.arr 24 25 qp (.var 27) (.var 28)],pre:=fun Z=>0 <= (Z 3).i/\(Z 25).i = (Z 27).d.length/\(Z 25).i <= big,alts:=[{ k:=1,ret:=qdF 138,heap:=[],post:=fun Z=>(Z 138).b = qec (Z 1).i (Z 3).i (qaP Z 18) (qb (Z 27).d) }] }
def qi5 (s:Int) (p:Prb):Bool:=p.seq == s
def qfC (r l c:Nat):SV:=.one (.vslice r (.lit 0) (.var l) (.var c) 4)
def pRo (r d k:Nat):SH:=.arr r 63 qb1 (.var d) (.var k)
def qtF:SV:=.fn (.func 83) [] [.vptr 4 (.lit 0) 0 0]
def qx3:SH:=.cells 4 43 (qbS 5 (.var 11) 12)
def qgz:Ctr:={ fn:=83,nv:=121,args:=[.agg (qeK 0),ptr 4],heap:=[],ro:=[qx3],pre:=fun _=>True,alts:=[{ k:=1,ret:=qdF 121,heap:=[],post:=fun Z=>(Z 121).b = qi5 (Z 8).i ⟨(Z 0).i,(Z 1).i,(Z 2).i,(Z 3).b⟩ }] }
def qgG:Ctr:={ fn:=88,nv:=126,args:=[qfC 121 122 123,qtF],heap:=[],ro:=[qx3,pRo 121 124 125],pre:=fun Z=>(Z 122).i <= (Z 124).d.length/\0 <= (Z 122).i/\(Z 122).i <= big,alts:=[{ k:=1,ret:=iv .i64 (.var 126),heap:=[],post:=fun Z=>qxt (qi5 (Z 8).i) ((qt (Z 124).d).take (Z 122).i.toNat) (Z 126).i }] }
def qpX:Inv:={ key:=2,nv:=1,env:=[(0,qfC 121 122 123),(1,qtF),(7,iv .i64 (.var 122)),(8,iv .i64 (.var 1000))],heap:=[],inv:=(fun Z=>0 <= (Z 1000).i/\(Z 1000).i <= (Z 122).i/\qdc (qi5 (Z 8).i) ((qt (Z 124).d).take (Z 122).i.toNat) (Z 1000).i.toNat = true),mu:=(fun Z=>((Z 122).i - (Z 1000).i).toNat) }
def qft:Ctr:={ fn:=82,nv:=126,args:=[qfC 121 122 123,qtF],heap:=[pRo 121 124 125],ro:=[qx3],pre:=fun Z=>(Z 122).i <= (Z 124).d.length/\0 <= (Z 122).i/\(Z 122).i <= big/\(Z 123).i = (Z 125).i,alts:=[{ k:=2,ret:=.one (.vslice 121 (.lit 0) (.var 126) (.var 123) 4),heap:=[.arr 121 63 qb1 (.var 127) (.var 125)],post:=fun Z=>0 <= (Z 126).i/\(Z 126).i <= (Z 127).d.length/\(Z 126).i <= (Z 122).i/\(qt (Z 127).d).take (Z 126).i.toNat = ((qt (Z 124).d).take (Z 122).i.toNat).filter (fun x=>!qi5 (Z 8).i x) }] }
def qol:Inv:={ key:=5,nv:=3,env:=[(0,qfC 121 122 123),(1,qtF),(5,iv .i64 (.var 1000)),(6,iv .i64 (.var 1001))],heap:=[.arr 121 63 qb1 (.var 1002) (.var 125)],inv:=(fun Z=>qfS (qi5 (Z 8).i) ((qt (Z 124).d).take (Z 122).i.toNat) ((qt (Z 1002).d).take (Z 122).i.toNat) (Z 1000).i (Z 1001).i/\(Z 1002).d.length = (Z 124).d.length),mu:=(fun Z=>((Z 122).i - (Z 1001).i).toNat) }
def qlX (np chal:T):SH:=qkl (.var 9) (.var 10) (.var 11) .dnil np (.var 14) chal (.var 17) 12
def qeQ:Ctr:={ fn:=58,nv:=138,args:=[ptr 0,.agg (qbS 18 qmM 29)],heap:=qxd,ro:=[.arr 24 25 qp (.var 27) (.var 28)],pre:=fun Z=>qrf Z/\(Z 25).i = (Z 27).d.length/\(Z 25).i <= big,alts:=[{ k:=6,ret:=.tup [(false,[.vnils]),(false,[.vint .i64 (.var 138)])],heap:=[qlX (.var 140) (.var 139),.arr 2 25 qp (.var 141) (.var 4),.arr 6 22 [.int .u64] (.var 142) (.var 7),.arr 12 63 qb1 (.var 143) (.var 14)],post:=fun Z=>(Z 138).i = qbE (m0 Z) (qaP Z 18) (qb (Z 27).d)/\qaY (m0 Z) (qaP Z 18) (qb (Z 27).d) = []/\qae (Z 1).i (Z 141).d (Z 142).d (Z 9).i (Z 10).i (Z 11).i (Z 140).i (Z 143).d (Z 139).i (Z 17).b = qab (m0 Z) (qaP Z 18) (qb (Z 27).d)/\0 <= (Z 140).i/\(Z 140).i <= (Z 143).d.length/\(Z 140).i <= (Z 13).i },
  { k:=7,ret:=.tup [(false,[.vslice 138 (.lit 0) (.lit 1) (.var 139) 116]),(false,[.vint .i64 (.lit 0)])],heap:=[qlX (.var 13) (.var 144),.arr 2 25 qp (.var 142) (.var 4),.arr 6 22 [.int .u64] (.var 143) (.var 7),qh9,.arr 138 43 qb0 (.var 140) (.var 139),.abs 141 2],post:=fun Z=>qbE (m0 Z) (qaP Z 18) (qb (Z 27).d) = 0/\qaY (m0 Z) (qaP Z 18) (qb (Z 27).d) = [qbh (Z 1).i (qaP Z 18)]/\qae (Z 1).i (Z 142).d (Z 143).d (Z 9).i (Z 10).i (Z 11).i (Z 13).i (Z 15).d (Z 144).i (Z 17).b = qab (m0 Z) (qaP Z 18) (qb (Z 27).d)/\qX (Z 141).h [qbh (Z 1).i (qaP Z 18)] (Z 1).i (qab (m0 Z) (qaP Z 18) (qb (Z 27).d)).tab 1 (Z 140).d }] }
def qsN:Inv:={ key:=7,nv:=6,env:=[(0,ptr 0),(3,ptr 1000),(20,.one qmM),(21,iv .i64 (.var 25)),(22,iv .i64 (.var 1001))],heap:=[qlX (.var 13) (.var 1005),.arr 2 25 qp (.var 1003) (.var 4),.arr 6 22 [.int .u64] (.var 1004) (.var 7),qh9,.cells 1000 43 (qbS 18 qmM 29)],inv:=(fun Z=>0 <= (Z 1001).i/\(Z 1001).i <= (Z 3).i/\(Z 1003).d.length = (Z 5).d.length/\(Z 1004).d.length = (Z 8).d.length/\(∀ j:Nat,(qb (Z 1003).d)[j]? = if (j:Int) < (Z 1001).i then (qbM (Z 1).i (qb (Z 5).d) (qb (Z 27).d))[j]? else (qb (Z 5).d)[j]?)/\(∀ j:Nat,(qf (Z 1004).d)[j]? = if (j:Int) < (Z 1001).i then (qbc (Z 1).i (Z 9).i (qb (Z 5).d) (qf (Z 8).d) (qb (Z 27).d))[j]? else (qf (Z 8).d)[j]?)/\(Z 1005).i = if (Z 1).i < (Z 1001).i then qb8 (Z 1).i (qb (Z 5).d) (qb (Z 27).d) (Z 16).i else (Z 16).i),mu:=(fun Z=>((Z 25).i - (Z 1001).i).toNat) }
def qd3:Ctr:={ qeQ with fn:=23 }
def qs5:List T:=[.vint .u8 (.var 18),.vint .i64 (.var 19),.vint .i64 (.var 20),.vint .u64 (.var 21),.vint .i64 (.var 22),.vint .i64 (.var 23),.vslice 1000 (.lit 0) (.var 25) (.var 1004) 2] ++ qfz 29 109
def qlD:Inv:={ key:=4,nv:=11,env:=[(3,ptr 1002),(6,.one .vnils),(7,iv .i64 (.var 1005)),(8,iv .i64 (.var 1001))],heap:=[.cells 1002 43 qs5,.arr 1000 25 qp (.var 1003) (.var 1004),qlX (.var 1007) (.var 1006),.arr 2 25 qp (.var 1008) (.var 4),.arr 6 22 [.int .u64] (.var 1009) (.var 7),.arr 12 63 qb1 (.var 1010) (.var 14)],inv:=(fun Z=>0 <= (Z 1001).i/\(Z 1001).i <= (Z 25).i/\(Z 1003).d.length = (Z 25).i/\(Z 1005).i = qbE (m0 Z) (qaP Z 18) (qb (Z 27).d)/\qaY (m0 Z) (qaP Z 18) (qb (Z 27).d) = []/\qae (Z 1).i (Z 1008).d (Z 1009).d (Z 9).i (Z 10).i (Z 11).i (Z 1007).i (Z 1010).d (Z 1006).i (Z 17).b = qab (m0 Z) (qaP Z 18) (qb (Z 27).d)/\0 <= (Z 1007).i/\(Z 1007).i <= (Z 1010).d.length/\(Z 1007).i <= (Z 13).i),mu:=(fun Z=>((Z 25).i - (Z 1001).i).toNat) }
def qlw:Inv:={ key:=4,nv:=12,env:=[(3,ptr 1002),(6,.one (.vslice 1005 (.lit 0) (.lit 1) (.var 1006) 116)),(7,.one (il .i64 0)),(8,iv .i64 (.var 1001))],heap:=[.cells 1002 43 qs5,.arr 1000 25 qp (.var 1003) (.var 1004),qlX (.var 13) (.var 1007),.arr 2 25 qp (.var 1008) (.var 4),.arr 6 22 [.int .u64] (.var 1009) (.var 7),qh9,.arr 1005 43 qb0 (.var 1010) (.var 1006),.abs 1011 2],inv:=(fun Z=>0 <= (Z 1001).i/\(Z 1001).i <= (Z 25).i/\(Z 1003).d.length = (Z 25).i/\qbE (m0 Z) (qaP Z 18) (qb (Z 27).d) = 0/\qaY (m0 Z) (qaP Z 18) (qb (Z 27).d) = [qbh (Z 1).i (qaP Z 18)]/\qae (Z 1).i (Z 1008).d (Z 1009).d (Z 9).i (Z 10).i (Z 11).i (Z 13).i (Z 15).d (Z 1007).i (Z 17).b = qab (m0 Z) (qaP Z 18) (qb (Z 27).d)/\qX (Z 1011).h [qbh (Z 1).i (qaP Z 18)] (Z 1).i (qab (m0 Z) (qaP Z 18) (qb (Z 27).d)).tab 1 (Z 1010).d),mu:=(fun Z=>((Z 25).i - (Z 1001).i).toNat) }
end Go.Eng
namespace Go.Proofs.Ytlmkkphojjodhaa
open Go Go.Eng Go.Proofs Go.ChangeShapes Go.WideShapes Go.ChangeAt Go.RowKit
noncomputable def qzC:Array Field:=match Try.prog.underlying 43 with | some (.struct fs)=>fs | _=>#[]
theorem qyO:Try.prog.underlying 43 = some (.struct qzC):=by kernel_rfl
theorem qzt:(qzC[6]?).map (fun f=>(f.type,f.offset)) = some (31,6):=by kernel_rfl
theorem qyU:Try.prog.cellsOf 43 = 116:=by kernel_rfl
theorem qyZ:Try.prog.cellsOf 31 = 1:=by kernel_rfl
theorem q0m:Try.prog.readableRec 3 = true/\3 < Try.prog.types.size:=⟨by kernel_rfl,ja1 (by kernel_rfl)⟩
end Go.Proofs.Ytlmkkphojjodhaa
namespace Go.Eng
open Go
def qc2 (self n inc:Int):Mach:=⟨self,(List.replicate n.toNat ((0,0):Ent)).set self.toNat (inc,1),List.replicate n.toNat 0,0,0,self,[],0,false⟩
def qti (r ra rs rp:Nat) (self n capT clock seq pinged np capP chal left:T):SH:=.cells r 117 [.vint .i64 self,.vslice ra (.lit 0) n capT 2,.vslice rs (.lit 0) n n 1,.vint .u64 clock,.vint .u64 seq,.vint .i64 pinged,.vslice rp (.lit 0) np capP 4,.vint .u64 chal,.vbool left]
def qep:Ctr:={ fn:=22,nv:=3,args:=[iv .i64 (.var 0),iv .i64 (.var 1),iv .u64 (.var 2)],heap:=[],ro:=[],pre:=fun _=>True,alts:=[
 { k:=0,ret:=.tup [(false,[.vnilp]),(false,[.vint .i64 (.lit 2)])],heap:=[],post:=fun Z=>qa3 (Z 0).i (Z 1).i (Z 2).i = true },
 { k:=9,ret:=.tup [(false,[.vptr 3 (.lit 0) 0 0]),(false,[.vint .i64 (.lit 0)])],heap:=[qti 3 4 5 8 (.var 0) (.var 1) (.var 1) (.lit 0) (.lit 0) (.var 0) (.var 9) (.var 10) (.lit 0) (.bl false),.arr 4 25 qp (.var 6) (.var 1),.arr 5 22 [.int .u64] (.var 7) (.var 1),.arr 8 63 qb1 (.var 11) (.var 10)],post:=fun Z=>qa3 (Z 0).i (Z 1).i (Z 2).i = false/\qae (Z 0).i (Z 6).d (Z 7).d 0 0 (Z 0).i (Z 9).i (Z 11).d 0 false = qc2 (Z 0).i (Z 1).i (Z 2).i/\((Z 6).d.length:Int) = (Z 1).i/\((Z 7).d.length:Int) = (Z 1).i/\(Z 9).i = 0 }] }
def qeC:Ctr:={ fn:=28,nv:=18,args:=[ptr 0],heap:=[],ro:=[qbv (.var 12),qi1],pre:=fun Z=>(Z 3).i = (Z 5).d.length/\0 < (Z 3).i/\(Z 3).i <= big,alts:=[{ k:=3,ret:=.one (.vslice 18 (.lit 0) (.var 3) (.var 19) 2),heap:=[.arr 18 25 qp (.var 20) (.var 19)],post:=fun Z=>(Z 20).d = (Z 5).d }] }
def qbY (m:Mach) (inc:Int):Int:=if m.left then 30 else if inc <= (qc4 m.tab m.self).1∨inc <= m.chal then 2 else 0
def qaM (m:Mach) (inc:Int):Mach:=if qbY m inc = 0 then { m with tab:=m.tab.set m.self.toNat (inc,1),chal:=0 } else m
def qU (t:List Ent) (self:Int):List Ent:=t.set self.toNat ((qc4 t self).1,4)
def qc1 (m:Mach):Mach:=if m.left then m else { m with tab:=qU m.tab m.self,left:=true }
def qg9 (i:Int):Msg:=⟨2,0,i,0,i,0⟩
def qdl (t:List Ent):List Msg:=(qdQ t).map qg9
def qn2 (chal left:T):SH:=.cells 0 117 [.vint .i64 (.var 1),.vslice 2 (.lit 0) (.var 3) (.var 4) 2,.vslice 6 (.lit 0) (.var 3) (.var 7) 1,.vint .u64 (.var 9),.vint .u64 (.var 10),.vint .i64 (.var 11),.var 12,.vint .u64 chal,.vbool left]
def m1 (Z:Env):Mach:=qae (Z 1).i (Z 5).d [] (Z 9).i (Z 10).i (Z 11).i 0 [] (Z 16).i (Z 17).b
def qc5:Ctr:={ fn:=50,nv:=18,args:=[ptr 0],heap:=[],ro:=[qbv (.var 12)],pre:=fun _=>True,alts:=[{ k:=0,ret:=iv .u64 (.var 16),heap:=[],post:=fun _=>True }] }
def qe9:Ctr:={ fn:=45,nv:=18,args:=[ptr 0],heap:=[],ro:=[qbv (.var 12)],pre:=fun _=>True,alts:=[{ k:=0,ret:=iv .u64 (.var 9),heap:=[],post:=fun _=>True }] }
def qgj:Ctr:={ fn:=30,nv:=18,args:=[ptr 0],heap:=[],ro:=[qbv (.var 12),qi1],pre:=fun Z=>(Z 3).i = (Z 5).d.length/\(Z 3).i <= big,alts:=[{ k:=4,ret:=.one (.vslice 18 (.lit 0) (.var 19) (.var 20) 1),heap:=[.arr 18 3 [.int .i64] (.var 21) (.var 20)],post:=fun Z=>qf (Z 21).d = qdQ (qb (Z 5).d)/\(Z 19).i = (Z 21).d.length/\(Z 19).i <= (Z 3).i }] }
def qgE:Ctr:={ fn:=69,nv:=5,args:=[qfC 0 1 2],heap:=[],ro:=[pRo 0 3 4],pre:=fun Z=>0 <= (Z 1).i/\(Z 1).i <= (Z 3).d.length/\(Z 1).i <= 1000001,alts:=[{ k:=4,ret:=.one (.vslice 5 (.lit 0) (.var 6) (.var 7) 4),heap:=[.arr 5 63 qb1 (.var 8) (.var 7)],post:=fun Z=>(Z 8).d = (Z 3).d.take (Z 1).i.toNat/\(Z 6).i = (Z 1).i/\(Z 6).i = (Z 8).d.length }] }
def qek:Ctr:={ fn:=31,nv:=18,args:=[ptr 0],heap:=[],ro:=[qbv quP,qh9],pre:=fun Z=>0 <= (Z 13).i/\(Z 13).i <= (Z 15).d.length/\(Z 13).i <= 1000001,alts:=[{ k:=4,ret:=.one (.vslice 18 (.lit 0) (.var 19) (.var 20) 4),heap:=[.arr 18 63 qb1 (.var 21) (.var 20)],post:=fun Z=>(Z 21).d = (Z 15).d.take (Z 13).i.toNat/\(Z 19).i = (Z 13).i/\(Z 19).i = (Z 21).d.length }] }
def qeA:Ctr:={ fn:=43,nv:=19,args:=[ptr 0,iv .u64 (.var 18)],heap:=[qbv (.var 12),qi1],ro:=[],pre:=fun Z=>(Z 3).i = (Z 5).d.length/\0 <= (Z 1).i/\(Z 1).i < (Z 3).i,alts:=[{ k:=3,ret:=iv .i64 (.var 19),heap:=[qn2 (.var 21) (.var 17),.arr 2 25 qp (.var 20) (.var 4)],post:=fun Z=>(Z 19).i = qbY (m1 Z) (Z 18).i/\qb (Z 20).d = (qaM (m1 Z) (Z 18).i).tab/\(Z 21).i = (qaM (m1 Z) (Z 18).i).chal/\(Z 20).d.length = (Z 5).d.length }] }
def qeW:Ctr:={ fn:=44,nv:=18,args:=[ptr 0],heap:=[qbv (.var 12),qi1],ro:=[],pre:=fun Z=>mOk Z/\(qc4 (qb (Z 5).d) (Z 1).i).2 ≠ 0,alts:=[{ k:=0,ret:=.one .vnils,heap:=[qbv (.var 12),qi1],post:=fun Z=>(Z 17).b = true },
 { k:=6,ret:=.one (.vslice 18 (.lit 0) (.var 19) (.var 20) 116),heap:=[qn2 (.var 16) (.bl true),.arr 2 25 qp (.var 21) (.var 4),.arr 18 43 qb0 (.var 22) (.var 20),.abs 23 2],post:=fun Z=>(Z 17).b = false/\qb (Z 21).d = qU (qb (Z 5).d) (Z 1).i/\(Z 21).d.length = (Z 5).d.length/\(Z 19).i = (Z 22).d.length/\qX (Z 23).h (qdl (qU (qb (Z 5).d) (Z 1).i)) (Z 1).i (qU (qb (Z 5).d) (Z 1).i) (qdl (qU (qb (Z 5).d) (Z 1).i)).length (Z 22).d }] }
def qqW:Inv:={ key:=6,nv:=10,env:=[(0,ptr 0),(3,.one (.vslice 1005 (.lit 0) (.var 1006) (.var 1007) 116)),(26,.one (.vslice 1001 (.lit 0) (.var 1002) (.var 1003) 1)),(27,iv .i64 (.var 1002)),(28,iv .i64 (.var 1000))],heap:=[qn2 (.var 16) (.bl true),.arr 2 25 qp (.var 1009) (.var 4),.arr 1001 3 [.int .i64] (.var 1004) (.var 1003),.arr 1005 43 qb0 (.var 1008) (.var 1007)],inv:=(fun Z=>0 <= (Z 1000).i/\(Z 1000).i <= (Z 1002).i/\(Z 1002).i = (Z 1004).d.length/\(Z 1002).i <= (Z 3).i/\qb (Z 1009).d = qU (qb (Z 5).d) (Z 1).i/\(Z 1009).d.length = (Z 5).d.length/\qf (Z 1004).d = qdQ (qU (qb (Z 5).d) (Z 1).i)/\(Z 1006).i = (Z 1008).d.length/\(Z 1006).i = (Z 1000).i/\qC (Z 1008).d (((qdQ (qU (qb (Z 5).d) (Z 1).i)).take (Z 1000).i.toNat).map qg9)),mu:=(fun Z=>((Z 1002).i - (Z 1000).i).toNat) }
def qmw (draw:Int):Nat->Mach->Mach
 | 0,m=>m
 | n + 1,m=>qat (qmw draw n m) draw
def qjR (self n inc:Int) (t:List Ent):Mach:=qab (qc2 self n inc) ⟨2,Int.tmod (self + 1) n,self,0,self,0⟩ t
end Go.Eng
namespace Go.Proofs
open Go Go.Eng
def qrk:Out:=(.br (.cmp .geq (tv 18) (tl 0))
 (tn (tl 0) (tv 3) (.ret 0 (sg 19 [bt 19 (.cmp .lss (tv 18) (tv 3))])))
 (.ret 0 (sg 19 [bt 19 (.bl false)])))
theorem qwh:ql Try.prog qhG [] [] qrk:=qe Try.func87 Try.call87 (by kernel_rfl)
@[simp] def qiK:Sg:=sg 0 [bv 17 17,bv 16 16,bv 12 12,bv 11 11,bv 10 10,bv 9 9,bv 7 7,bg 6 6,bv 4 4,bv 3 3,bg 2 2,bv 1 1,bv 18 22,bg 0 0]
@[simp] def qiL:Sg:=sg 0 [bv 17 17,bv 16 16,bv 12 12,bv 11 11,bv 10 10,bv 9 9,bv 7 7,bg 6 6,bv 4 4,bv 3 3,bg 2 2,bv 1 1,bv 18 23,bg 0 0]
@[simp] def qiF:Sg:=sg 0 [bv 17 17,bv 16 16,bv 12 12,bv 11 11,bv 10 10,bv 9 9,bv 7 7,bg 6 6,bv 4 4,bv 3 3,bg 2 2,bv 1 1,bv 18 19,bg 0 0]
@[simp] def qiD:Out:=.pre 0 qiK (tb (.fresh 141 (.post 0 0 qiK 141 (.ret 0 (sg 138 [bv 138 141])))))
def qk0:Out:=(.fresh 138 (tb (.pre 0 qiF (tb (.fresh 139 (.post 0 0 qiF 139 (.br (.not (tv 139))
 (tb (.ret 0 (sg 138 [bt 138 (.bl false)])))
 (.br (.cmp .eql (tv 19) (tv 1))
 (tb (.ret 0 (sg 138 [bt 138 (.bl false)])))
 (.br (.cmp .neq (tv 20) (tv 1))
 (tb (.ret 0 (sg 138 [bt 138 (.bl false)])))
 (tb (.pre 1 (sg 0 [bv 4 28,bv 3 27,bv 2 26,bv 1 25,bg 0 24]) (tb (.fresh 140 (.post 1 0 (sg 0 [bv 4 28,bv 3 27,bv 2 26,bv 1 25,bg 0 24]) 140 (.br (.not (tv 140))
 (.ret 0 (sg 138 [bt 138 (.bl false)]))
 (tn (tl 0) (tv 25) (tn (tl 0) (tv 3) (.br (.cmp .neq (tv 25) (tv 3))
 (.ret 0 (sg 138 [bt 138 (.bl false)]))
 (.br (.cmp .eql (tv 18) (tl 1))
 qiD
 (.br (.cmp .eql (tv 18) (tl 2))
 qiD
 (.br (.cmp .eql (tv 18) (tl 3))
 (.pre 0 qiL (tb (.fresh 141 (.post 0 0 qiL 141 (.ret 0 (sg 138 [bv 138 141]))))))
 (.ret 0 (sg 138 [bt 138 (.bl false)])))))))))))))))))))))))
theorem qqd:ql Try.prog qeq [qhG,qdo] [] qk0:=qe Try.func81 Try.call81 (by kernel_rfl)
def qsK:Out:=(.fresh 121 (.ret 0 (sg 121 [bt 121 (.cmp .eql (tv 0) (tv 8))])))
theorem qxO:ql Try.prog qgz [] [] qsK:=qe Try.func83 Try.call83 (by kernel_rfl)
@[simp] def qkM:Sg:=sg 0 [bv 120 120,bv 119 119,bv 118 118,bv 117 117,bv 116 116,bv 115 115,bv 114 114,bv 113 113,bv 112 112,bv 111 111,bv 110 110,bv 109 109,bv 108 108,bv 107 107,bv 106 106,bv 105 105,bv 104 104,bv 103 103,bv 102 102,bv 101 101,bv 100 100,bv 99 99,bv 98 98,bv 97 97,bv 96 96,bv 95 95,bv 94 94,bv 93 93,bv 92 92,bv 91 91,bv 90 90,bv 89 89,bv 88 88,bv 87 87,bv 86 86,bv 85 85,bv 84 84,bv 83 83,bv 82 82,bv 81 81,bv 80 80,bv 79 79,bv 78 78,bv 77 77,bv 76 76,bv 75 75,bv 74 74,bv 73 73,bv 72 72,bv 71 71,bv 70 70,bv 69 69,bv 68 68,bv 67 67,bv 66 66,bv 65 65,bv 64 64,bv 63 63,bv 62 62,bv 61 61,bv 60 60,bv 59 59,bv 58 58,bv 57 57,bv 56 56,bv 55 55,bv 54 54,bv 53 53,bv 52 52,bv 51 51,bv 50 50,bv 49 49,bv 48 48,bv 47 47,bv 46 46,bv 45 45,bv 44 44,bv 43 43,bv 42 42,bv 41 41,bv 40 40,bv 39 39,bv 38 38,bv 37 37,bv 36 36,bv 35 35,bv 34 34,bv 33 33,bv 32 32,bv 31 31,bv 30 30,bv 29 29,bv 28 28,bv 27 27,bv 26 26,bv 25 25,bv 24 24,bv 23 23,bv 22 22,bv 21 21,bv 20 20,bv 19 19,bv 18 18,bv 17 17,bv 16 16,bv 15 15,bv 14 14,bv 13 13,bv 12 12,bv 11 11,bv 10 10,bv 9 9,bv 8 8,bv 7 7,bv 6 6,bv 5 5,bg 4 4,bt 3 (.bcell (tv 124) (tv 126) 3),bt 2 (.icell (tv 124) (tv 126) 2),bt 1 (.icell (tv 124) (tv 126) 1),bt 0 (.icell (tv 124) (tv 126) 0)]
def qnL:Out:=(tn (tl 0) (tv 122) (.inv 0 126 (sg 1000 [bt 1000 (tl 0)]) (.fresh 126 (.hyp 0 126 (.br (.cmp .lss (tv 126) (tv 122))
 (tn (tl 0) (tv 126) (ts (tv 126) (.dlen (tv 124)) (.pre 0 qkM (tb (.fresh 127 (.post 0 0 qkM 127 (.br (tv 127)
 (.ret 0 (sg 126 [bv 126 126]))
 (.back 0 126 (sg 1000 [bt 1000 (.arith .add .i64 (tv 126) (tl 1))])))))))))
 (.ret 0 (sg 126 [bt 126 (.lit (-1))])))))))
theorem qvp:ql Try.prog qgG [qgz] [qpX] qnL:=qe Try.func88 Try.call88 (by kernel_rfl)
@[simp] def qjC:T:=.dtake (tv 129) (.ife (.minus (tv 122) (tv 127)) (tl 0) (.dlen (tv 129)) (.ife (tv 123) (tv 127) (tl 0) (tv 127)))
@[simp] def qjc:Sg:=sg 0 [bv 125 125,bv 124 124,bv 120 120,bv 119 119,bv 118 118,bv 117 117,bv 116 116,bv 115 115,bv 114 114,bv 113 113,bv 112 112,bv 111 111,bv 110 110,bv 109 109,bv 108 108,bv 107 107,bv 106 106,bv 105 105,bv 104 104,bv 103 103,bv 102 102,bv 101 101,bv 100 100,bv 99 99,bv 98 98,bv 97 97,bv 96 96,bv 95 95,bv 94 94,bv 93 93,bv 92 92,bv 91 91,bv 90 90,bv 89 89,bv 88 88,bv 87 87,bv 86 86,bv 85 85,bv 84 84,bv 83 83,bv 82 82,bv 81 81,bv 80 80,bv 79 79,bv 78 78,bv 77 77,bv 76 76,bv 75 75,bv 74 74,bv 73 73,bv 72 72,bv 71 71,bv 70 70,bv 69 69,bv 68 68,bv 67 67,bv 66 66,bv 65 65,bv 64 64,bv 63 63,bv 62 62,bv 61 61,bv 60 60,bv 59 59,bv 58 58,bv 57 57,bv 56 56,bv 55 55,bv 54 54,bv 53 53,bv 52 52,bv 51 51,bv 50 50,bv 49 49,bv 48 48,bv 47 47,bv 46 46,bv 45 45,bv 44 44,bv 43 43,bv 42 42,bv 41 41,bv 40 40,bv 39 39,bv 38 38,bv 37 37,bv 36 36,bv 35 35,bv 34 34,bv 33 33,bv 32 32,bv 31 31,bv 30 30,bv 29 29,bv 28 28,bv 27 27,bv 26 26,bv 25 25,bv 24 24,bv 23 23,bv 22 22,bv 21 21,bv 20 20,bv 19 19,bv 18 18,bv 17 17,bv 16 16,bv 15 15,bv 14 14,bv 13 13,bv 12 12,bv 11 11,bv 10 10,bv 9 9,bv 8 8,bv 7 7,bv 6 6,bv 5 5,bg 4 4,bv 123 123,bv 122 122,bg 121 121]
@[simp] def qjE:Sg:=sg 0 [bv 120 120,bv 119 119,bv 118 118,bv 117 117,bv 116 116,bv 115 115,bv 114 114,bv 113 113,bv 112 112,bv 111 111,bv 110 110,bv 109 109,bv 108 108,bv 107 107,bv 106 106,bv 105 105,bv 104 104,bv 103 103,bv 102 102,bv 101 101,bv 100 100,bv 99 99,bv 98 98,bv 97 97,bv 96 96,bv 95 95,bv 94 94,bv 93 93,bv 92 92,bv 91 91,bv 90 90,bv 89 89,bv 88 88,bv 87 87,bv 86 86,bv 85 85,bv 84 84,bv 83 83,bv 82 82,bv 81 81,bv 80 80,bv 79 79,bv 78 78,bv 77 77,bv 76 76,bv 75 75,bv 74 74,bv 73 73,bv 72 72,bv 71 71,bv 70 70,bv 69 69,bv 68 68,bv 67 67,bv 66 66,bv 65 65,bv 64 64,bv 63 63,bv 62 62,bv 61 61,bv 60 60,bv 59 59,bv 58 58,bv 57 57,bv 56 56,bv 55 55,bv 54 54,bv 53 53,bv 52 52,bv 51 51,bv 50 50,bv 49 49,bv 48 48,bv 47 47,bv 46 46,bv 45 45,bv 44 44,bv 43 43,bv 42 42,bv 41 41,bv 40 40,bv 39 39,bv 38 38,bv 37 37,bv 36 36,bv 35 35,bv 34 34,bv 33 33,bv 32 32,bv 31 31,bv 30 30,bv 29 29,bv 28 28,bv 27 27,bv 26 26,bv 25 25,bv 24 24,bv 23 23,bv 22 22,bv 21 21,bv 20 20,bv 19 19,bv 18 18,bv 17 17,bv 16 16,bv 15 15,bv 14 14,bv 13 13,bv 12 12,bv 11 11,bv 10 10,bv 9 9,bv 8 8,bv 7 7,bv 6 6,bv 5 5,bg 4 4,bt 3 (.bcell (tv 129) (tv 128) 3),bt 2 (.icell (tv 129) (tv 128) 2),bt 1 (.icell (tv 129) (tv 128) 1),bt 0 (.icell (tv 129) (tv 128) 0)]
def ql1:Out:=(.pre 0 qjc (tb (.fresh 126 (.post 0 0 qjc 126 (.br (.cmp .eql (tv 126) (.lit (-1)))
 (.ret 0 (sg 126 [bv 127 124,bv 126 122]))
 (.inv 0 127 (sg 1000 [bv 1002 124,bt 1001 (.arith .add .i64 (tv 126) (tl 1)),bv 1000 126]) (fr 127 3 (.hyp 0 127 (tn (tl 0) (tv 122) (.br (.cmp .lss (tv 128) (tv 122))
 (tn (tl 0) (tv 128) (ts (tv 128) (.dlen (tv 129)) (.fresh 130 (.pre 1 qjE (tb (.fresh 131 (.post 1 0 qjE 131 (.br (.not (tv 131))
 (tn (tl 0) (tv 127) (ts (tv 127) (tv 122) (ts (tv 127) (.dlen (tv 129)) (.back 0 127 (sg 1000 [bt 1002 (.dput (tv 129) (tv 127) 0 (.rcons (.vint .u64 (.icell (tv 129) (tv 128) 0)) (.rcons (ti (.icell (tv 129) (tv 128) 1)) (.rcons (.vint .u64 (.icell (tv 129) (tv 128) 2)) (.rcons (.vbool (.bcell (tv 129) (tv 128) 3)) .rnil))))),bt 1001 (.arith .add .i64 (tv 128) (tl 1)),bt 1000 (.arith .add .i64 (tv 127) (tl 1))])))))
 (.back 0 127 (sg 1000 [bv 1002 129,bt 1001 (.arith .add .i64 (tv 128) (tl 1)),bv 1000 127]))))))))))
 (.know (.cmp .leq (.dlen (tv 129)) (tv 125)) (tn (tl 0) (tv 123) (tn (tl 0) (tv 127) (tn (tv 127) (tv 122) (tn (tv 122) (tv 123) (tn (tl 0) (.ife (tv 123) (tv 127) (tl 0) (tv 127)) (tn (tl 0) (.minus (tv 122) (tv 127)) (tn (.plus (.ife (tv 123) (tv 127) (tl 0) (tv 127)) (.minus (tv 122) (tv 127))) (.dlen (tv 129)) (.fresh 130 (.know (.cmp .leq (.dlen qjC) (tv 125)) (tn (tv 127) (tv 123) (.ret 0 (sg 126 [bt 127 qjC,bv 126 127])))))))))))))))))))))))
theorem qse:ql Try.prog qft [qgG,qgz] [qol] ql1:=qe Try.func82 Try.call82 (by kernel_rfl)
@[simp] def qkG:T:=.rcons (ti (tl 0)) (.rcons .vnils (.rcons .vnils (.rcons .vnils (.rcons (ti (tl 0)) (rr 32 (tu (tl 0)) (.rcons .vnils (.rcons (.vbool (.bl false)) (rr 32 (tu (tl 0)) (rr 4 (ti (tl 0)) (rr 32 (tu (tl 0)) (.rcons .vnils (.rcons (ti (tl 0)) (.rcons .vnils (.rcons (ti (tl 0)) .rnil))))))))))))))
@[simp] def qkA:T:=.rcons (.vint .u64 (tv 21)) (.rcons (ti (tv 19)) qkG)
@[simp] def qkC:T:=.rcons (.vint .u64 (tv 21)) (.rcons (ti (tv 22)) qkG)
@[simp] def qfd:Out:=.ret 1 (sg 138 [bg 141 150,bv 140 148,bv 143 144,bv 142 143,bv 144 145,bt 139 (tl 1),bg 138 147])
@[simp] def qkq:Out:=.back 0 140 (sg 1000 [bv 1004 148,bv 1003 147,bv 1005 145,bt 1001 (.arith .add .i64 (tv 141) (tl 1)),bg 1000 140])
@[simp] def qkz:Sg:=sg 0 [bt 3 (.icell (tv 143) (tv 141) 1),bt 2 (.icell (tv 143) (tv 141) 0),bt 1 (.icell (tv 27) (tv 141) 1),bt 0 (.icell (tv 27) (tv 141) 0)]
@[simp] def qhv:Sg:=sg 0 [bt 3 (.icell (tv 27) (tv 141) 1),bt 2 (.icell (tv 27) (tv 141) 0),bt 1 (.icell (tv 143) (tv 141) 1),bt 0 (.icell (tv 143) (tv 141) 0)]
@[simp] def qic:Sg:=sg 0 [bv 17 17,bv 16 16,bt 12 (.vslice 12 (tl 0) (tv 13) (tv 14) 4),bv 11 11,bv 10 10,bv 9 9,bv 7 7,bg 6 6,bv 4 4,bv 3 3,bg 2 2,bv 1 1,bg 0 0]
@[simp] def qmp:Sg:=sg 0 [bv 8 144,bv 5 143,bv 17 17,bv 16 145,bt 12 (.vslice 12 (tl 0) (tv 13) (tv 14) 4),bv 11 11,bv 10 10,bv 9 9,bv 7 7,bg 6 6,bv 4 4,bv 3 3,bg 2 2,bv 1 1,bt 20 (.icell (tv 27) (tv 141) 1),bt 19 (.icell (tv 27) (tv 141) 0),bv 18 141,bg 0 0]
@[simp] def qm2:Sg:=sg 0 [bv 8 144,bv 5 143,bv 17 17,bv 16 145,bt 12 (.vslice 12 (tl 0) (tv 13) (tv 14) 4),bv 11 11,bv 10 10,bv 9 9,bv 7 7,bg 6 6,bv 4 4,bv 3 3,bg 2 2,bv 1 1,bt 20 (.icell (tv 143) (tv 141) 1),bt 19 (.icell (tv 143) (tv 141) 0),bv 18 141,bg 0 0]
@[simp] def qna:Sg:=sg 0 [bv 120 137,bv 119 136,bv 118 135,bv 117 134,bv 116 133,bv 115 132,bv 114 131,bv 113 130,bv 112 129,bv 111 128,bv 110 127,bv 109 126,bv 108 125,bv 107 124,bv 106 123,bv 105 122,bv 104 121,bv 103 120,bv 102 119,bv 101 118,bv 100 117,bv 99 116,bv 98 115,bv 97 114,bv 96 113,bv 95 112,bv 94 111,bv 93 110,bv 92 109,bv 91 108,bv 90 107,bv 89 106,bv 88 105,bv 87 104,bv 86 103,bv 85 102,bv 84 101,bv 83 100,bv 82 99,bv 81 98,bv 80 97,bv 79 96,bv 78 95,bv 77 94,bv 76 93,bv 75 92,bv 74 91,bv 73 90,bv 72 89,bv 71 88,bv 70 87,bv 69 86,bv 68 85,bv 67 84,bv 66 83,bv 65 82,bv 64 81,bv 63 80,bv 62 79,bv 61 78,bv 60 77,bv 59 76,bv 58 75,bv 57 74,bv 56 73,bv 55 72,bv 54 71,bv 53 70,bv 52 69,bv 51 68,bv 50 67,bv 49 66,bv 48 65,bv 47 64,bv 46 63,bv 45 62,bv 44 61,bv 43 60,bv 42 59,bv 41 58,bv 40 57,bv 39 56,bv 38 55,bv 37 54,bv 36 53,bv 35 52,bv 34 51,bv 33 50,bv 32 49,bv 31 48,bv 30 47,bv 29 46,bv 28 45,bv 27 44,bv 26 43,bv 25 42,bv 24 41,bv 23 40,bv 22 39,bv 21 38,bv 20 37,bv 19 36,bv 18 35,bv 17 34,bv 16 33,bv 15 32,bv 14 31,bv 13 30,bv 12 29,bt 11 (.vslice 24 (tl 0) (tv 25) (tv 26) 2),bv 10 23,bv 9 22,bv 8 21,bv 7 20,bv 6 19,bv 5 18,bv 125 14,bv 124 15,bg 4 140,bv 123 14,bv 122 13,bg 121 12]
@[simp] def qmx:Sg:=sg 0 [bv 28 28,bv 27 27,bv 17 17,bv 16 16,bt 12 (.vslice 12 (tl 0) (tv 13) (tv 14) 4),bv 11 11,bv 10 10,bv 9 9,bv 7 7,bg 6 6,bv 4 4,bv 3 3,bg 2 2,bv 1 1,bv 137 137,bv 136 136,bv 135 135,bv 134 134,bv 133 133,bv 132 132,bv 131 131,bv 130 130,bv 129 129,bv 128 128,bv 127 127,bv 126 126,bv 125 125,bv 124 124,bv 123 123,bv 122 122,bv 121 121,bv 120 120,bv 119 119,bv 118 118,bv 117 117,bv 116 116,bv 115 115,bv 114 114,bv 113 113,bv 112 112,bv 111 111,bv 110 110,bv 109 109,bv 108 108,bv 107 107,bv 106 106,bv 105 105,bv 104 104,bv 103 103,bv 102 102,bv 101 101,bv 100 100,bv 99 99,bv 98 98,bv 97 97,bv 96 96,bv 95 95,bv 94 94,bv 93 93,bv 92 92,bv 91 91,bv 90 90,bv 89 89,bv 88 88,bv 87 87,bv 86 86,bv 85 85,bv 84 84,bv 83 83,bv 82 82,bv 81 81,bv 80 80,bv 79 79,bv 78 78,bv 77 77,bv 76 76,bv 75 75,bv 74 74,bv 73 73,bv 72 72,bv 71 71,bv 70 70,bv 69 69,bv 68 68,bv 67 67,bv 66 66,bv 65 65,bv 64 64,bv 63 63,bv 62 62,bv 61 61,bv 60 60,bv 59 59,bv 58 58,bv 57 57,bv 56 56,bv 55 55,bv 54 54,bv 53 53,bv 52 52,bv 51 51,bv 50 50,bv 49 49,bv 48 48,bv 47 47,bv 46 46,bv 45 45,bv 44 44,bv 43 43,bv 42 42,bv 41 41,bv 40 40,bv 39 39,bv 38 38,bv 37 37,bv 36 36,bv 35 35,bv 34 34,bv 33 33,bv 32 32,bv 31 31,bv 30 30,bv 29 29,bv 26 26,bv 25 25,bg 24 24,bv 23 23,bv 22 22,bv 21 21,bv 20 20,bv 19 19,bv 18 18,bg 0 0]
@[simp] def ql0:Sg:=sg 0 [bv 5 143,bv 17 17,bv 16 145,bt 12 (.vslice 12 (tl 0) (tv 13) (tv 14) 4),bv 11 11,bv 10 10,bv 9 9,bv 7 7,bg 6 6,bv 4 4,bv 3 3,bg 2 2,bv 1 1,bt 21 (.rcons (tu (tl 2)) (.rcons (ti (tl 0)) (.rcons (ti (tv 19)) qkC))),bt 20 (tl 1),bt 19 (tl 1),bg 18 147,bg 0 0]
@[simp] def qmr:Sg:=sg 0 [bv 5 143,bv 17 17,bv 16 145,bt 12 (.vslice 12 (tl 0) (tv 13) (tv 14) 4),bv 11 11,bv 10 10,bv 9 9,bv 7 7,bg 6 6,bv 4 4,bv 3 3,bg 2 2,bv 1 1,bt 21 (.rcons (tu (tl 2)) (.rcons (ti (tl 0)) (.rcons (ti (tv 22)) qkC))),bt 20 (tl 1),bt 19 (tl 1),bg 18 147,bg 0 0]
@[simp] def ql7:Sg:=sg 0 [bv 5 143,bv 17 17,bv 16 145,bt 12 (.vslice 12 (tl 0) (tv 13) (tv 14) 4),bv 11 11,bv 10 10,bv 9 9,bv 7 7,bg 6 6,bv 4 4,bv 3 3,bg 2 2,bv 1 1,bt 21 (.rcons (tu (tl 2)) (.rcons (ti (tl 0)) (.rcons (ti (tv 19)) qkA))),bt 20 (tl 1),bt 19 (tl 1),bg 18 147,bg 0 0]
@[simp] def qmK:Sg:=sg 0 [bv 5 143,bv 17 17,bv 16 145,bt 12 (.vslice 12 (tl 0) (tv 13) (tv 14) 4),bv 11 11,bv 10 10,bv 9 9,bv 7 7,bg 6 6,bv 4 4,bv 3 3,bg 2 2,bv 1 1,bt 21 (.rcons (tu (tl 1)) (.rcons (ti (tl 0)) (.rcons (ti (tv 23)) qkA))),bt 20 (tl 1),bt 19 (tl 1),bg 18 147,bg 0 0]
def qrn:Out:=(.fresh 138 (.pre 0 qic (.both (.post 0 0 qic 139 (.ret 0 (sg 138 [bv 143 15,bv 142 8,bv 141 5,bv 139 16,bv 140 13,bt 138 (tl 30)]))) (tb (.post 0 1 qic 139 (.pre 1 qmx (tb (.fresh 139 (.post 1 0 qmx 139 (.br (.not (tv 139))
 (.ret 0 (sg 138 [bv 143 15,bv 142 8,bv 141 5,bv 139 16,bv 140 13,bt 138 (tl 2)]))
 (tn (tl 0) (tv 25) (.inv 0 140 (sg 1000 [bv 1004 8,bv 1003 5,bv 1005 16,bt 1001 (tl 0),bg 1000 138]) (fr 140 6 (.hyp 0 140 (.br (.cmp .lss (tv 141) (tv 25))
 (tn (tl 0) (tv 141) (ts (tv 141) (.dlen (tv 27)) (.fresh 146 (.br (.cmp .neq (tv 141) (tv 1))
 (ts (tv 141) (tv 3) (ts (tv 141) (.dlen (tv 143)) (tb (.pre 2 qhv (.both (.post 2 0 qhv 147 (tb (.pre 4 qmp (tb (fr 147 2 (.post 4 0 qmp 147 qkq)))))) (tb (.post 2 1 qhv 147 (tb (.pre 4 qm2 (tb (fr 147 2 (.post 4 0 qm2 147 qkq))))))))))))
 (ts (tv 141) (tv 3) (ts (tv 141) (.dlen (tv 143)) (tb (.pre 3 qkz (tb (.post 3 0 qkz 147 (.br (.or (.cmp .gtr (.icell (tv 27) (tv 141) 0) (.icell (tv 143) (tv 141) 0)) (.and (.cmp .eql (.icell (tv 27) (tv 141) 0) (.icell (tv 143) (tv 141) 0)) (.cmp .gtr (.icell (tv 27) (tv 141) 1) (.icell (tv 143) (tv 141) 1))))
 (tb (.back 0 140 (sg 1000 [bv 1004 144,bv 1003 143,bt 1005 (.imax (tv 145) (.icell (tv 27) (tv 141) 0)),bt 1001 (.arith .add .i64 (tv 141) (tl 1)),bg 1000 140])))
 (.back 0 140 (sg 1000 [bv 1004 144,bv 1003 143,bv 1005 145,bt 1001 (.arith .add .i64 (tv 141) (tl 1)),bg 1000 140])))))))))))))
 (.fresh 146 (.br (.cmp .eql (tv 18) (tl 3))
 (.br (.cmp .neq (tv 23) (tv 1))
 (tb (tb (tb (.fresh 147 (.pre 6 qmK (tb (fr 148 2 (.post 6 0 qmK 148 (.pack [.abs 149 2,.cells 146 43 [(tu (tl 1)),(ti (tl 0)),(ti (tv 23)),(.vint .u64 (tv 21)),(ti (tv 19)),(ti (tl 0)),.vnils,.vnils,.vnils,(ti (tl 0)),(tu (tl 0)),(tu (tl 0)),(tu (tl 0)),(tu (tl 0)),(tu (tl 0)),(tu (tl 0)),(tu (tl 0)),(tu (tl 0)),(tu (tl 0)),(tu (tl 0)),(tu (tl 0)),(tu (tl 0)),(tu (tl 0)),(tu (tl 0)),(tu (tl 0)),(tu (tl 0)),(tu (tl 0)),(tu (tl 0)),(tu (tl 0)),(tu (tl 0)),(tu (tl 0)),(tu (tl 0)),(tu (tl 0)),(tu (tl 0)),(tu (tl 0)),(tu (tl 0)),(tu (tl 0)),(tu (tl 0)),(tu (tl 0)),(tu (tl 0)),(tu (tl 0)),(tu (tl 0)),.vnils,(.vbool (.bl false)),(tu (tl 0)),(tu (tl 0)),(tu (tl 0)),(tu (tl 0)),(tu (tl 0)),(tu (tl 0)),(tu (tl 0)),(tu (tl 0)),(tu (tl 0)),(tu (tl 0)),(tu (tl 0)),(tu (tl 0)),(tu (tl 0)),(tu (tl 0)),(tu (tl 0)),(tu (tl 0)),(tu (tl 0)),(tu (tl 0)),(tu (tl 0)),(tu (tl 0)),(tu (tl 0)),(tu (tl 0)),(tu (tl 0)),(tu (tl 0)),(tu (tl 0)),(tu (tl 0)),(tu (tl 0)),(tu (tl 0)),(tu (tl 0)),(tu (tl 0)),(tu (tl 0)),(tu (tl 0)),(ti (tl 0)),(ti (tl 0)),(ti (tl 0)),(ti (tl 0)),(tu (tl 0)),(tu (tl 0)),(tu (tl 0)),(tu (tl 0)),(tu (tl 0)),(tu (tl 0)),(tu (tl 0)),(tu (tl 0)),(tu (tl 0)),(tu (tl 0)),(tu (tl 0)),(tu (tl 0)),(tu (tl 0)),(tu (tl 0)),(tu (tl 0)),(tu (tl 0)),(tu (tl 0)),(tu (tl 0)),(tu (tl 0)),(tu (tl 0)),(tu (tl 0)),(tu (tl 0)),(tu (tl 0)),(tu (tl 0)),(tu (tl 0)),(tu (tl 0)),(tu (tl 0)),(tu (tl 0)),(tu (tl 0)),(tu (tl 0)),(tu (tl 0)),(tu (tl 0)),.vnils,(ti (tl 0)),.vnils,(ti (tl 0))],.cells 140 43 [(tu (tv 18)),(ti (tv 19)),(ti (tv 20)),(.vint .u64 (tv 21)),(ti (tv 22)),(ti (tv 23)),(.vslice 24 (tl 0) (tv 25) (tv 26) 2),(tv 29),(tv 30),(tv 31),(tv 32),(tv 33),(tv 34),(tv 35),(tv 36),(tv 37),(tv 38),(tv 39),(tv 40),(tv 41),(tv 42),(tv 43),(tv 44),(tv 45),(tv 46),(tv 47),(tv 48),(tv 49),(tv 50),(tv 51),(tv 52),(tv 53),(tv 54),(tv 55),(tv 56),(tv 57),(tv 58),(tv 59),(tv 60),(tv 61),(tv 62),(tv 63),(tv 64),(tv 65),(tv 66),(tv 67),(tv 68),(tv 69),(tv 70),(tv 71),(tv 72),(tv 73),(tv 74),(tv 75),(tv 76),(tv 77),(tv 78),(tv 79),(tv 80),(tv 81),(tv 82),(tv 83),(tv 84),(tv 85),(tv 86),(tv 87),(tv 88),(tv 89),(tv 90),(tv 91),(tv 92),(tv 93),(tv 94),(tv 95),(tv 96),(tv 97),(tv 98),(tv 99),(tv 100),(tv 101),(tv 102),(tv 103),(tv 104),(tv 105),(tv 106),(tv 107),(tv 108),(tv 109),(tv 110),(tv 111),(tv 112),(tv 113),(tv 114),(tv 115),(tv 116),(tv 117),(tv 118),(tv 119),(tv 120),(tv 121),(tv 122),(tv 123),(tv 124),(tv 125),(tv 126),(tv 127),(tv 128),(tv 129),(tv 130),(tv 131),(tv 132),(tv 133),(tv 134),(tv 135),(tv 136),(tv 137)]] 150 qfd)))))))))
 (.fresh 147 (.pre 6 ql7 (tb (fr 148 2 (.post 6 0 ql7 148 (.pack [.abs 149 2,.cells 146 43 [(tu (tl 2)),(ti (tl 0)),(ti (tv 19)),(.vint .u64 (tv 21)),(ti (tv 19)),(ti (tl 0)),.vnils,.vnils,.vnils,(ti (tl 0)),(tu (tl 0)),(tu (tl 0)),(tu (tl 0)),(tu (tl 0)),(tu (tl 0)),(tu (tl 0)),(tu (tl 0)),(tu (tl 0)),(tu (tl 0)),(tu (tl 0)),(tu (tl 0)),(tu (tl 0)),(tu (tl 0)),(tu (tl 0)),(tu (tl 0)),(tu (tl 0)),(tu (tl 0)),(tu (tl 0)),(tu (tl 0)),(tu (tl 0)),(tu (tl 0)),(tu (tl 0)),(tu (tl 0)),(tu (tl 0)),(tu (tl 0)),(tu (tl 0)),(tu (tl 0)),(tu (tl 0)),(tu (tl 0)),(tu (tl 0)),(tu (tl 0)),(tu (tl 0)),.vnils,(.vbool (.bl false)),(tu (tl 0)),(tu (tl 0)),(tu (tl 0)),(tu (tl 0)),(tu (tl 0)),(tu (tl 0)),(tu (tl 0)),(tu (tl 0)),(tu (tl 0)),(tu (tl 0)),(tu (tl 0)),(tu (tl 0)),(tu (tl 0)),(tu (tl 0)),(tu (tl 0)),(tu (tl 0)),(tu (tl 0)),(tu (tl 0)),(tu (tl 0)),(tu (tl 0)),(tu (tl 0)),(tu (tl 0)),(tu (tl 0)),(tu (tl 0)),(tu (tl 0)),(tu (tl 0)),(tu (tl 0)),(tu (tl 0)),(tu (tl 0)),(tu (tl 0)),(tu (tl 0)),(tu (tl 0)),(ti (tl 0)),(ti (tl 0)),(ti (tl 0)),(ti (tl 0)),(tu (tl 0)),(tu (tl 0)),(tu (tl 0)),(tu (tl 0)),(tu (tl 0)),(tu (tl 0)),(tu (tl 0)),(tu (tl 0)),(tu (tl 0)),(tu (tl 0)),(tu (tl 0)),(tu (tl 0)),(tu (tl 0)),(tu (tl 0)),(tu (tl 0)),(tu (tl 0)),(tu (tl 0)),(tu (tl 0)),(tu (tl 0)),(tu (tl 0)),(tu (tl 0)),(tu (tl 0)),(tu (tl 0)),(tu (tl 0)),(tu (tl 0)),(tu (tl 0)),(tu (tl 0)),(tu (tl 0)),(tu (tl 0)),(tu (tl 0)),(tu (tl 0)),(tu (tl 0)),.vnils,(ti (tl 0)),.vnils,(ti (tl 0))],.cells 140 43 [(tu (tv 18)),(ti (tv 19)),(ti (tv 20)),(.vint .u64 (tv 21)),(ti (tv 22)),(ti (tv 23)),(.vslice 24 (tl 0) (tv 25) (tv 26) 2),(tv 29),(tv 30),(tv 31),(tv 32),(tv 33),(tv 34),(tv 35),(tv 36),(tv 37),(tv 38),(tv 39),(tv 40),(tv 41),(tv 42),(tv 43),(tv 44),(tv 45),(tv 46),(tv 47),(tv 48),(tv 49),(tv 50),(tv 51),(tv 52),(tv 53),(tv 54),(tv 55),(tv 56),(tv 57),(tv 58),(tv 59),(tv 60),(tv 61),(tv 62),(tv 63),(tv 64),(tv 65),(tv 66),(tv 67),(tv 68),(tv 69),(tv 70),(tv 71),(tv 72),(tv 73),(tv 74),(tv 75),(tv 76),(tv 77),(tv 78),(tv 79),(tv 80),(tv 81),(tv 82),(tv 83),(tv 84),(tv 85),(tv 86),(tv 87),(tv 88),(tv 89),(tv 90),(tv 91),(tv 92),(tv 93),(tv 94),(tv 95),(tv 96),(tv 97),(tv 98),(tv 99),(tv 100),(tv 101),(tv 102),(tv 103),(tv 104),(tv 105),(tv 106),(tv 107),(tv 108),(tv 109),(tv 110),(tv 111),(tv 112),(tv 113),(tv 114),(tv 115),(tv 116),(tv 117),(tv 118),(tv 119),(tv 120),(tv 121),(tv 122),(tv 123),(tv 124),(tv 125),(tv 126),(tv 127),(tv 128),(tv 129),(tv 130),(tv 131),(tv 132),(tv 133),(tv 134),(tv 135),(tv 136),(tv 137)]] 150 qfd)))))))
 (.br (.cmp .eql (tv 18) (tl 2))
 (.br (.cmp .eql (tv 22) (tv 1))
 (.pre 5 qna (tb (fr 147 2 (.post 5 0 qna 147 (.ret 0 (sg 138 [bv 143 148,bv 142 144,bv 141 143,bv 139 145,bv 140 147,bt 138 (tl 0)]))))))
 (.fresh 147 (.pre 6 qmr (tb (fr 148 2 (.post 6 0 qmr 148 (.pack [.abs 149 2,.cells 146 43 [(tu (tl 2)),(ti (tl 0)),(ti (tv 22)),(.vint .u64 (tv 21)),(ti (tv 22)),(ti (tl 0)),.vnils,.vnils,.vnils,(ti (tl 0)),(tu (tl 0)),(tu (tl 0)),(tu (tl 0)),(tu (tl 0)),(tu (tl 0)),(tu (tl 0)),(tu (tl 0)),(tu (tl 0)),(tu (tl 0)),(tu (tl 0)),(tu (tl 0)),(tu (tl 0)),(tu (tl 0)),(tu (tl 0)),(tu (tl 0)),(tu (tl 0)),(tu (tl 0)),(tu (tl 0)),(tu (tl 0)),(tu (tl 0)),(tu (tl 0)),(tu (tl 0)),(tu (tl 0)),(tu (tl 0)),(tu (tl 0)),(tu (tl 0)),(tu (tl 0)),(tu (tl 0)),(tu (tl 0)),(tu (tl 0)),(tu (tl 0)),(tu (tl 0)),.vnils,(.vbool (.bl false)),(tu (tl 0)),(tu (tl 0)),(tu (tl 0)),(tu (tl 0)),(tu (tl 0)),(tu (tl 0)),(tu (tl 0)),(tu (tl 0)),(tu (tl 0)),(tu (tl 0)),(tu (tl 0)),(tu (tl 0)),(tu (tl 0)),(tu (tl 0)),(tu (tl 0)),(tu (tl 0)),(tu (tl 0)),(tu (tl 0)),(tu (tl 0)),(tu (tl 0)),(tu (tl 0)),(tu (tl 0)),(tu (tl 0)),(tu (tl 0)),(tu (tl 0)),(tu (tl 0)),(tu (tl 0)),(tu (tl 0)),(tu (tl 0)),(tu (tl 0)),(tu (tl 0)),(tu (tl 0)),(ti (tl 0)),(ti (tl 0)),(ti (tl 0)),(ti (tl 0)),(tu (tl 0)),(tu (tl 0)),(tu (tl 0)),(tu (tl 0)),(tu (tl 0)),(tu (tl 0)),(tu (tl 0)),(tu (tl 0)),(tu (tl 0)),(tu (tl 0)),(tu (tl 0)),(tu (tl 0)),(tu (tl 0)),(tu (tl 0)),(tu (tl 0)),(tu (tl 0)),(tu (tl 0)),(tu (tl 0)),(tu (tl 0)),(tu (tl 0)),(tu (tl 0)),(tu (tl 0)),(tu (tl 0)),(tu (tl 0)),(tu (tl 0)),(tu (tl 0)),(tu (tl 0)),(tu (tl 0)),(tu (tl 0)),(tu (tl 0)),(tu (tl 0)),(tu (tl 0)),.vnils,(ti (tl 0)),.vnils,(ti (tl 0))],.cells 140 43 [(tu (tv 18)),(ti (tv 19)),(ti (tv 20)),(.vint .u64 (tv 21)),(ti (tv 22)),(ti (tv 23)),(.vslice 24 (tl 0) (tv 25) (tv 26) 2),(tv 29),(tv 30),(tv 31),(tv 32),(tv 33),(tv 34),(tv 35),(tv 36),(tv 37),(tv 38),(tv 39),(tv 40),(tv 41),(tv 42),(tv 43),(tv 44),(tv 45),(tv 46),(tv 47),(tv 48),(tv 49),(tv 50),(tv 51),(tv 52),(tv 53),(tv 54),(tv 55),(tv 56),(tv 57),(tv 58),(tv 59),(tv 60),(tv 61),(tv 62),(tv 63),(tv 64),(tv 65),(tv 66),(tv 67),(tv 68),(tv 69),(tv 70),(tv 71),(tv 72),(tv 73),(tv 74),(tv 75),(tv 76),(tv 77),(tv 78),(tv 79),(tv 80),(tv 81),(tv 82),(tv 83),(tv 84),(tv 85),(tv 86),(tv 87),(tv 88),(tv 89),(tv 90),(tv 91),(tv 92),(tv 93),(tv 94),(tv 95),(tv 96),(tv 97),(tv 98),(tv 99),(tv 100),(tv 101),(tv 102),(tv 103),(tv 104),(tv 105),(tv 106),(tv 107),(tv 108),(tv 109),(tv 110),(tv 111),(tv 112),(tv 113),(tv 114),(tv 115),(tv 116),(tv 117),(tv 118),(tv 119),(tv 120),(tv 121),(tv 122),(tv 123),(tv 124),(tv 125),(tv 126),(tv 127),(tv 128),(tv 129),(tv 130),(tv 131),(tv 132),(tv 133),(tv 134),(tv 135),(tv 136),(tv 137)]] 150 qfd)))))))
 (.fresh 147 (.pre 6 ql0 (tb (fr 148 2 (.post 6 0 ql0 148 (.pack [.abs 149 2,.cells 146 43 [(tu (tl 2)),(ti (tl 0)),(ti (tv 19)),(.vint .u64 (tv 21)),(ti (tv 22)),(ti (tl 0)),.vnils,.vnils,.vnils,(ti (tl 0)),(tu (tl 0)),(tu (tl 0)),(tu (tl 0)),(tu (tl 0)),(tu (tl 0)),(tu (tl 0)),(tu (tl 0)),(tu (tl 0)),(tu (tl 0)),(tu (tl 0)),(tu (tl 0)),(tu (tl 0)),(tu (tl 0)),(tu (tl 0)),(tu (tl 0)),(tu (tl 0)),(tu (tl 0)),(tu (tl 0)),(tu (tl 0)),(tu (tl 0)),(tu (tl 0)),(tu (tl 0)),(tu (tl 0)),(tu (tl 0)),(tu (tl 0)),(tu (tl 0)),(tu (tl 0)),(tu (tl 0)),(tu (tl 0)),(tu (tl 0)),(tu (tl 0)),(tu (tl 0)),.vnils,(.vbool (.bl false)),(tu (tl 0)),(tu (tl 0)),(tu (tl 0)),(tu (tl 0)),(tu (tl 0)),(tu (tl 0)),(tu (tl 0)),(tu (tl 0)),(tu (tl 0)),(tu (tl 0)),(tu (tl 0)),(tu (tl 0)),(tu (tl 0)),(tu (tl 0)),(tu (tl 0)),(tu (tl 0)),(tu (tl 0)),(tu (tl 0)),(tu (tl 0)),(tu (tl 0)),(tu (tl 0)),(tu (tl 0)),(tu (tl 0)),(tu (tl 0)),(tu (tl 0)),(tu (tl 0)),(tu (tl 0)),(tu (tl 0)),(tu (tl 0)),(tu (tl 0)),(tu (tl 0)),(tu (tl 0)),(ti (tl 0)),(ti (tl 0)),(ti (tl 0)),(ti (tl 0)),(tu (tl 0)),(tu (tl 0)),(tu (tl 0)),(tu (tl 0)),(tu (tl 0)),(tu (tl 0)),(tu (tl 0)),(tu (tl 0)),(tu (tl 0)),(tu (tl 0)),(tu (tl 0)),(tu (tl 0)),(tu (tl 0)),(tu (tl 0)),(tu (tl 0)),(tu (tl 0)),(tu (tl 0)),(tu (tl 0)),(tu (tl 0)),(tu (tl 0)),(tu (tl 0)),(tu (tl 0)),(tu (tl 0)),(tu (tl 0)),(tu (tl 0)),(tu (tl 0)),(tu (tl 0)),(tu (tl 0)),(tu (tl 0)),(tu (tl 0)),(tu (tl 0)),(tu (tl 0)),.vnils,(ti (tl 0)),.vnils,(ti (tl 0))],.cells 140 43 [(tu (tv 18)),(ti (tv 19)),(ti (tv 20)),(.vint .u64 (tv 21)),(ti (tv 22)),(ti (tv 23)),(.vslice 24 (tl 0) (tv 25) (tv 26) 2),(tv 29),(tv 30),(tv 31),(tv 32),(tv 33),(tv 34),(tv 35),(tv 36),(tv 37),(tv 38),(tv 39),(tv 40),(tv 41),(tv 42),(tv 43),(tv 44),(tv 45),(tv 46),(tv 47),(tv 48),(tv 49),(tv 50),(tv 51),(tv 52),(tv 53),(tv 54),(tv 55),(tv 56),(tv 57),(tv 58),(tv 59),(tv 60),(tv 61),(tv 62),(tv 63),(tv 64),(tv 65),(tv 66),(tv 67),(tv 68),(tv 69),(tv 70),(tv 71),(tv 72),(tv 73),(tv 74),(tv 75),(tv 76),(tv 77),(tv 78),(tv 79),(tv 80),(tv 81),(tv 82),(tv 83),(tv 84),(tv 85),(tv 86),(tv 87),(tv 88),(tv 89),(tv 90),(tv 91),(tv 92),(tv 93),(tv 94),(tv 95),(tv 96),(tv 97),(tv 98),(tv 99),(tv 100),(tv 101),(tv 102),(tv 103),(tv 104),(tv 105),(tv 106),(tv 107),(tv 108),(tv 109),(tv 110),(tv 111),(tv 112),(tv 113),(tv 114),(tv 115),(tv 116),(tv 117),(tv 118),(tv 119),(tv 120),(tv 121),(tv 122),(tv 123),(tv 124),(tv 125),(tv 126),(tv 127),(tv 128),(tv 129),(tv 130),(tv 131),(tv 132),(tv 133),(tv 134),(tv 135),(tv 136),(tv 137)]] 150 qfd))))))))))))))))))))))))
theorem qvM:ql Try.prog qeQ [qbV,qeq,qgV,qdk,qgt,qft,qcE] [qsN] qrn:=qe Try.func58 Try.call58 (by kernel_rfl)
@[simp] def qfJ:Sg:=sg 0 [bv 28 140,bv 27 141,bv 15 15,bv 8 8,bv 5 5,bv 17 17,bv 16 16,bv 14 14,bv 13 13,bg 12 12,bv 11 11,bv 10 10,bv 9 9,bv 7 7,bg 6 6,bv 4 4,bv 3 3,bg 2 2,bv 1 1,bv 137 137,bv 136 136,bv 135 135,bv 134 134,bv 133 133,bv 132 132,bv 131 131,bv 130 130,bv 129 129,bv 128 128,bv 127 127,bv 126 126,bv 125 125,bv 124 124,bv 123 123,bv 122 122,bv 121 121,bv 120 120,bv 119 119,bv 118 118,bv 117 117,bv 116 116,bv 115 115,bv 114 114,bv 113 113,bv 112 112,bv 111 111,bv 110 110,bv 109 109,bv 108 108,bv 107 107,bv 106 106,bv 105 105,bv 104 104,bv 103 103,bv 102 102,bv 101 101,bv 100 100,bv 99 99,bv 98 98,bv 97 97,bv 96 96,bv 95 95,bv 94 94,bv 93 93,bv 92 92,bv 91 91,bv 90 90,bv 89 89,bv 88 88,bv 87 87,bv 86 86,bv 85 85,bv 84 84,bv 83 83,bv 82 82,bv 81 81,bv 80 80,bv 79 79,bv 78 78,bv 77 77,bv 76 76,bv 75 75,bv 74 74,bv 73 73,bv 72 72,bv 71 71,bv 70 70,bv 69 69,bv 68 68,bv 67 67,bv 66 66,bv 65 65,bv 64 64,bv 63 63,bv 62 62,bv 61 61,bv 60 60,bv 59 59,bv 58 58,bv 57 57,bv 56 56,bv 55 55,bv 54 54,bv 53 53,bv 52 52,bv 51 51,bv 50 50,bv 49 49,bv 48 48,bv 47 47,bv 46 46,bv 45 45,bv 44 44,bv 43 43,bv 42 42,bv 41 41,bv 40 40,bv 39 39,bv 38 38,bv 37 37,bv 36 36,bv 35 35,bv 34 34,bv 33 33,bv 32 32,bv 31 31,bv 30 30,bv 29 29,bv 26 140,bv 25 25,bg 24 139,bv 23 23,bv 22 22,bv 21 21,bv 20 20,bv 19 19,bv 18 18,bg 0 0]
def qkp:Out:=(.fresh 138 (.pre 0 (sg 0 [bv 4 28,bv 3 27,bv 2 26,bv 1 25,bg 0 24]) (tb (fr 139 3 (.post 0 0 (sg 0 [bv 4 28,bv 3 27,bv 2 26,bv 1 25,bg 0 24]) 139 (.pre 1 qfJ (.both (fr 142 6 (.post 1 0 qfJ 142 (.inv 0 148 (sg 1000 [bv 1010 147,bv 1009 146,bv 1008 145,bv 1006 143,bv 1007 144,bv 1003 141,bv 1004 140,bg 1000 139,bt 1001 (tl 0),bv 1005 142,bg 1002 138]) (fr 148 11 (.hyp 0 148 (tn (tl 0) (tv 25) (.br (.cmp .lss (tv 149) (tv 25))
 (tn (tl 0) (tv 149) (ts (tv 149) (.dlen (tv 151)) (.back 0 148 (sg 1000 [bv 1010 158,bv 1009 157,bv 1008 156,bv 1006 154,bv 1007 155,bt 1003 (.dput (tv 151) (tv 149) 0 (.rcons (.vint .u64 (tl 0)) (.rcons (tu (tl 0)) .rnil))),bv 1004 152,bg 1000 148,bt 1001 (.arith .add .i64 (tv 149) (tl 1)),bv 1005 153,bg 1002 150]))))
 (.ret 0 (sg 138 [bv 143 158,bv 142 157,bv 141 156,bv 139 154,bv 140 155,bv 138 153]))))))))) (tb (fr 142 7 (.post 1 1 qfJ 142 (.inv 1 149 (sg 1000 [bg 1011 145,bv 1010 144,bv 1009 147,bv 1008 146,bv 1007 148,bv 1003 141,bv 1004 140,bg 1000 139,bt 1001 (tl 0),bv 1006 143,bg 1005 142,bg 1002 138]) (fr 149 12 (.hyp 1 149 (tn (tl 0) (tv 25) (.br (.cmp .lss (tv 150) (tv 25))
 (tn (tl 0) (tv 150) (ts (tv 150) (.dlen (tv 152)) (.back 1 149 (sg 1000 [bg 1011 160,bv 1010 159,bv 1009 158,bv 1008 157,bv 1007 156,bt 1003 (.dput (tv 152) (tv 150) 0 (.rcons (.vint .u64 (tl 0)) (.rcons (tu (tl 0)) .rnil))),bv 1004 153,bg 1000 149,bt 1001 (.arith .add .i64 (tv 150) (tl 1)),bv 1006 155,bg 1005 154,bg 1002 151]))))
 (.pack [.cells 151 43 [(tu (tv 18)),(ti (tv 19)),(ti (tv 20)),(.vint .u64 (tv 21)),(ti (tv 22)),(ti (tv 23)),(.vslice 149 (tl 0) (tv 25) (tv 153) 2),(tv 29),(tv 30),(tv 31),(tv 32),(tv 33),(tv 34),(tv 35),(tv 36),(tv 37),(tv 38),(tv 39),(tv 40),(tv 41),(tv 42),(tv 43),(tv 44),(tv 45),(tv 46),(tv 47),(tv 48),(tv 49),(tv 50),(tv 51),(tv 52),(tv 53),(tv 54),(tv 55),(tv 56),(tv 57),(tv 58),(tv 59),(tv 60),(tv 61),(tv 62),(tv 63),(tv 64),(tv 65),(tv 66),(tv 67),(tv 68),(tv 69),(tv 70),(tv 71),(tv 72),(tv 73),(tv 74),(tv 75),(tv 76),(tv 77),(tv 78),(tv 79),(tv 80),(tv 81),(tv 82),(tv 83),(tv 84),(tv 85),(tv 86),(tv 87),(tv 88),(tv 89),(tv 90),(tv 91),(tv 92),(tv 93),(tv 94),(tv 95),(tv 96),(tv 97),(tv 98),(tv 99),(tv 100),(tv 101),(tv 102),(tv 103),(tv 104),(tv 105),(tv 106),(tv 107),(tv 108),(tv 109),(tv 110),(tv 111),(tv 112),(tv 113),(tv 114),(tv 115),(tv 116),(tv 117),(tv 118),(tv 119),(tv 120),(tv 121),(tv 122),(tv 123),(tv 124),(tv 125),(tv 126),(tv 127),(tv 128),(tv 129),(tv 130),(tv 131),(tv 132),(tv 133),(tv 134),(tv 135),(tv 136),(tv 137)],.arr 149 25 [CK.int .u64,CK.int .u8] (tv 152) (tv 153),.abs 160 2] 161 (.ret 1 (sg 138 [bg 141 161,bv 140 159,bv 143 158,bv 142 157,bv 144 156,bv 139 155,bg 138 154]))))))))))))))))))
theorem qqG:ql Try.prog qd3 [qgL,qeQ] [qlD,qlw] qkp:=qe Try.func23 Try.call23 (by kernel_rfl)
theorem qwu:qhG.ok Try.prog:=qwh (by simp) fun Z hg hp=>by
 have hp:0 <= (Z 3).i:=hp;simp [qrk,qhG,qer,hp];exact ⟨fun h=>by simp [h,qO],fun h=>by omega⟩
theorem qqI:qeq.ok Try.prog:=qqd (by simp [qwu,qvl]) fun Z hg hp=>by
 obtain ⟨h0,h1,h2⟩:=hp;simp [qk0,qeq,qhG,qdo,qbT,qbN,qaP,qk];refine ⟨h0,fun u _ hu=>⟨fun h3=>?_,fun h3=>⟨fun h4=>?_,fun h4=>⟨fun h5=>?_,fun h5=>⟨⟨h1,h2⟩,fun v _ hv=>⟨fun h6=>?_,fun h6=>⟨by omega,h0,fun h7=>?_,fun h7=>⟨fun h8=>⟨h0,fun x _ hx=>?_⟩,fun h8=>⟨fun h9=>⟨h0,fun x _ hx=>?_⟩,fun h9=>⟨fun h10=>⟨h0,fun x _ hx=>?_⟩,fun h10=>?_⟩⟩⟩⟩⟩⟩⟩⟩⟩⟩
 all_goals simp only [qec,qu]
 all_goals (try rw [<- hu])
 all_goals (try rw [<- hv])
 all_goals (try simp only [<- h1])
 all_goals simp_all
theorem qrp:qgz.ok Try.prog:=qxO (by simp) fun Z hg hp=>by
 simp [qsK,qgz,qi5,qO]
theorem qoX (d:List (List Value)) (n:Nat):qt (d.take n) = (qt d).take n:=by simp [qt,jcu]
theorem qgI {d:List (List Value)} {i n:Int} (h0:0 <= i) (hn:i < n) (h:n <= (d.length:Int)):((qt d).take n.toNat)[i.toNat]? = some ⟨qc d i 0,qc d i 1,qc d i 2,qcw d i 3⟩:=by
 rw [ja8,jah (by omega)]; exact qbQ h0 (by omega)
theorem qj9 {d:List (List Value)} {n:Int} (h0:0 <= n) (h:n <= (d.length:Int)):((qt d).take n.toNat).length = n.toNat:=by rw [jbe,qcs]; omega
theorem qtR:qgG.ok Try.prog:=qvp (by simp [qrp]) fun Z hg hp=>by
 obtain ⟨hl,h0,hb⟩:=hp;have hlen:=qj9 h0 hl;simp [qnL,qgG,qpX,qgz,qk,ql6];refine ⟨h0,fun u _ q0 q1 q2=>⟨fun h3=>⟨q0,by omega,fun u1 _ h4=>⟨fun h5=>?_,fun h5=>⟨?_,?_⟩⟩⟩,fun h3=>.inl ⟨rfl,qoR (by omega) q2⟩⟩⟩
 ·exact .inr ⟨q0,by omega,q2,by rw [qgI q0 h3 hl]; simp [<- h4,h5]⟩
 ·rw [qJ q0 h3 hb,qA q0]
  exact ⟨by omega,by omega,qlt (qgI q0 h3 hl) q2 (by rw [<- h4,h5])⟩
 ·rw [qJ q0 h3 hb]; omega
theorem qrY:qft.ok Try.prog:=qse (by simp [qtR,qrp]) fun Z hg hp=>by
 obtain ⟨hl,hn0,hb,hcap⟩:=hp;have hlen:=qj9 hn0 hl;simp [ql1,qft,qol,qgG,qgz,qk];refine ⟨⟨hl,hn0,hb⟩,fun u _ hu=>⟨fun h1=>?_,fun h1=>?_⟩⟩
 ·refine ⟨hn0,by omega,?_⟩
  rcases hu with ⟨_,h2⟩ | ⟨h2,_⟩
  ·have:=qgK h2
   rw [jap (jb0 _)] at this;exact this.symm
  ·omega
 ·have h0:0 <= u.i/\u.i < (Z 122).i:=by
   rcases hu with ⟨h2,_⟩ | ⟨h2,h3,_⟩
   ·exact absurd h2 h1
   ·rw [hlen] at h3; omega
  refine ⟨by rw [qJ h0.1 h0.2 hb]; exact qlR hu h1,fun ui _ uj _ ud _ g gl=>⟨hn0,fun g1=>?_,fun g1=>?_⟩⟩
  ·have hg':=g
   obtain ⟨k0,k1,k2,k3,k4,k5⟩:=g;rw [hlen] at k2;have hc:=qgI (d:=ud.d) (i:=uj.i) (n:=(Z 122).i) (by omega) g1 (by omega);rw [qJ (n:=(Z 122).i) (show 0 <= uj.i by omega) g1 hb];refine ⟨by omega,by omega,fun u3 _ h3=>⟨fun h4=>⟨by omega,by omega,by omega,⟨?_,by rw [qaC]; exact gl⟩,by omega⟩,fun h4=>⟨?_,by omega⟩⟩⟩
   ·rw [qJ (n:=(Z 122).i) (show 0 <= ui.i by omega) (by omega) hb,qpV (by omega) (by omega),List.take_set]
    exact qmv hg' (by rw [hlen]; omega) hc (by rw [<- h3,h4])
   ·exact ⟨qlv hg' (by rw [hlen]; omega) hc (by rw [<- h3,h4]),gl⟩
  ·have hg':=g
   obtain ⟨k0,k1,k2,k3,k4,k5⟩:=g;rw [hlen] at k2;intro hkn;have hd:=qmj hg' (by rw [hlen]; omega);rw [jdy,show min ui.i.toNat (Z 122).i.toNat = ui.i.toNat by omega] at hd;have hmin:(if (Z 122).i - ui.i = 0 then (ud.d.length:Int) else if (Z 123).i = ui.i then 0 else ui.i).toNat = if (Z 122).i - ui.i = 0 then ud.d.length else ui.i.toNat:=by
    split
    ·simp
    ·rw [jaf (by omega)]
   simp only [hmin];refine ⟨by omega,by omega,by omega,by omega,?_,by omega,?_,fun hk2=>⟨by omega,by omega,?_,by omega,?_⟩⟩
   ·split <;> omega
   ·split <;> omega
   ·split <;> omega
   ·rw [qoX,jdy,<- hd]
    congr 1
    split <;> omega
theorem qk6 {self:Int} {tab t:List Ent} {i:Nat} {x y:Ent} (h:tab[i]? = some x) (hy:t[i]? = some y):(qbM self tab t)[i]? = some (if (i:Int) = self then x else qcg x y):=by
 simp only [qbM,jdv,h,ja5,qde,ja2,hy,jbc]
theorem qfE {self clock:Int} {tab t:List Ent} {since:List Int} {i:Nat} {x y:Ent} {s:Int} (h:tab[i]? = some x) (hy:t[i]? = some y) (hs:since[i]? = some s):(qbc self clock tab since t)[i]? = some (if (i:Int) ≠ self/\qcg x y ≠ x/\(qcg x y).2 = 2 then clock else s):=by
 simp only [qbc,jdv,hs,ja5,qde,ja2,hy,h,jbc]
theorem qeZ {self:Int} {tab t:List Ent}:(qbM self tab t).length = tab.length:=by simp [qbM]
theorem qfB {self clock:Int} {tab t:List Ent} {since:List Int}:(qbc self clock tab since t).length = since.length:=by simp [qbc]
theorem qiz {α:Type} {old new:List α}:qbr old new old 0:=fun j=>by rw [jaf (by omega)]
theorem qf6 {α:Type} {old new cur:List α} {i:Int} (h:qbr old new cur i) (ho:(old.length:Int) <= i) (hn:(new.length:Int) <= i):cur = new:=by
 apply jbo;intro j;rw [h j];split
 ·rfl
 ·rw [jat (by omega),jat (by omega)]
theorem qiP {α:Type} {old new cur:List α} {i:Int} (h:qbr old new cur i) (h0:0 <= i):cur[i.toNat]? = old[i.toNat]?:=by
 have:=h i.toNat; rwa [jaf (by omega)] at this
theorem qce {α:Type} {old new cur:List α} {i:Int} (h:qbr old new cur i) (h0:0 <= i) (hx:new[i.toNat]? = old[i.toNat]?):qbr old new cur (i + 1):=fun j=>by
 rw [h j];by_cases hj:(j:Int) = i
 ·subst hj
  simp only [Int.toNat_natCast] at hx;rw [jaf (by omega),jah (by omega),hx]
 ·by_cases hj2:(j:Int) < i
  ·rw [jah hj2,jah (by omega)]
  ·rw [jaf hj2,jaf (by omega)]
theorem qgM {α:Type} {old new cur:List α} {i:Int} {x:α} (h:qbr old new cur i) (h0:0 <= i) (hi:i.toNat < cur.length) (hx:new[i.toNat]? = some x):qbr old new (cur.set i.toNat x) (i + 1):=fun j=>by
 rw [ja0];by_cases hj:i.toNat = j
 ·subst hj
  rw [jah rfl,jah hi,jah (by omega),hx]
 ·rw [jaf hj,h j]
  by_cases hj2:(j:Int) < i
  ·rw [jah hj2,jah (by omega)]
  ·rw [jaf hj2,jaf (by omega)]
theorem qhN {self clock:Int} {tab t curT:List Ent} {since curS:List Int} {i:Int} {x y:Ent}
  (h:qbr since (qbc self clock tab since t) curS i) (hT:curT[i.toNat]? = some x) (hx:tab[i.toNat]? = some x) (hy:t[i.toNat]? = some y) (h0:0 <= i) (hne:i ≠ self) (hi:i.toNat < curS.length) (hs:i.toNat < since.length) :
  qbr since (qbc self clock tab since t) (qaE curT curS clock i (qcg x y)) (i + 1):=by
 have hsg:since[i.toNat]? = some since[i.toNat]:=jae hs;have hg:=qfE (self:=self) (clock:=clock) hx hy hsg;rw [jbl h0] at hg;unfold qaE;rw [hT];by_cases hc:qcg x y ≠ x/\(qcg x y).2 = 2
 ·rw [jah ⟨fun e=>hc.1 (jax e).symm,hc.2⟩]
  rw [jah ⟨hne,hc.1,hc.2⟩] at hg;exact qgM h h0 hi hg
 ·rw [jaf (fun e=>hc ⟨fun e'=>e.1 (by rw [e']),e.2⟩)]
  rw [jaf (fun e=>hc ⟨e.2.1,e.2.2⟩)] at hg;exact qce h h0 (by rw [hg,hsg])
theorem qhf {t:List Ent} {i:Nat} {x:Ent} (h:t[i]? = some x):qde t i = x:=by simp [qde,ja2,h]
end Go.Proofs
