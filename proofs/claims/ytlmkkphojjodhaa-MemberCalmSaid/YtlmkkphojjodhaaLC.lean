/- Machines that start together and run suspect nobody: the call returns true. No condition. -/
import Derived.Test.YtlmkkphojjodhaaRows
import Derived.Test.YtlmkkphojjodhaaG6
import Derived.Test.YtlmkkphojjodhaaG8
import Derived.Test.YtlmkkphojjodhaaG1
set_option linter.unusedSimpArgs false
set_option linter.unusedVariables false
namespace Go.Proofs.Ytlmkkphojjodhaa
open Go Go.Eng Go.Proofs Go.ChangeShapes Go.WideShapes Go.ChangeAt Go.RowKit
theorem qzE:Try.prog.readableRec 5 = true/\5 < Try.prog.types.size:=⟨by kernel_rfl,jba (by kernel_rfl)⟩
theorem qza:Try.prog.underlying 5 = some (.int .u8):=by kernel_rfl
set_option maxRecDepth 100000 in
theorem qrP (os:Os) (started:os.Started) (H:Type) (enc:TypeId × Value->H) :
  ReturnsInHanded {} Try.checked os 10 .any (Rows.memberCalmSpec.pre6 enc Try.prog Try.f10 Rows.memberCalmRow.domain false) (Rows.memberCalmSpec.post enc Try.prog Try.f10 false true false false):=by
 refine returnsInHanded_of_change_sized (C:=Try.checked) own started (by kernel_rfl) Try.func10
  (ChangeSpec.witness6 (enc:=enc) (C:=Try.checked) false ⟨#[],#[.agg #[.int .i64 0,.slice none 0 0,.slice none 0 0,.int .u64 0],.int .u8 0],[]⟩ 8 (by kernel_rfl) (by kernel_rfl) (by kernel_rfl) (by kernel_rfl)) ?_
 intro W base args ds gs before hval0 hW hcnd hsz _;have hval:∀ (j:Nat) t v,Try.f10.params[j]? = some t->args[j]? = some v->Value.okWide Try.prog W .any base t v:=hval0;have hW':=hW;obtain ⟨p,q,hA0,hV,rfl,hfz,hnd⟩:=hW;have hA:DataW.TrodAll enc Try.prog W 0 (fun _=>true) true Try.f10.params.toList args.toList ds p:=hA0;have hsz':(DataW.weightsEach Try.prog (Try.f10.params.toList ++ Rows.memberCalmSpec.plain.varTypes Try.prog) (ds ++ gs)).all (· <= reachBytes) = true:=hsz;rw [Try.params10] at hA hval hsz';obtain ⟨v0,vs0,d0,ds0,p0,q0,hargs,rfl,rfl,h0,r0⟩:=trodAll_cons hA;obtain ⟨v1,vs1,d1,ds1,p1,q1,rfl,rfl,rfl,h1,r1⟩:=trodAll_cons r0;obtain ⟨rfl,rfl,rfl⟩:=trodAll_nil r1;obtain rfl:args = #[v0,v1]:=by cases args; simp_all
 obtain ⟨k0,r1',e1,c1,r2',e2,c2,k3,rfl,g1,b1,g2,b2,u1,u2,hev⟩:=qiA (fun _=>rfl) (hval 0 72 v0 rfl rfl) h0 hsz' (j:=0) rfl rfl;obtain ⟨z1,rfl,_,_,w1⟩:=open_int qza (hval 1 5 v1 rfl rfl) h1;have hz1:0 <= z1/\z1 <= 255:=by
  have u1:IntKind.u8.min = 0:=rfl;have u2:IntKind.u8.max = 255:=rfl;simp [Lit.wf,IntKind.wrap,IntKind.bits,IntKind.signed] at w1;omega
 let us:List U:=[{ i:=k0 },{ r:=r1' },{ i:=e1.length },{ i:=c1 },{ d:=e1 },{ i:=c1 },{ r:=r2' },{ i:=e2.length },{ i:=c2 },{ d:=e2 },{ i:=c2 },{ i:=k3 },{ i:=z1 }]
 refine ql5 (c:=qeg) (Z:=fun n=>us.getD n {}) qua rfl (by simp [qeg,qcq]) qnF (by rw [Try.params10]; intro t ht; simp at ht; rcases ht with rfl | rfl; exact qrx; exact qzE) rfl rfl Try.underlying4 (fun ds' h=>?_) hW' ?_ ?_ ?_ ?_
 ·rw [Try.params10] at h
  match ds',h with
  | [_,_],_=>rfl
 ·intro n
  match n with
  | 0 | 1 | 2 | 3 | 5 | 6 | 7 | 8 | 10 | 11 | 12=>simp [us,U.good,Value.oneCell']
  | 4=>exact qda g1
  | 9=>exact qda g2
  | n + 13=>simp [us,U.good,Value.oneCell']
 ·simp [qeg,qjo,iv,qa,T.den,O0.den,O1.den,O3.den,us]
 ·simp only [qeg,qhM,iRo,jar,ja2,or_false]
  intro x hx;rcases hx with rfl | rfl
  ·exact g1
  ·exact g2
 ·exact ⟨⟨rfl,b1,rfl,b2,u1,u2,hev⟩,hz1⟩
theorem qv6:Rows.memberCalmRow.holds Try.pinned (OpenSpec.ofChange Rows.memberCalmSpec) :=
 OpenClaim.holds_of_wide 10 Try.f10 rfl rfl rfl rfl rfl rfl rfl ⟨rfl,rfl,rfl,rfl,rfl⟩ rfl rfl rfl rfl rfl (by kernel_rfl) Try.func10 (by kernel_rfl)
  (jba (by kernel_rfl)) (by unfold Func.isWrapper; first | (rw [jag (by decide +kernel)]; kernel_rfl) | (rw [jaf (by decide +kernel)]; exact ⟨rfl,rfl⟩))
  (fun os started H enc _=>qrP os started H enc)
theorem calm_proved:Rows.MemberCalmSaid:=qv6
#print axioms calm_proved
end Go.Proofs.Ytlmkkphojjodhaa
