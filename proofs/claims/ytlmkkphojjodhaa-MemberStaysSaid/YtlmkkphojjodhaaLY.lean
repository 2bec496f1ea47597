/- What the machines of a swarm know stays avs it is while nothing happens: the call returns true. No condition. -/
import Derived.Test.YtlmkkphojjodhaaRows
import Derived.Test.YtlmkkphojjodhaaG6
import Derived.Test.YtlmkkphojjodhaaG8
import Derived.Test.YtlmkkphojjodhaaG1
set_option linter.unusedSimpArgs false
set_option linter.unusedVariables false
namespace Go.Proofs.Ytlmkkphojjodhaa
open Go Go.Eng Go.Proofs Go.ChangeShapes Go.WideShapes Go.ChangeAt Go.RowKit
set_option maxRecDepth 100000 in
theorem qro (os:Os) (started:os.Started) (H:Type) (enc:TypeId × Value->H) :
  ReturnsInHanded {} Try.checked os 14 .any (Rows.memberStaysSpec.pre6 enc Try.prog Try.f14 Rows.memberStaysRow.domain false) (Rows.memberStaysSpec.post enc Try.prog Try.f14 false true false false):=by
 refine returnsInHanded_of_change_sized (C:=Try.checked) own started (by kernel_rfl) Try.func14
  (ChangeSpec.witness6 (enc:=enc) (C:=Try.checked) false ⟨#[],#[.agg #[.int .i64 0,.slice none 0 0,.slice none 0 0,.int .u64 0]],[]⟩ 8 (by kernel_rfl) (by kernel_rfl) (by kernel_rfl) (by kernel_rfl)) ?_
 intro W base args ds gs before hval0 hW hcnd hsz _;have hval:∀ (j:Nat) t v,Try.f14.params[j]? = some t->args[j]? = some v->Value.okWide Try.prog W .any base t v:=hval0;have hW':=hW;obtain ⟨p,q,hA0,hV,rfl,hfz,hnd⟩:=hW;have hA:DataW.TrodAll enc Try.prog W 0 (fun _=>true) true Try.f14.params.toList args.toList ds p:=hA0;have hsz':(DataW.weightsEach Try.prog (Try.f14.params.toList ++ Rows.memberStaysSpec.plain.varTypes Try.prog) (ds ++ gs)).all (· <= reachBytes) = true:=hsz;rw [Try.params14] at hA hval hsz';obtain ⟨v0,vs0,d0,ds0,p0,q0,hargs,rfl,rfl,h0,r0⟩:=trodAll_cons hA;obtain ⟨rfl,rfl,rfl⟩:=trodAll_nil r0;obtain rfl:args = #[v0]:=by cases args; simp_all
 obtain ⟨k0,r1',e1,c1,r2',e2,c2,k3,rfl,g1,b1,g2,b2,u1,u2,hev⟩:=qiA (fun _=>rfl) (hval 0 72 v0 rfl rfl) h0 hsz' (j:=0) rfl rfl
 let us:List U:=[{ i:=k0 },{ r:=r1' },{ i:=e1.length },{ i:=c1 },{ d:=e1 },{ i:=c1 },{ r:=r2' },{ i:=e2.length },{ i:=c2 },{ d:=e2 },{ i:=c2 },{ i:=k3 }]
 refine ql5 (c:=qd0) (Z:=fun n=>us.getD n {}) qrA rfl (by simp [qd0,qcq]) qnF (by rw [Try.params14]; intro t ht; simp at ht; subst ht; exact qrx) rfl rfl Try.underlying4 (fun ds' h=>?_) hW' ?_ ?_ ?_ ?_
 ·rw [Try.params14] at h
  match ds',h with
  | [_],_=>rfl
 ·intro n
  match n with
  | 0 | 1 | 2 | 3 | 5 | 6 | 7 | 8 | 10 | 11=>simp [us,U.good,Value.oneCell']
  | 4=>exact qda g1
  | 9=>exact qda g2
  | n + 12=>simp [us,U.good,Value.oneCell']
 ·simp [qd0,qjo,iv,qa,T.den,O0.den,O1.den,O3.den,us]
 ·simp only [qd0,qhM,iRo,jar,ja2,or_false]
  intro x hx;rcases hx with rfl | rfl
  ·exact g1
  ·exact g2
 ·exact ⟨rfl,b1,rfl,b2,u1,u2,hev⟩
theorem qtP:Rows.memberStaysRow.holds Try.pinned (OpenSpec.ofChange Rows.memberStaysSpec) :=
 OpenClaim.holds_of_wide 14 Try.f14 rfl rfl rfl rfl rfl rfl rfl ⟨rfl,rfl,rfl,rfl,rfl⟩ rfl rfl rfl rfl rfl (by kernel_rfl) Try.func14 (by kernel_rfl)
  (jba (by kernel_rfl)) (by unfold Func.isWrapper; first | (rw [jag (by decide +kernel)]; kernel_rfl) | (rw [jaf (by decide +kernel)]; exact ⟨rfl,rfl⟩))
  (fun os started H enc _=>qro os started H enc)
theorem stays_proved:Rows.MemberStaysSaid:=qtP
#print axioms stays_proved
end Go.Proofs.Ytlmkkphojjodhaa
