/- Each of any calls of a machine returns what the document says, and leaves the table, the clock, the probes and the challenge that it says: the call returns true. No condition. -/
import Derived.Test.YtlmkkphojjodhaaRows
import Derived.Test.YtlmkkphojjodhaaG6
import Derived.Test.YtlmkkphojjodhaaG8
import Derived.Test.YtlmkkphojjodhaaG1
set_option linter.unusedSimpArgs false
set_option linter.unusedVariables false
namespace Go.Proofs.Ytlmkkphojjodhaa
open Go Go.Eng Go.Proofs Go.ChangeShapes Go.WideShapes Go.ChangeAt Go.RowKit
theorem q05:Try.prog.readableRec 22 = true/\22 < Try.prog.types.size:=⟨by kernel_rfl,ja1 (by kernel_rfl)⟩
set_option maxRecDepth 100000 in
theorem qnx (os:Os) (started:os.Started) (H:Type) (enc:TypeId × Value->H) :
  ReturnsInHanded {} Try.checked os 16 .any (Rows.memberScriptsSpec.pre6 enc Try.prog Try.f16 Rows.memberScriptsRow.domain false) (Rows.memberScriptsSpec.post enc Try.prog Try.f16 false true false false):=by
 refine returnsInHanded_of_change_sized (C:=Try.checked) own started (by kernel_rfl) Try.func16
  (ChangeSpec.witness6 (enc:=enc) (C:=Try.checked) false ⟨#[],#[.int .i64 0,.int .i64 0,.slice none 0 0],[]⟩ 8 (by kernel_rfl) (by kernel_rfl) (by kernel_rfl) (by kernel_rfl)) ?_
 intro W base args ds gs before hval0 hW hcnd hsz _;have hval:∀ (j:Nat) t v,Try.f16.params[j]? = some t->args[j]? = some v->Value.okWide Try.prog W .any base t v:=hval0;have hW':=hW;obtain ⟨p,q,hA0,hV,rfl,hfz,hnd⟩:=hW;have hA:DataW.TrodAll enc Try.prog W 0 (fun _=>true) true Try.f16.params.toList args.toList ds p:=hA0;have hsz':(DataW.weightsEach Try.prog (Try.f16.params.toList ++ Rows.memberScriptsSpec.plain.varTypes Try.prog) (ds ++ gs)).all (· <= reachBytes) = true:=hsz;rw [Try.params16] at hA hval hsz';obtain ⟨v0,vs0,d0,ds0,p0,q0,hargs,rfl,rfl,h0,r0⟩:=trodAll_cons hA;obtain ⟨v1,vs1,d1,ds1,p1,q1,rfl,rfl,rfl,h1,r1⟩:=trodAll_cons r0;obtain ⟨v2,vs2,d2,ds2,p2,q2,rfl,rfl,rfl,h2,r2⟩:=trodAll_cons r1;obtain ⟨rfl,rfl,rfl⟩:=trodAll_nil r2;obtain rfl:args = #[v0,v1,v2]:=by cases args; simp_all
 obtain ⟨z0,rfl,_,_,_⟩:=open_int Try.underlying3 (hval 0 3 v0 rfl rfl) h0;obtain ⟨z1,rfl,_,_,_⟩:=open_int Try.underlying3 (hval 1 3 v1 rfl rfl) h1;obtain ⟨g2,rows2,c2,e2,b2,o2,m2⟩:=qrw (fun _=>rfl) (hval 2 84 v2 rfl rfl) h2 hsz' (j:=2) rfl rfl;subst e2
 let us:List U:=[{ i:=z0 },{ i:=z1 },{ r:=g2 },{ i:=rows2.length },{ i:=c2 },{ d:=rows2 },{ h:=fun b=>W.heap[b]? }]
 refine qxw (c:=qao) (Z:=fun n=>us.getD n {}) qpv rfl (by simp [qao,qc7]) qyG (by rw [Try.params16]; intro t ht; simp at ht; rcases ht with rfl | rfl; exact q0m; exact qzu) rfl rfl Try.underlying4 (fun ds' h=>?_) hW' ?_ ?_ ?_ ?_
 ·rw [Try.params16] at h
  match ds',h with
  | [_,_,_],_=>rfl
 ·intro n
  match n with
  | 0 | 1 | 2 | 3 | 4 | 6=>simp [us,U.good,Value.oneCell']
  | 5=>exact qxg m2
  | n + 7=>simp [us,U.good,Value.oneCell']
 ·simp [qao,qkZ,iv,T.den,O0.den,O1.den,O3.den,us]
 ·simp only [qao,sRo,jba,jc0,or_false]
  intro x hx;rcases hx with rfl | rfl
  ·exact m2
  ·exact fun b o h=>h
 ·exact ⟨rfl,b2,o2⟩
theorem qpE:Rows.memberScriptsRow.holds Try.pinned (OpenSpec.ofChange Rows.memberScriptsSpec) :=
 OpenClaim.holds_of_wide 16 Try.f16 rfl rfl rfl rfl rfl rfl rfl ⟨rfl,rfl,rfl,rfl,rfl⟩ rfl rfl rfl rfl rfl (by kernel_rfl) Try.func16 (by kernel_rfl)
  (ja1 (by kernel_rfl)) (by unfold Func.isWrapper; first | (rw [jah (by decide +kernel)]; kernel_rfl) | (rw [jaf (by decide +kernel)]; exact ⟨rfl,rfl⟩))
  (fun os started H enc _=>qnx os started H enc)
theorem scripts_proved:Rows.MemberScriptsSaid:=qpE
#print axioms scripts_proved
end Go.Proofs.Ytlmkkphojjodhaa
