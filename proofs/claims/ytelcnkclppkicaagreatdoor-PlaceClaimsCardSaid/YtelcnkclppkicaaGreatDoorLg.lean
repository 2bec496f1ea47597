/- After each of any calls, the claimants of an object, and whether a peer is blocked, are those of the document: the call returns true. No condition. -/
import Derived.Test.YtelcnkclppkicaaGreatDoorRows
import Derived.Test.YtelcnkclppkicaaGreatDoorTie
import Derived.Test.YtelcnkclppkicaaGreatDoorCards
import Derived.Test.YtelcnkclppkicaaGreatDoorLf
import Derived.Test.YtelcnkclppkicaaGreatDoorLS
import Derived.Test.YtelcnkclppkicaaGreatDoorG9
import Derived.Test.YtelcnkclppkicaaGreatDoorG7
import Derived.Test.YtelcnkclppkicaaGreatDoorG1
set_option linter.unusedSimpArgs false
set_option linter.unusedVariables false
namespace Go.Proofs.YtelcnkclppkicaaGreatDoor
open Go Go.Eng Go.Proofs Go.ChangeShapes Go.WideShapes Go.ChangeAt Go.RowKit
set_option maxRecDepth 100000
theorem qsS (os:Os) (started:os.Started) (H:Type) (enc:TypeId × Value->H) :
  ReturnsInHanded {} Tryz.checked os 13 .any (fun w args=>(Rows.placeClaimsSpec.pre enc Tryz.prog Tryz.f13 Rows.placeClaimsRow.domain false w args/\laidMet Tryz.prog Rows.placeClaimsRow.laid w)/\sizedMet enc Tryz.prog Tryz.f13 (OpenSpec.ofChange Rows.placeClaimsSpec) false w args)
   (Rows.placeClaimsSpec.post enc Tryz.prog Tryz.f13 false true false false):=by
 refine returnsInHanded_of_change_and (C:=Tryz.checked) (X:=fun w _=>laidMet Tryz.prog Rows.placeClaimsRow.laid w) (fun _ _ _ hh h=>h.of_heap hh) own started (by kernel_rfl) Tryz.func13
  (ChangeSpec.witness_at (enc:=enc) (C:=Tryz.checked) (os:=os) (X:=fun w _=>laidMet Tryz.prog Rows.placeClaimsRow.laid w) false (qpb os) #[.slice none 0 0] 8 rfl (by kernel_rfl) (by kernel_rfl) (by kernel_rfl) (by kernel_rfl) (by kernel_rfl) (q3o os _)) ?_
 intro W base args ds gs before hval0 hW _ hsz hL _
 have hval:∀ (j:Nat) t v,Tryz.f13.params[j]? = some t->args[j]? = some v->Value.okWide Tryz.prog W .any base t v:=hval0
 obtain ⟨⟨gc0,gty0,gfr0,gh0,gl0⟩,gc,gty,gfr,gh,gl⟩:=qyI hL
 have hW':=hW
 obtain ⟨p,q,hA0,hV,rfl,hfz,hnd⟩:=hW
 have hA:DataW.TrodAll enc Tryz.prog W 0 (fun _=>true) true Tryz.f13.params.toList args.toList ds p:=hA0
 have hsz':(DataW.weightsEach Tryz.prog (Tryz.f13.params.toList ++ Rows.placeClaimsSpec.plain.varTypes Tryz.prog) (ds ++ gs)).all (· <= reachBytes) = true:=hsz
 rw [Tryz.params13] at hA hval hsz'
 obtain ⟨v0,vs0,d0,ds0,p0,q0,hargs,rfl,rfl,h0,r0⟩:=trodAll_cons hA
 obtain ⟨rfl,rfl,rfl⟩:=trodAll_nil r0
 obtain rfl:args = #[v0]:=by cases args; simp_all
 obtain ⟨g0,rows0,c0,e0,lc0,b0,a0,m0⟩:=qyT (fun _=>rfl) (hval 0 109 v0 rfl rfl) h0 hsz' (j:=0) rfl rfl
 subst e0
 let us:List U:=[{ r:=g0 },{ i:=rows0.length },{ i:=c0 },{ d:=rows0 },{},{ h:=fun b=>W.heap[b]? },{ r:=some ⟨0,0,none⟩ },{ d:=[qM.map (Value.int .u32)] },{ r:=some ⟨1,0,none⟩ },{ d:=[qM.map (Value.int .u32)] }]
 refine q5m (c:=qda) (Z:=fun n=>us.getD n {}) qwi rfl (by simp [qda,qm7]) q7w (by rw [Tryz.params13]; intro t ht; simp only [jbo,jd2,or_false] at ht; subst ht; exact q88) rfl rfl Tryz.underlying4 (fun ds' h=>?_) hW' ?_ ?_ ?_ ?_
 ·rw [Tryz.params13] at h
  match ds',h with
  | [_],_=>rfl
 ·intro n
  match n with
  | 0 | 1 | 2 | 4 | 5 | 6 | 8=>simp [us,U.good,Value.oneCell']
  | 3=>exact q3e m0
  | 7=>exact qmX
  | 9=>exact qmX
  | n + 10=>simp [us,U.good,Value.oneCell']
 ·simp [qda,bS,iv,SV.den,T.den,qc,O0.den,O1.den,O3.den,us]
 ·simp only [qda,q4S,bHp,jas,jbo,jd2,or_false,or_assoc]
  intro x hx
  rcases hx with rfl | rfl | rfl | rfl
  ·exact m0
  ·exact (fun b o h=>h)
  ·exact qzy gh0 gl0 rfl rfl
  ·exact q2S gh gl rfl rfl
 ·exact ⟨⟨rfl,Int.le_trans b0 (by decide),fun i i0 i1=>a0 i i0 i1⟩,⟨rfl,rfl⟩,rfl,rfl⟩
theorem qwk:Rows.placeClaimsRow.holds Tryz.pinned (OpenSpec.ofChange Rows.placeClaimsSpec) :=
 OpenClaim.holds_of_wide 13 Tryz.f13 rfl rfl rfl rfl rfl rfl rfl ⟨rfl,rfl,rfl,rfl,rfl⟩ rfl rfl rfl rfl rfl (by kernel_rfl) Tryz.func13 (q3U (by kernel_rfl) (by kernel_rfl) (by kernel_rfl) (by kernel_rfl) (by kernel_rfl) (by kernel_rfl) qzJ (q6S.trans (by kernel_rfl)) (q8p.trans (by kernel_rfl)) (by kernel_rfl))
  (jbf (by kernel_rfl)) (by unfold Func.isWrapper; first | (rw [jah (by decide +kernel)]; kernel_rfl) | (rw [jaf (by decide +kernel)]; exact ⟨rfl,rfl⟩))
  (fun os started H enc _=>qsS os started H enc)
theorem q3l:Rows.placeClaimsRow.wfByText (OpenSpec.ofChange Rows.placeClaimsSpec) = true:=by kernel_rfl
theorem qwB:false = Rows.placeClaimsRow.goesBy Tryz.pinned.checked.prog:=by kernel_rfl
theorem claims_proved:Rows.PlaceClaimsCardSaid :=
 Claim7.holds_tied_plain_at .later [] [.data,.data] true (true, "2696f152e3f098426033aa0dd70b800404442d55c89d31263bcb6b381c23969b") false
  qwk (fun _ h=>by cases h) q3l (fun _ h=>by cases h) placeClaims_row_tie rfl ⟨rfl,rfl⟩ q8u rfl
  (fun f fn hf hfn=>by
   obtain rfl:f = 13 := jaz ((show Tryz.prog.funcNamed "stolon/stolonlaw07.PlaceClaims" = some 13 by kernel_rfl).symm.trans hf) |>.symm
   obtain rfl:fn = Tryz.f13 := (jaz (Tryz.func13.symm.trans hfn)).symm
   exact ⟨q7W,fun j t ht=>by
    rw [Tryz.params13] at ht
    match j,ht with
    | 0,ht =>
     obtain rfl : 109 = t:=by simpa using ht
     exact (show Tryz.prog.wantsStandIn 109 = false by kernel_rfl)
    | j + 1,ht=>simp at ht⟩)
  qwB
#print axioms claims_proved
end Go.Proofs.YtelcnkclppkicaaGreatDoor
