/- Any K of the pieces of an object, offered in any order, make a Gather ready, and not fewer; it then returns the object and every piece: the call returns true. No condition. -/
import Derived.Test.YtelcnkclppkicaaGreatDoorRows
import Derived.Test.YtelcnkclppkicaaGreatDoorTie
import Derived.Test.YtelcnkclppkicaaGreatDoorCards
import Derived.Test.YtelcnkclppkicaaGreatDoorLj
import Derived.Test.YtelcnkclppkicaaGreatDoorLR
import Derived.Test.YtelcnkclppkicaaGreatDoorG10
import Derived.Test.YtelcnkclppkicaaGreatDoorG6
import Derived.Test.YtelcnkclppkicaaGreatDoorG1
set_option linter.unusedSimpArgs false
set_option linter.unusedVariables false
namespace Go.Proofs.YtelcnkclppkicaaGreatDoor
open Go Go.Eng Go.Proofs Go.ChangeShapes Go.WideShapes Go.ChangeAt Go.RowKit
set_option maxRecDepth 100000
theorem qpy (os:Os) (started:os.Started) (H:Type) (enc:TypeId × Value->H) :
  ReturnsInHanded {} Tryz.checked os 10 .any (fun w args=>(Rows.placeRestoresSpec.pre enc Tryz.prog Tryz.f10 Rows.placeRestoresRow.domain false w args/\laidMet Tryz.prog Rows.placeRestoresRow.laid w)/\sizedMet enc Tryz.prog Tryz.f10 (OpenSpec.ofChange Rows.placeRestoresSpec) false w args)
   (Rows.placeRestoresSpec.post enc Tryz.prog Tryz.f10 false true false false):=by
 refine returnsInHanded_of_change_and (C:=Tryz.checked) (X:=fun w _=>laidMet Tryz.prog Rows.placeRestoresRow.laid w) (fun _ _ _ hh h=>h.of_heap hh) own started (by kernel_rfl) Tryz.func10
  (ChangeSpec.witness_at (enc:=enc) (C:=Tryz.checked) (os:=os) (X:=fun w _=>laidMet Tryz.prog Rows.placeRestoresRow.laid w) false (qrC os) #[.agg #[.int .i64 0,.int .i64 0,.slice none 0 0,.slice none 0 0]] 8 rfl (by kernel_rfl) (by kernel_rfl) (by kernel_rfl) (by kernel_rfl) (by kernel_rfl) (q5G os _)) ?_
 intro W base args ds gs before hval0 hW _ hsz hL _
 have hval:∀ (j:Nat) t v,Tryz.f10.params[j]? = some t->args[j]? = some v->Value.okWide Tryz.prog W .any base t v:=hval0
 obtain ⟨gc,gty,gfr,gh,gl⟩:=qqx hL
 have hW':=hW
 obtain ⟨p,q,hA0,hV,rfl,hfz,hnd⟩:=hW
 have hA:DataW.TrodAll enc Tryz.prog W 0 (fun _=>true) true Tryz.f10.params.toList args.toList ds p:=hA0
 have hsz':(DataW.weightsEach Tryz.prog (Tryz.f10.params.toList ++ Rows.placeRestoresSpec.plain.varTypes Tryz.prog) (ds ++ gs)).all (· <= reachBytes) = true:=hsz
 rw [Tryz.params10] at hA hval hsz'
 obtain ⟨v0,vs0,d0,ds0,p0,q0,hargs,rfl,rfl,h0,r0⟩:=trodAll_cons hA
 obtain ⟨rfl,rfl,rfl⟩:=trodAll_nil r0
 obtain rfl:args = #[v0]:=by cases args; simp_all
 obtain ⟨k0,k1,r2,d2,c2,r3,d3,c3,e0,w0,w1,lc2,m2,b2,a2,lc3,m3,b3⟩:=q8r (fun _=>rfl) (hval 0 76 v0 rfl rfl) h0 hsz' (j:=0) rfl rfl
 subst e0
 let us:List U:=[{ i:=k0 },{ i:=k1 },{ r:=r2 },{ i:=d2.length },{ i:=c2 },{ d:=d2 },{},{ r:=r3 },{ i:=d3.length },{ i:=c3 },{ d:=d3 },{},{ r:=some ⟨1,0,none⟩ },{ d:=[qaO.map (Value.int .u32)] }]
 refine q6s (c:=qai) (Z:=fun n=>us.getD n {}) qxr rfl (by simp [qai,qpu,qch,qeq]) q7V (by rw [Tryz.params10]; intro t ht; simp only [jbo,jc6,or_false] at ht; subst ht; exact q8T) rfl rfl Tryz.underlying4 (fun ds' h=>?_) hW' ?_ ?_ ?_ ?_
 ·rw [Tryz.params10] at h
  match ds',h with
  | [_],_=>rfl
 ·intro n
  match n with
  | 0 | 1 | 2 | 3 | 4 | 6 | 7 | 8 | 9 | 11 | 12=>simp [us,U.good,Value.oneCell']
  | 5=>exact qzI m2
  | 10=>exact q3i m3
  | 13=>exact qwT
  | n + 14=>simp [us,U.good,Value.oneCell']
 ·simp [qai,qpu,qch,bS,iv,SV.den,T.den,qc,O0.den,O1.den,O3.den,us]
 ·simp only [qai,qpu,qch,qBj,bHp,qch,iHp,jat,jbo,jc6,or_false,or_assoc]
  intro x hx
  rcases hx with rfl | rfl | rfl
  ·exact m2
  ·exact m3
  ·exact q2O gh gl rfl rfl
 ·exact ⟨w0,w1,⟨rfl,Int.ofNat_le.2 lc2,b2,a2⟩,⟨rfl,b3,q43 m3⟩,rfl,rfl⟩
theorem qsM:Rows.placeRestoresRow.holds Tryz.pinned (OpenSpec.ofChange Rows.placeRestoresSpec) :=
 OpenClaim.holds_of_wide 10 Tryz.f10 rfl rfl rfl rfl rfl rfl rfl ⟨rfl,rfl,rfl,rfl,rfl⟩ rfl rfl rfl rfl rfl (by kernel_rfl) Tryz.func10 (q5n (by kernel_rfl) (by kernel_rfl) (by kernel_rfl) (by kernel_rfl) (by kernel_rfl) (by kernel_rfl) q1q (q7X.trans (by kernel_rfl)) (q9C.trans (by kernel_rfl)) (by kernel_rfl))
  (jbq (by kernel_rfl)) (by unfold Func.isWrapper; first | (rw [jah (by decide +kernel)]; kernel_rfl) | (rw [jaf (by decide +kernel)]; exact ⟨rfl,rfl⟩))
  (fun os started H enc _=>qpy os started H enc)
theorem qxc:Rows.placeRestoresRow.wfByText (OpenSpec.ofChange Rows.placeRestoresSpec) = true:=by kernel_rfl
theorem qsU:false = Rows.placeRestoresRow.goesBy Tryz.pinned.checked.prog:=by kernel_rfl
theorem restores_proved:Rows.PlaceRestoresCardSaid :=
 Claim7.holds_tied_plain_at .later [] [.data] true (true, "2696f152e3f098426033aa0dd70b800404442d55c89d31263bcb6b381c23969b") false
  qsM (fun _ h=>by cases h) qxc (fun _ h=>by cases h) placeRestores_row_tie rfl ⟨rfl,rfl⟩ q9t rfl
  (fun f fn hf hfn=>by
   obtain rfl:f = 10 := jaz ((show Tryz.prog.funcNamed "stolon/stolonlaw07.PlaceRestores" = some 10 by kernel_rfl).symm.trans hf) |>.symm
   obtain rfl:fn = Tryz.f10 := (jaz (Tryz.func10.symm.trans hfn)).symm
   exact ⟨q7p,fun j t ht=>by
    rw [Tryz.params10] at ht
    match j,ht with
    | 0,ht =>
     obtain rfl : 76 = t:=by simpa using ht
     exact (show Tryz.prog.wantsStandIn 76 = false by kernel_rfl)
    | j + 1,ht=>simp at ht⟩)
  qsU
#print axioms restores_proved
end Go.Proofs.YtelcnkclppkicaaGreatDoor
