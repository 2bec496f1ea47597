/- After each of any offers, its error, whether the Gather is ready, its manifest, numbers, object and pieces are those of the document: the call returns true. No condition. -/
import Derived.Test.YtelcnkclppkicaaGreatDoorRows
import Derived.Test.YtelcnkclppkicaaGreatDoorTie
import Derived.Test.YtelcnkclppkicaaGreatDoorCards
import Derived.Test.YtelcnkclppkicaaGreatDoorLh
import Derived.Test.YtelcnkclppkicaaGreatDoorLS
import Derived.Test.YtelcnkclppkicaaGreatDoorG10
import Derived.Test.YtelcnkclppkicaaGreatDoorG6
import Derived.Test.YtelcnkclppkicaaGreatDoorG1
set_option linter.unusedSimpArgs false
set_option linter.unusedVariables false
namespace Go.Proofs.YtelcnkclppkicaaGreatDoor
open Go Go.Eng Go.Proofs Go.ChangeShapes Go.WideShapes Go.ChangeAt Go.RowKit
set_option maxRecDepth 100000
theorem qta (os:Os) (started:os.Started) (H:Type) (enc:TypeId × Value->H) :
  ReturnsInHanded {} Tryz.checked os 11 .any (fun w args=>(Rows.placeGathersSpec.pre enc Tryz.prog Tryz.f11 Rows.placeGathersRow.domain false w args/\laidMet Tryz.prog Rows.placeGathersRow.laid w)/\sizedMet enc Tryz.prog Tryz.f11 (OpenSpec.ofChange Rows.placeGathersSpec) false w args)
   (Rows.placeGathersSpec.post enc Tryz.prog Tryz.f11 false true false false):=by
 refine returnsInHanded_of_change_and (C:=Tryz.checked) (X:=fun w _=>laidMet Tryz.prog Rows.placeGathersRow.laid w) (fun _ _ _ hh h=>h.of_heap hh) own started (by kernel_rfl) Tryz.func11
  (ChangeSpec.witness_at (enc:=enc) (C:=Tryz.checked) (os:=os) (X:=fun w _=>laidMet Tryz.prog Rows.placeGathersRow.laid w) false (qsn os) #[.agg #[.int .u8 0,.int .u8 0,.int .u8 0,.int .u8 0,.int .u8 0,.int .u8 0,.int .u8 0,.int .u8 0,.int .u8 0,.int .u8 0,.int .u8 0,.int .u8 0,.int .u8 0,.int .u8 0,.int .u8 0,.int .u8 0,.int .u8 0,.int .u8 0,.int .u8 0,.int .u8 0,.int .u8 0,.int .u8 0,.int .u8 0,.int .u8 0,.int .u8 0,.int .u8 0,.int .u8 0,.int .u8 0,.int .u8 0,.int .u8 0,.int .u8 0,.int .u8 0],.slice none 0 0] 8 rfl (by kernel_rfl) (by kernel_rfl) (by kernel_rfl) (by kernel_rfl) (by kernel_rfl) (q5l os _)) ?_
 intro W base args ds gs before hval0 hW _ hsz hL _;have hval:∀ (j:Nat) t v,Tryz.f11.params[j]? = some t->args[j]? = some v->Value.okWide Tryz.prog W .any base t v:=hval0;obtain ⟨⟨gc0,gty0,gfr0,gh0,gl0⟩,gc,gty,gfr,gh,gl⟩:=q4z hL;have hW':=hW;obtain ⟨p,q,hA0,hV,rfl,hfz,hnd⟩:=hW;have hA:DataW.TrodAll enc Tryz.prog W 0 (fun _=>true) true Tryz.f11.params.toList args.toList ds p:=hA0;have hsz':(DataW.weightsEach Tryz.prog (Tryz.f11.params.toList ++ Rows.placeGathersSpec.plain.varTypes Tryz.prog) (ds ++ gs)).all (· <= reachBytes) = true:=hsz;rw [Tryz.params11] at hA hval hsz';obtain ⟨v0,vs0,d0,ds0,p0,q0,hargs,rfl,rfl,h0,r0⟩:=trodAll_cons hA;obtain ⟨v1,vs1,d1,ds1,p1,q1,rfl,rfl,rfl,h1,r1⟩:=trodAll_cons r0;obtain ⟨rfl,rfl,rfl⟩:=trodAll_nil r1;obtain rfl:args = #[v0,v1]:=by cases args; simp_all
 obtain ⟨row0,e0,rl0,rb0⟩:=qzA (hval 0 24 v0 rfl rfl) h0;subst e0;obtain ⟨g1,rows1,c1,e1,lc1,b1,a1,m1⟩:=qzw (fun _=>rfl) (hval 1 92 v1 rfl rfl) h1 hsz' (j:=1) rfl rfl;subst e1
 let us:List U:=[{ d:=[row0] },{ r:=g1 },{ i:=rows1.length },{ i:=c1 },{ d:=rows1 },{},{ h:=fun b=>W.heap[b]? },{ r:=some ⟨1,0,none⟩ },{ d:=[qQ.map (Value.int .u32)] },{ r:=some ⟨0,0,none⟩ },{ d:=[qQ.map (Value.int .u32)] }]
 have hden0:=qB9 (n:=0) (Z:=fun n=>us.getD n {}) (row:=row0) rfl rb0;refine q8T (c:=qaT) (Z:=fun n=>us.getD n {}) q9b rfl (by simp [qaT,qzf,dgV,qdE]) qCU (by rw [Tryz.params11]; intro t ht; simp only [ja9,jco,or_false] at ht; rcases ht with rfl | rfl; exact qEj; exact qC1) rfl rfl Tryz.underlying4 (fun ds' h=>?_) hW' ?_ ?_ ?_ ?_
 ·rw [Tryz.params11] at h
  match ds',h with
  | [_,_],_=>rfl
 ·intro n
  match n with
  | 1 | 2 | 3 | 5 | 6 | 7 | 9=>simp [us,U.good,Value.oneCell']
  | 0=>exact qzJ rb0
  | 4=>exact q6U m1
  | 8=>exact qo8
  | 10=>exact qo8
  | n + 11=>simp [us,U.good,Value.oneCell']
 ·simp only [qaT,ja5,jb5,hden0]
  simp [qaT,qzf,dgV,bS,iv,SV.den,T.den,qd,O0.den,O1.den,O3.den,us,hden0]
 ·simp only [qaT,qzf,dgV,qwz,bHp,jaw,ja9,jco,or_false,or_assoc]
  intro x hx;rcases hx with rfl | rfl | rfl | rfl
  ·exact m1
  ·exact (fun b o h=>h)
  ·exact q7P gh gl rfl rfl
  ·exact q33 gh0 gl0 rfl rfl
 ·exact ⟨qmN rb0,⟨rfl,Int.le_trans b1 (by decide),fun i i0 i1=>a1 i i0 i1⟩,⟨rfl,rfl⟩,rfl,rfl⟩
theorem qzh:Rows.placeGathersRow.holds Tryz.pinned (OpenSpec.ofChange Rows.placeGathersSpec) :=
 OpenClaim.holds_of_wide 11 Tryz.f11 rfl rfl rfl rfl rfl rfl rfl ⟨rfl,rfl,rfl,rfl,rfl⟩ rfl rfl rfl rfl rfl (by kernel_rfl) Tryz.func11 (q9d (by kernel_rfl) (by kernel_rfl) (by kernel_rfl) (by kernel_rfl) (by kernel_rfl) (by kernel_rfl) q2O (qCh.trans (by kernel_rfl)) (qEb.trans (by kernel_rfl)) (by kernel_rfl))
  (jbh (by kernel_rfl)) (by unfold Func.isWrapper; first | (rw [jah (by decide +kernel)]; kernel_rfl) | (rw [jaf (by decide +kernel)]; exact ⟨rfl,rfl⟩))
  (fun os started H enc _=>qta os started H enc)
theorem q4E:Rows.placeGathersRow.wfByText (OpenSpec.ofChange Rows.placeGathersSpec) = true:=by kernel_rfl
theorem qyP:false = Rows.placeGathersRow.goesBy Tryz.pinned.checked.prog:=by kernel_rfl
theorem gathers_proved:Rows.PlaceGathersCardSaid :=
 Claim7.holds_tied_plain_at .later [] [.data,.data] true (true, "2696f152e3f098426033aa0dd70b800404442d55c89d31263bcb6b381c23969b") false
  qzh (fun _ h=>by cases h) q4E (fun _ h=>by cases h) placeGathers_row_tie rfl ⟨rfl,rfl⟩ qD2 rfl
  (fun f fn hf hfn=>by
   obtain rfl:f = 11 := jax ((show Tryz.prog.funcNamed "stolon/stolonlaw07.PlaceGathers" = some 11 by kernel_rfl).symm.trans hf) |>.symm
   obtain rfl:fn = Tryz.f11 := (jax (Tryz.func11.symm.trans hfn)).symm;exact ⟨qBG,fun j t ht=>by
    rw [Tryz.params11] at ht
    match j,ht with
    | 0,ht =>
     obtain rfl : 24 = t:=by simpa using ht
     exact (show Tryz.prog.wantsStandIn 24 = false by kernel_rfl)
    | 1,ht =>
     obtain rfl : 92 = t:=by simpa using ht
     exact (show Tryz.prog.wantsStandIn 92 = false by kernel_rfl)
    | j + 2,ht=>simp at ht⟩)
  qyP
#print axioms gathers_proved
end Go.Proofs.YtelcnkclppkicaaGreatDoor
