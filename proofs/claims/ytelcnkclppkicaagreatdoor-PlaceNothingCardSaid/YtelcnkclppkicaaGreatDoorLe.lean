/- Methods of nil objects refuse: the call returns true. No condition. -/
import Derived.Test.YtelcnkclppkicaaGreatDoorRows
import Derived.Test.YtelcnkclppkicaaGreatDoorTie
import Derived.Test.YtelcnkclppkicaaGreatDoorCards
import Derived.Test.YtelcnkclppkicaaGreatDoorLW
import Derived.Test.YtelcnkclppkicaaGreatDoorLR
import Derived.Test.YtelcnkclppkicaaGreatDoorG9
import Derived.Test.YtelcnkclppkicaaGreatDoorG7
set_option linter.unusedSimpArgs false
set_option linter.unusedVariables false
namespace Go.Proofs.YtelcnkclppkicaaGreatDoor
open Go Go.Eng Go.Proofs Go.ChangeShapes Go.WideShapes Go.ChangeAt Go.RowKit
set_option maxRecDepth 100000
theorem qpO (os:Os) (started:os.Started) (H:Type) (enc:TypeId × Value->H) :
  ReturnsInHanded {} Tryz.checked os 15 .any (fun w args=>(Rows.placeNothingSpec.pre enc Tryz.prog Tryz.f15 Rows.placeNothingRow.domain false w args/\laidMet Tryz.prog Rows.placeNothingRow.laid w)/\sizedMet enc Tryz.prog Tryz.f15 (OpenSpec.ofChange Rows.placeNothingSpec) false w args)
   (Rows.placeNothingSpec.post enc Tryz.prog Tryz.f15 false true false false):=by
 refine returnsInHanded_of_change_and (C:=Tryz.checked) (X:=fun w _=>laidMet Tryz.prog Rows.placeNothingRow.laid w) (fun _ _ _ hh h=>h.of_heap hh) own started (by kernel_rfl) Tryz.func15
  (ChangeSpec.witness_at (enc:=enc) (C:=Tryz.checked) (os:=os) (X:=fun w _=>laidMet Tryz.prog Rows.placeNothingRow.laid w) false (qrI os) #[.agg #[.int .u8 0,.int .u8 0,.int .u8 0,.int .u8 0,.int .u8 0,.int .u8 0,.int .u8 0,.int .u8 0,.int .u8 0,.int .u8 0,.int .u8 0,.int .u8 0,.int .u8 0,.int .u8 0,.int .u8 0,.int .u8 0,.int .u8 0,.int .u8 0,.int .u8 0,.int .u8 0,.int .u8 0,.int .u8 0,.int .u8 0,.int .u8 0,.int .u8 0,.int .u8 0,.int .u8 0,.int .u8 0,.int .u8 0,.int .u8 0,.int .u8 0,.int .u8 0],.agg #[.int .i64 0,.int .i64 0,.int .i64 0,.int .i64 0,.int .u8 0,.int .u8 0,.int .u8 0,.int .u8 0,.int .u8 0,.int .u8 0,.int .u8 0,.int .u8 0,.int .u8 0,.int .u8 0,.int .u8 0,.int .u8 0,.int .u8 0,.int .u8 0,.int .u8 0,.int .u8 0,.int .u8 0,.int .u8 0,.int .u8 0,.int .u8 0,.int .u8 0,.int .u8 0,.int .u8 0,.int .u8 0,.int .u8 0,.int .u8 0,.int .u8 0,.int .u8 0,.int .u8 0,.int .u8 0,.int .u8 0,.int .u8 0,.slice none 0 0,.int .i64 0,.slice none 0 0,.int .i64 0]] 8 rfl (by kernel_rfl) (by kernel_rfl) (by kernel_rfl) (by kernel_rfl) (by kernel_rfl) (q2r os _)) ?_
 intro W base args ds gs before hval0 hW _ hsz hL _
 have hval:∀ (j:Nat) t v,Tryz.f15.params[j]? = some t->args[j]? = some v->Value.okWide Tryz.prog W .any base t v:=hval0
 obtain ⟨gc,gty,gfr,gh,gl⟩:=qpC hL
 have hW':=hW
 obtain ⟨p,q,hA0,hV,rfl,hfz,hnd⟩:=hW
 have hA:DataW.TrodAll enc Tryz.prog W 0 (fun _=>true) true Tryz.f15.params.toList args.toList ds p:=hA0
 have hsz':(DataW.weightsEach Tryz.prog (Tryz.f15.params.toList ++ Rows.placeNothingSpec.plain.varTypes Tryz.prog) (ds ++ gs)).all (· <= reachBytes) = true:=hsz
 rw [Tryz.params15] at hA hval hsz'
 obtain ⟨v0,vs0,d0,ds0,p0,q0,hargs,rfl,rfl,h0,r0⟩:=trodAll_cons hA
 obtain ⟨v1,vs1,d1,ds1,p1,q1,rfl,rfl,rfl,h1,r1⟩:=trodAll_cons r0
 obtain ⟨rfl,rfl,rfl⟩:=trodAll_nil r1
 obtain rfl:args = #[v0,v1]:=by cases args; simp_all
 obtain ⟨row0,e0,rl0,rb0⟩:=qwl (hval 0 24 v0 rfl rfl) h0
 subst e0
 obtain ⟨x1,y1,z1,s1,row1,g1,rows1,c1,i1,gp1,dp1,cp1,ix1,e1,wx1,wy1,wz1,ws1,rl1,rb1,lc1,b1,a1,m1,wi1,lp1,bp1,ap1,mp1,wq1⟩:=qxH (fun _=>rfl) (hval 1 96 v1 rfl rfl) h1 hsz' (j:=1) rfl rfl
 subst e1
 let us:List U:=[{ d:=[row0] },{ i:=x1 },{ i:=y1 },{ i:=z1 },{ i:=s1 },{ d:=[row1] },{ r:=g1 },{ i:=rows1.length },{ i:=c1 },{ d:=rows1 },{},{ i:=i1 },{ r:=gp1 },{ i:=dp1.length },{ i:=cp1 },{ d:=dp1 },{},{ i:=ix1 },{ r:=some ⟨1,0,none⟩ },{ d:=[qaE.map (Value.int .u32)] }]
 have hden0:=q5p (n:=0) (ρ:=fun n=>us.getD n {}) (row:=row0) rfl rb0
 refine q4k (c:=qaM) (ρ:=fun n=>us.getD n {}) qst rfl (by simp [qaM,qoY,qfm,bHp,qe1,dgV,qme]) q6a (by rw [Tryz.params15]; intro t ht; simp only [List.mem_cons,List.not_mem_nil,or_false] at ht; rcases ht with rfl | rfl; exact q6r; exact q6h) rfl rfl Tryz.underlying4 (fun ds' h=>?_) hW' ?_ ?_ ?_ ?_
 ·rw [Tryz.params15] at h
  match ds',h with
  | [_,_],_=>rfl
 ·intro n
  match n with
  | 1 | 2 | 3 | 4 | 6 | 7 | 8 | 10 | 11 | 12 | 13 | 14 | 16 | 17 | 18=>simp [us,U.good,Value.oneCell']
  | 0=>exact qmv rb0
  | 5=>exact qmv rb1
  | 9=>exact q2m m1
  | 15=>exact qzI mp1
  | 19=>exact qwu
  | n + 20=>simp [us,U.good,Value.oneCell']
 ·simp only [qaM,List.map_cons,List.map_nil,hden0]
  simp [qaM,qoY,qfm,bHp,qe1,dgV,bS,iv,SV.den,T.den,qb,O0.den,O1.den,O3.den,us,hden0]
  exact (qqW (n:=5) rfl rb1).symm
 ·simp only [qaM,qoY,qfm,bHp,qe1,dgV,q8j,bHp,qdj,List.mem_append,List.mem_cons,List.not_mem_nil,or_false,or_assoc]
  intro x hx
  rcases hx with rfl | rfl | rfl
  ·exact m1
  ·exact mp1
  ·exact q1T gh gl rfl rfl
 ·exact ⟨rfl,rfl,rfl,rfl⟩
theorem qtB:Rows.placeNothingRow.holds Tryz.pinned (OpenSpec.ofChange Rows.placeNothingSpec) :=
 OpenClaim.holds_of_wide 15 Tryz.f15 rfl rfl rfl rfl rfl rfl rfl ⟨rfl,rfl,rfl,rfl,rfl⟩ rfl rfl rfl rfl rfl (by kernel_rfl) Tryz.func15 (q2Z (by kernel_rfl) (by kernel_rfl) (by kernel_rfl) (by kernel_rfl) (by kernel_rfl) (by kernel_rfl) qxo (q6d.trans (by kernel_rfl)) (q6t.trans (by kernel_rfl)) (by kernel_rfl))
  (of_decide_eq_true (by kernel_rfl)) (by unfold Func.isWrapper; first | (rw [if_pos (by decide +kernel)]; kernel_rfl) | (rw [if_neg (by decide +kernel)]; exact ⟨rfl,rfl⟩))
  (fun os started H enc _=>qpO os started H enc)
theorem qzC:Rows.placeNothingRow.wfByText (OpenSpec.ofChange Rows.placeNothingSpec) = true:=by kernel_rfl
theorem qsE:false = Rows.placeNothingRow.goesBy Tryz.pinned.checked.prog:=by kernel_rfl
theorem nothing_proved:Rows.PlaceNothingCardSaid :=
 Claim7.holds_tied_plain_at .later [] [.data] true (true, "2696f152e3f098426033aa0dd70b800404442d55c89d31263bcb6b381c23969b") false
  qtB (fun _ h=>by cases h) qzC (fun _ h=>by cases h) placeNothing_row_tie rfl ⟨rfl,rfl⟩ q6y rfl
  (fun f fn hf hfn=>by
   obtain rfl:f = 15 := Option.some.inj ((show Tryz.prog.funcNamed "stolon/stolonlaw07.PlaceNothing" = some 15 by kernel_rfl).symm.trans hf) |>.symm
   obtain rfl:fn = Tryz.f15 := (Option.some.inj (Tryz.func15.symm.trans hfn)).symm
   exact ⟨q5K,fun j t ht=>by
    rw [Tryz.params15] at ht
    match j,ht with
    | 0,ht =>
     obtain rfl : 24 = t:=by simpa using ht
     exact (show Tryz.prog.wantsStandIn 24 = false by kernel_rfl)
    | 1,ht =>
     obtain rfl : 96 = t:=by simpa using ht
     exact (show Tryz.prog.wantsStandIn 96 = false by kernel_rfl)
    | j + 2,ht=>simp at ht⟩)
  qsE
#print axioms nothing_proved
end Go.Proofs.YtelcnkclppkicaaGreatDoor
