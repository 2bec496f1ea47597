/- When a peer leaves the live list, all others that were qdV stay qdV, and at most one is added; when it joins again, it is as before: the call returns true. No condition. -/
import Derived.Test.YtelcnkclppkicaaGreatDoorRows
import Derived.Test.YtelcnkclppkicaaGreatDoorTie
import Derived.Test.YtelcnkclppkicaaGreatDoorCards
import Derived.Test.YtelcnkclppkicaaGreatDoorLU
import Derived.Test.YtelcnkclppkicaaGreatDoorLR
import Derived.Test.YtelcnkclppkicaaGreatDoorG9
import Derived.Test.YtelcnkclppkicaaGreatDoorG7
set_option linter.unusedSimpArgs false
set_option linter.unusedVariables false
namespace Go.Proofs.YtelcnkclppkicaaGreatDoor
open Go Go.Eng Go.Proofs Go.ChangeShapes Go.WideShapes Go.ChangeAt Go.RowKit
set_option maxRecDepth 100000
theorem qpF (os:Os) (started:os.Started) (H:Type) (enc:TypeId × Value->H) :
  ReturnsInHanded {} Tryz.checked os 6 .any (fun w args=>(Rows.placeMinimalSpec.pre enc Tryz.prog Tryz.f6 Rows.placeMinimalRow.domain false w args/\laidMet Tryz.prog Rows.placeMinimalRow.laid w)/\sizedMet enc Tryz.prog Tryz.f6 (OpenSpec.ofChange Rows.placeMinimalSpec) false w args)
   (Rows.placeMinimalSpec.post enc Tryz.prog Tryz.f6 false true false false):=by
 refine returnsInHanded_of_change_and (C:=Tryz.checked) (X:=fun w _=>laidMet Tryz.prog Rows.placeMinimalRow.laid w) (fun _ _ _ hh h=>h.of_heap hh) own started (by kernel_rfl) Tryz.func6
  (ChangeSpec.witness_at (enc:=enc) (C:=Tryz.checked) (os:=os) (X:=fun w _=>laidMet Tryz.prog Rows.placeMinimalRow.laid w) false (qrs os) #[.agg #[.int .u8 0,.int .u8 0,.int .u8 0,.int .u8 0,.int .u8 0,.int .u8 0,.int .u8 0,.int .u8 0,.int .u8 0,.int .u8 0,.int .u8 0,.int .u8 0,.int .u8 0,.int .u8 0,.int .u8 0,.int .u8 0,.int .u8 0,.int .u8 0,.int .u8 0,.int .u8 0,.int .u8 0,.int .u8 0,.int .u8 0,.int .u8 0,.int .u8 0,.int .u8 0,.int .u8 0,.int .u8 0,.int .u8 0,.int .u8 0,.int .u8 0,.int .u8 0,.slice none 0 0,.int .i64 0,.int .i64 0]] 8 rfl (by kernel_rfl) (by kernel_rfl) (by kernel_rfl) (by kernel_rfl) (by kernel_rfl) (q1W os _)) ?_
 intro W base args ds gs before hval0 hW _ hsz hL _
 have hval:∀ (j:Nat) t v,Tryz.f6.params[j]? = some t->args[j]? = some v->Value.okWide Tryz.prog W .any base t v:=hval0
 obtain ⟨gc,gty,gfr,gh,gl⟩:=qpo hL
 have hW':=hW
 obtain ⟨p,q,hA0,hV,rfl,hfz,hnd⟩:=hW
 have hA:DataW.TrodAll enc Tryz.prog W 0 (fun _=>true) true Tryz.f6.params.toList args.toList ds p:=hA0
 have hsz':(DataW.weightsEach Tryz.prog (Tryz.f6.params.toList ++ Rows.placeMinimalSpec.plain.varTypes Tryz.prog) (ds ++ gs)).all (· <= reachBytes) = true:=hsz
 rw [Tryz.params6] at hA hval hsz'
 obtain ⟨v0,vs0,d0,ds0,p0,q0,hargs,rfl,rfl,h0,r0⟩:=trodAll_cons hA
 obtain ⟨rfl,rfl,rfl⟩:=trodAll_nil r0
 obtain rfl:args = #[v0]:=by cases args; simp_all
 obtain ⟨row,r1,d1,c1,k2,k3,e0,rl,rb,lc1,m1,b1,w2,w3⟩:=q5t (fun _=>rfl) (hval 0 49 v0 rfl rfl) h0 hsz' (j:=0) rfl rfl
 subst e0
 let us:List U:=[{ d:=[row] },{ r:=r1 },{ i:=d1.length },{ i:=c1 },{ d:=d1 },{},{ i:=k2 },{ i:=k3 },{ r:=some ⟨1,0,none⟩ },{ d:=[qaK.map (Value.int .u32)] }]
 refine q3N (c:=qbh) (ρ:=fun n=>us.getD n {}) qrY rfl (by simp [qbh,qlx,qmd]) q4O (by rw [Tryz.params6]; intro t ht; simp only [List.mem_cons,List.not_mem_nil,or_false] at ht; subst ht; exact q6h) rfl rfl Tryz.underlying4 (fun ds' h=>?_) hW' ?_ ?_ ?_ ?_
 ·rw [Tryz.params6] at h
  match ds',h with
  | [_],_=>rfl
 ·intro n
  match n with
  | 1 | 2 | 3 | 5 | 6 | 7 | 8=>simp [us,U.good,Value.oneCell']
  | 0=>exact qvN rb
  | 4=>exact q1f m1
  | 9=>exact qvB
  | n + 10=>simp [us,U.good,Value.oneCell']
 ·simp [qbh,qlx,bS,iv,SV.den,T.den,qb,O0.den,O1.den,O3.den,us]
  exact (q1L (n:=0) rfl rb).symm
 ·simp only [qbh,qlx,q7Y,bHp,qcf,iHp,List.mem_append,List.mem_cons,List.not_mem_nil,or_false,or_assoc]
  intro x hx
  rcases hx with rfl | rfl
  ·exact m1
  ·exact q1s gh gl rfl rfl
 ·exact ⟨q1H rb,⟨rfl,b1,q3h m1⟩,rfl,rfl⟩
theorem quF:Rows.placeMinimalRow.holds Tryz.pinned (OpenSpec.ofChange Rows.placeMinimalSpec) :=
 OpenClaim.holds_of_wide 6 Tryz.f6 rfl rfl rfl rfl rfl rfl rfl ⟨rfl,rfl,rfl,rfl,rfl⟩ rfl rfl rfl rfl rfl (by kernel_rfl) Tryz.func6 (q2c (by kernel_rfl) (by kernel_rfl) (by kernel_rfl) (by kernel_rfl) (by kernel_rfl) (by kernel_rfl) qy7 (q5L.trans (by kernel_rfl)) (q6g.trans (by kernel_rfl)) (by kernel_rfl))
  (of_decide_eq_true (by kernel_rfl)) (by unfold Func.isWrapper; first | (rw [if_pos (by decide +kernel)]; kernel_rfl) | (rw [if_neg (by decide +kernel)]; exact ⟨rfl,rfl⟩))
  (fun os started H enc _=>qpF os started H enc)
theorem qy2:Rows.placeMinimalRow.wfByText (OpenSpec.ofChange Rows.placeMinimalSpec) = true:=by kernel_rfl
theorem qsR:false = Rows.placeMinimalRow.goesBy Tryz.pinned.checked.prog:=by kernel_rfl
theorem minimal_proved:Rows.PlaceMinimalCardSaid :=
 Claim7.holds_tied_plain_at .later [] [.data] true (true, "2696f152e3f098426033aa0dd70b800404442d55c89d31263bcb6b381c23969b") false
  quF (fun _ h=>by cases h) qy2 (fun _ h=>by cases h) placeMinimal_row_tie rfl ⟨rfl,rfl⟩ q5W rfl
  (fun f fn hf hfn=>by
   obtain rfl:f = 6 := Option.some.inj ((show Tryz.prog.funcNamed "stolon/stolonlaw07.PlaceMinimal" = some 6 by kernel_rfl).symm.trans hf) |>.symm
   obtain rfl:fn = Tryz.f6 := (Option.some.inj (Tryz.func6.symm.trans hfn)).symm
   exact ⟨q4P,fun j t ht=>by
    rw [Tryz.params6] at ht
    match j,ht with
    | 0,ht =>
     obtain rfl : 49 = t:=by simpa using ht
     exact (show Tryz.prog.wantsStandIn 49 = false by kernel_rfl)
    | j + 1,ht=>simp at ht⟩)
  qsR
#print axioms minimal_proved
end Go.Proofs.YtelcnkclppkicaaGreatDoor
