/- The qhb peers, the duty, the sources, and whether a peer is covered, for any numbers in any lists, are those of the document, and the lists are not changed: the call returns true. No condition. -/
import Derived.Test.YtelcnkclppkicaaGreatDoorRows
import Derived.Test.YtelcnkclppkicaaGreatDoorTie
import Derived.Test.YtelcnkclppkicaaGreatDoorCards
import Derived.Test.YtelcnkclppkicaaGreatDoorLT
import Derived.Test.YtelcnkclppkicaaGreatDoorLS
import Derived.Test.YtelcnkclppkicaaGreatDoorG10
import Derived.Test.YtelcnkclppkicaaGreatDoorG7
set_option linter.unusedSimpArgs false
set_option linter.unusedVariables false
namespace Go.Proofs.YtelcnkclppkicaaGreatDoor
open Go Go.Eng Go.Proofs Go.ChangeShapes Go.WideShapes Go.ChangeAt Go.RowKit
set_option maxRecDepth 100000
theorem qsS (os:Os) (started:os.Started) (H:Type) (enc:TypeId × Value->H) :
  ReturnsInHanded {} Tryz.checked os 9 .any (fun w args=>(Rows.placeDutiesSpec.pre enc Tryz.prog Tryz.f9 Rows.placeDutiesRow.domain false w args/\laidMet Tryz.prog Rows.placeDutiesRow.laid w)/\sizedMet enc Tryz.prog Tryz.f9 (OpenSpec.ofChange Rows.placeDutiesSpec) false w args)
   (Rows.placeDutiesSpec.post enc Tryz.prog Tryz.f9 false true false false):=by
 refine returnsInHanded_of_change_and (C:=Tryz.checked) (X:=fun w _=>laidMet Tryz.prog Rows.placeDutiesRow.laid w) (fun _ _ _ hh h=>h.of_heap hh) own started (by kernel_rfl) Tryz.func9
  (ChangeSpec.witness_at (enc:=enc) (C:=Tryz.checked) (os:=os) (X:=fun w _=>laidMet Tryz.prog Rows.placeDutiesRow.laid w) false (qpc os) #[.agg #[.int .u8 0,.int .u8 0,.int .u8 0,.int .u8 0,.int .u8 0,.int .u8 0,.int .u8 0,.int .u8 0,.int .u8 0,.int .u8 0,.int .u8 0,.int .u8 0,.int .u8 0,.int .u8 0,.int .u8 0,.int .u8 0,.int .u8 0,.int .u8 0,.int .u8 0,.int .u8 0,.int .u8 0,.int .u8 0,.int .u8 0,.int .u8 0,.int .u8 0,.int .u8 0,.int .u8 0,.int .u8 0,.int .u8 0,.int .u8 0,.int .u8 0,.int .u8 0,.int .i64 0,.int .i64 0,.slice none 0 0,.slice none 0 0,.bool false,.bool false]] 8 rfl (by kernel_rfl) (by kernel_rfl) (by kernel_rfl) (by kernel_rfl) (by kernel_rfl) (q3i os _)) ?_
 intro W base args ds gs before hval0 hW _ hsz hL _
 have hval:∀ (j:Nat) t v,Tryz.f9.params[j]? = some t->args[j]? = some v->Value.okWide Tryz.prog W .any base t v:=hval0
 obtain ⟨⟨gc0,gty0,gfr0,gh0,gl0⟩,gc,gty,gfr,gh,gl⟩:=q0p hL
 have hW':=hW
 obtain ⟨p,q,hA0,hV,rfl,hfz,hnd⟩:=hW
 have hA:DataW.TrodAll enc Tryz.prog W 0 (fun _=>true) true Tryz.f9.params.toList args.toList ds p:=hA0
 have hsz':(DataW.weightsEach Tryz.prog (Tryz.f9.params.toList ++ Rows.placeDutiesSpec.plain.varTypes Tryz.prog) (ds ++ gs)).all (· <= reachBytes) = true:=hsz
 rw [Tryz.params9] at hA hval hsz'
 obtain ⟨v0,vs0,d0,ds0,p0,q0,hargs,rfl,rfl,h0,r0⟩:=trodAll_cons hA
 obtain ⟨rfl,rfl,rfl⟩:=trodAll_nil r0
 obtain rfl:args = #[v0]:=by cases args; simp_all
 obtain ⟨row,k1,k2,r3,d3,c3,r4,d4,c4,k5,k6,e0,rl,rb,w1,w2,lc3,m3,b3,lc4,m4,b4⟩:=q6Z (fun _=>rfl) (hval 0 72 v0 rfl rfl) h0 hsz' (j:=0) rfl rfl
 subst e0
 let us:List U:=[{ d:=[row] },{ i:=k1 },{ i:=k2 },{ r:=r3 },{ i:=d3.length },{ i:=c3 },{ d:=d3 },{},{ r:=r4 },{ i:=d4.length },{ i:=c4 },{ d:=d4 },{},{ b:=k5 },{ b:=k6 },{ r:=some ⟨0,0,none⟩ },{ d:=[qL.map (Value.int .u32)] },{ r:=some ⟨1,0,none⟩ },{ d:=[qL.map (Value.int .u32)] }]
 refine q5f (c:=qbG) (ρ:=fun n=>us.getD n {}) qvr rfl (by simp [qbG,qlr,qri]) q7C (by rw [Tryz.params9]; intro t ht; simp only [List.mem_cons,List.not_mem_nil,or_false] at ht; subst ht; exact q9a) rfl rfl Tryz.underlying4 (fun ds' h=>?_) hW' ?_ ?_ ?_ ?_
 ·rw [Tryz.params9] at h
  match ds',h with
  | [_],_=>rfl
 ·intro n
  match n with
  | 1 | 2 | 3 | 4 | 5 | 7 | 8 | 9 | 10 | 12 | 13 | 14 | 15 | 17=>simp [us,U.good,Value.oneCell']
  | 0=>exact qxJ rb
  | 6=>exact qst m3
  | 11=>exact qst m4
  | 16=>exact qnt
  | 18=>exact qnt
  | n + 19=>simp [us,U.good,Value.oneCell']
 ·simp [qbG,qlr,bS,iv,SV.den,T.den,qb,O0.den,O1.den,O3.den,us]
  exact (q13 (n:=0) rfl rb).symm
 ·simp only [qbG,qlr,q6g,bHp,qaK,iHp,List.mem_append,List.mem_cons,List.not_mem_nil,or_false,or_assoc]
  intro x hx
  rcases hx with rfl | rfl | rfl | rfl
  ·exact m3
  ·exact m4
  ·exact qzO gh0 gl0 rfl rfl
  ·exact q2y gh gl rfl rfl
 ·exact ⟨q3y rb,⟨rfl,b3,qv4 m3⟩,⟨rfl,b4,qv4 m4⟩,⟨rfl,rfl⟩,rfl,rfl⟩
theorem qwF:Rows.placeDutiesRow.holds Tryz.pinned (OpenSpec.ofChange Rows.placeDutiesSpec) :=
 OpenClaim.holds_of_wide 9 Tryz.f9 rfl rfl rfl rfl rfl rfl rfl ⟨rfl,rfl,rfl,rfl,rfl⟩ rfl rfl rfl rfl rfl (by kernel_rfl) Tryz.func9 (q5U (by kernel_rfl) (by kernel_rfl) (by kernel_rfl) (by kernel_rfl) (by kernel_rfl) (by kernel_rfl) q0t (q7N.trans (by kernel_rfl)) (q8a.trans (by kernel_rfl)) (by kernel_rfl))
  (of_decide_eq_true (by kernel_rfl)) (by unfold Func.isWrapper; first | (rw [if_pos (by decide +kernel)]; kernel_rfl) | (rw [if_neg (by decide +kernel)]; exact ⟨rfl,rfl⟩))
  (fun os started H enc _=>qsS os started H enc)
theorem q2I:Rows.placeDutiesRow.wfByText (OpenSpec.ofChange Rows.placeDutiesSpec) = true:=by kernel_rfl
theorem qxE:false = Rows.placeDutiesRow.goesBy Tryz.pinned.checked.prog:=by kernel_rfl
theorem duties_proved:Rows.PlaceDutiesCardSaid :=
 Claim7.holds_tied_plain_at .later [] [.data,.data] true (true, "2696f152e3f098426033aa0dd70b800404442d55c89d31263bcb6b381c23969b") false
  qwF (fun _ h=>by cases h) q2I (fun _ h=>by cases h) placeDuties_row_tie rfl ⟨rfl,rfl⟩ q89 rfl
  (fun f fn hf hfn=>by
   obtain rfl:f = 9 := Option.some.inj ((show Tryz.prog.funcNamed "stolon/stolonlaw07.PlaceDuties" = some 9 by kernel_rfl).symm.trans hf) |>.symm
   obtain rfl:fn = Tryz.f9 := (Option.some.inj (Tryz.func9.symm.trans hfn)).symm
   exact ⟨q6Y,fun j t ht=>by
    rw [Tryz.params9] at ht
    match j,ht with
    | 0,ht =>
     obtain rfl : 72 = t:=by simpa using ht
     exact (show Tryz.prog.wantsStandIn 72 = false by kernel_rfl)
    | j + 1,ht=>simp at ht⟩)
  qxE
#print axioms duties_proved
end Go.Proofs.YtelcnkclppkicaaGreatDoor
