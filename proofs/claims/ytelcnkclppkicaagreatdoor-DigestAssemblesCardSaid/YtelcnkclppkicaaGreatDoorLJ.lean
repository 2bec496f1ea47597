/- The object of any manifest and any pieces, or the error, is that of the document: the call returns true. No condition. -/
import Derived.Test.YtelcnkclppkicaaGreatDoorRows
import Derived.Test.YtelcnkclppkicaaGreatDoorTie
import Derived.Test.YtelcnkclppkicaaGreatDoorCards
import Derived.Test.YtelcnkclppkicaaGreatDoorLC
import Derived.Test.YtelcnkclppkicaaGreatDoorLS
import Derived.Test.YtelcnkclppkicaaGreatDoorG9
import Derived.Test.YtelcnkclppkicaaGreatDoorG7
set_option linter.unusedSimpArgs false
set_option linter.unusedVariables false
namespace Go.Proofs.YtelcnkclppkicaaGreatDoor
open Go Go.Eng Go.Proofs Go.ChangeShapes Go.WideShapes Go.ChangeAt Go.RowKit
set_option maxRecDepth 100000
theorem assembles_lifted (os:Os) (started:os.Started) (H:Type) (enc:TypeId × Value→H) :
  ReturnsInHanded {} Tryz.checked os 3 .any (fun w args=>(Rows.digestAssemblesSpec.pre enc Tryz.prog Tryz.f3 Rows.digestAssemblesRow.domain false w args∧laidMet Tryz.prog Rows.digestAssemblesRow.laid w)∧sizedMet enc Tryz.prog Tryz.f3 (OpenSpec.ofChange Rows.digestAssemblesSpec) false w args)
   (Rows.digestAssemblesSpec.post enc Tryz.prog Tryz.f3 false true false false):=by
 refine returnsInHanded_of_change_and (C:=Tryz.checked) (X:=fun w _=>laidMet Tryz.prog Rows.digestAssemblesRow.laid w) (fun _ _ _ hh h=>h.of_heap hh) own started (by kernel_rfl) Tryz.func3
  (ChangeSpec.witness_at (enc:=enc) (C:=Tryz.checked) (os:=os) (X:=fun w _=>laidMet Tryz.prog Rows.digestAssemblesRow.laid w) false (laidWorld2 os) #[.agg #[.int .i64 0,.int .i64 0,.int .i64 0,.int .i64 0,.slice none 0 0,.int .i64 0,.int .i64 0,.int .i64 0,.int .i64 0,.int .u8 0,.int .u8 0,.int .u8 0,.int .u8 0,.int .u8 0,.int .u8 0,.int .u8 0,.int .u8 0,.int .u8 0,.int .u8 0,.int .u8 0,.int .u8 0,.int .u8 0,.int .u8 0,.int .u8 0,.int .u8 0,.int .u8 0,.int .u8 0,.int .u8 0,.int .u8 0,.int .u8 0,.int .u8 0,.int .u8 0,.int .u8 0,.int .u8 0,.int .u8 0,.int .u8 0,.int .u8 0,.int .u8 0,.int .u8 0,.int .u8 0,.int .u8 0,.slice none 0 0,.slice none 0 0,.slice none 0 0]] 8 rfl (by kernel_rfl) (by kernel_rfl) (by kernel_rfl) (by kernel_rfl) (by kernel_rfl) (laid_met2 os _)) ?_
 intro W base args ds gs before hval0 hW _ hsz hL _
 have hval:∀ (j:Nat) t v,Tryz.f3.params[j]? = some t→args[j]? = some v→Value.okWide Tryz.prog W .any base t v:=hval0
 obtain ⟨⟨gc0,gty0,gfr0,gh0,gl0⟩,gc,gty,gfr,gh,gl⟩:=rounds_two hL
 have hW':=hW
 obtain ⟨p,q,hA0,hV,rfl,hfz,hnd⟩:=hW
 have hA:DataW.TrodAll enc Tryz.prog W 0 (fun _=>true) true Tryz.f3.params.toList args.toList ds p:=hA0
 have hsz':(DataW.weightsEach Tryz.prog (Tryz.f3.params.toList ++ Rows.digestAssemblesSpec.plain.varTypes Tryz.prog) (ds ++ gs)).all (· ≤ reachBytes) = true:=hsz
 rw [Tryz.params3] at hA hval hsz'
 obtain ⟨v0,vs0,d0,ds0,p0,q0,hargs,rfl,rfl,h0,r0⟩:=trodAll_cons hA
 obtain ⟨rfl,rfl,rfl⟩:=trodAll_nil r0
 obtain rfl:args = #[v0]:=by cases args; simp_all
 obtain ⟨k0,k1,k2,k3,mk,mn,mt,ms,row,r0,r1,r2,r3,d0,d1,d2,d3,c0,c1,c2,c3,e0,rl,rb,ma,mb,mc,md,hcase⟩:=open_case (fun _=>rfl) (hval 0 31 v0 rfl rfl) h0 hsz' (j:=0) rfl rfl
 subst e0
 let us:List U:=[{ i:=k0 },{ i:=k1 },{ i:=k2 },{ i:=k3 },{ r:=r0 },{ i:=d0.length },{ i:=c0 },{ i:=mk },{ i:=mn },{ i:=mt },{ i:=ms },{ d:=[row] },{ r:=r1 },{ i:=d1.length },{ i:=c1 },{ r:=r2 },{ i:=d2.length },{ i:=c2 },{ r:=r3 },{ i:=d3.length },{ i:=c3 },{ d:=d0 },{},{ d:=d1 },{},{ d:=d2 },{},{ d:=d3 },{},{ h:=fun b=>W.heap[b]? },{ r:=some ⟨0,0,none⟩ },{ d:=[roundK.map (Value.int .u32)] },{ r:=some ⟨1,0,none⟩ },{ d:=[roundK.map (Value.int .u32)] }]
 refine law_call (c:=lawAssemblesC) (ρ:=fun n=>us.getD n {}) lawAssembles_ok rfl (by simp [lawAssemblesC,caseArg,manT,lawTrue]) laidOut (by rw [Tryz.params3]; intro t ht; simp only [List.mem_cons,List.not_mem_nil,or_false] at ht; subst ht; exact goodCase) rfl rfl Tryz.underlying4 (fun ds' h=>?_) hW' ?_ ?_ ?_ ?_
 ·rw [Tryz.params3] at h
  match ds',h with
  | [_],_=>rfl
 ·intro n
  match n with
  | 0 | 1 | 2 | 3 | 4 | 5 | 6 | 7 | 8 | 9 | 10 | 12 | 13 | 14 | 15 | 16 | 17 | 18 | 19 | 20 | 22 | 24 | 26 | 28 | 29 | 30 | 32=>simp [us,U.good,Value.oneCell']
  | 11=>exact digest_good rb
  | 21=>exact bytes_good ma
  | 23=>exact dgs_good mb
  | 25=>exact pieces_good mc
  | 27=>exact ints_good md
  | 31=>exact rounds_good
  | 33=>exact rounds_good
  | n + 34=>simp [us,U.good,Value.oneCell']
 ·simp [lawAssemblesC,caseArg,manT,bS,iv,SV.den,T.den,denVs,O0.den,O1.den,O3.den,us]
  exact (den_cells (n:=11) rfl rb).symm
 ·simp only [lawAssemblesC,caseArg,manT,bSHp,bHp,caseRo,dgsHp,iHp,pcHp,List.mem_append,List.mem_cons,List.not_mem_nil,or_false,or_assoc]
  intro x hx
  rcases hx with rfl | rfl | rfl | rfl | rfl | rfl | rfl
  ·exact ma
  ·exact mb
  ·exact mc
  ·exact md
  ·exact (fun b o h=>h)
  ·exact rounds_at0 gh0 gl0 rfl rfl
  ·exact rounds_at gh gl rfl rfl
 ·exact ⟨hcase,⟨rfl,rfl⟩,rfl,rfl⟩
theorem assembles_over:Rows.digestAssemblesRow.holds Tryz.pinned (OpenSpec.ofChange Rows.digestAssemblesSpec) :=
 OpenClaim.holds_of_wide 3 Tryz.f3 rfl rfl rfl rfl rfl rfl rfl ⟨rfl,rfl,rfl,rfl,rfl⟩ rfl rfl rfl rfl rfl (by kernel_rfl) Tryz.func3 (facts_of (by kernel_rfl) (by kernel_rfl) (by kernel_rfl) (by kernel_rfl) (by kernel_rfl) (by kernel_rfl) mayEnter_P (lifts_P.trans (by kernel_rfl)) (make_P.trans (by kernel_rfl)) (by kernel_rfl))
  (of_decide_eq_true (by kernel_rfl)) (by unfold Func.isWrapper; first | (rw [if_pos (by decide +kernel)]; kernel_rfl) | (rw [if_neg (by decide +kernel)]; exact ⟨rfl,rfl⟩))
  (fun os started H enc _=>assembles_lifted os started H enc)
theorem assembles_wf:Rows.digestAssemblesRow.wfByText (OpenSpec.ofChange Rows.digestAssemblesSpec) = true:=by kernel_rfl
theorem assembles_goes:false = Rows.digestAssemblesRow.goesBy Tryz.pinned.checked.prog:=by kernel_rfl
theorem assembles_proved:Rows.DigestAssemblesCardSaid :=
 Claim7.holds_tied_plain_at .later [] [.data,.data] true (true, "2696f152e3f098426033aa0dd70b800404442d55c89d31263bcb6b381c23969b") false
  assembles_over (fun _ h=>by cases h) assembles_wf (fun _ h=>by cases h) digestAssembles_row_tie rfl ⟨rfl,rfl⟩ main_P rfl
  (fun f fn hf hfn=>by
   obtain rfl:f = 3 := Option.some.inj ((show Tryz.prog.funcNamed "stolon/stolonlaw02.DigestAssembles" = some 3 by kernel_rfl).symm.trans hf) |>.symm
   obtain rfl:fn = Tryz.f3 := (Option.some.inj (Tryz.func3.symm.trans hfn)).symm
   exact ⟨looks_P,fun j t ht=>by
    rw [Tryz.params3] at ht
    match j,ht with
    | 0,ht =>
     obtain rfl : 31 = t:=by simpa using ht
     exact (show Tryz.prog.wantsStandIn 31 = false by kernel_rfl)
    | j + 1,ht=>simp at ht⟩)
  assembles_goes
#print axioms assembles_proved
end Go.Proofs.YtelcnkclppkicaaGreatDoor
