/- What a caller writes into a manifest, its bytes or pieces changes no later result: the call returns true. No condition. -/
import Derived.Test.YtelcnkclppkicaaDoorRows
import Derived.Test.YtelcnkclppkicaaDoorTie
import Derived.Test.YtelcnkclppkicaaDoorCards
import Derived.Test.YtelcnkclppkicaaDoorLC
import Derived.Test.YtelcnkclppkicaaDoorLR
import Derived.Test.YtelcnkclppkicaaDoorG8
import Derived.Test.YtelcnkclppkicaaDoorG7
set_option linter.unusedSimpArgs false
set_option linter.unusedVariables false
namespace Go.Proofs.YtelcnkclppkicaaDoor
open Go Go.Eng Go.Proofs Go.ChangeShapes Go.WideShapes Go.ChangeAt Go.RowKit
set_option maxRecDepth 100000
theorem memory_lifted (os:Os) (started:os.Started) (H:Type) (enc:TypeId × Value→H) :
  ReturnsInHanded {} Tryd.checked os 4 .any (fun w args=>(Rows.digestMemorySpec.pre enc Tryd.prog Tryd.f4 Rows.digestMemoryRow.domain false w args∧laidMet Tryd.prog Rows.digestMemoryRow.laid w)∧sizedMet enc Tryd.prog Tryd.f4 (OpenSpec.ofChange Rows.digestMemorySpec) false w args)
   (Rows.digestMemorySpec.post enc Tryd.prog Tryd.f4 false true false false):=by
 refine returnsInHanded_of_change_and (C:=Tryd.checked) (X:=fun w _=>laidMet Tryd.prog Rows.digestMemoryRow.laid w) (fun _ _ _ hh h=>h.of_heap hh) own started (by kernel_rfl) Tryd.func4
  (ChangeSpec.witness_at (enc:=enc) (C:=Tryd.checked) (os:=os) (X:=fun w _=>laidMet Tryd.prog Rows.digestMemoryRow.laid w) false (laidWorld os) #[.agg #[.int .i64 0,.int .i64 0,.int .i64 0,.int .i64 0,.slice none 0 0,.int .i64 0,.int .i64 0,.int .i64 0,.int .i64 0,.int .u8 0,.int .u8 0,.int .u8 0,.int .u8 0,.int .u8 0,.int .u8 0,.int .u8 0,.int .u8 0,.int .u8 0,.int .u8 0,.int .u8 0,.int .u8 0,.int .u8 0,.int .u8 0,.int .u8 0,.int .u8 0,.int .u8 0,.int .u8 0,.int .u8 0,.int .u8 0,.int .u8 0,.int .u8 0,.int .u8 0,.int .u8 0,.int .u8 0,.int .u8 0,.int .u8 0,.int .u8 0,.int .u8 0,.int .u8 0,.int .u8 0,.int .u8 0,.slice none 0 0,.slice none 0 0,.slice none 0 0]] 8 rfl (by kernel_rfl) (by kernel_rfl) (by kernel_rfl) (by kernel_rfl) (by kernel_rfl) (laid_met os _)) ?_
 intro W base args ds gs before hval0 hW _ hsz hL _
 have hval:∀ (j:Nat) t v,Tryd.f4.params[j]? = some t→args[j]? = some v→Value.okWide Tryd.prog W .any base t v:=hval0
 obtain ⟨gc,gty,gfr,gh,gl⟩:=rounds_of_laid hL
 have hW':=hW
 obtain ⟨p,q,hA0,hV,rfl,hfz,hnd⟩:=hW
 have hA:DataW.TrodAll enc Tryd.prog W 0 (fun _=>true) true Tryd.f4.params.toList args.toList ds p:=hA0
 have hsz':(DataW.weightsEach Tryd.prog (Tryd.f4.params.toList ++ Rows.digestMemorySpec.plain.varTypes Tryd.prog) (ds ++ gs)).all (· ≤ reachBytes) = true:=hsz
 rw [Tryd.params4] at hA hval hsz'
 obtain ⟨v0,vs0,d0,ds0,p0,q0,hargs,rfl,rfl,h0,r0⟩:=trodAll_cons hA
 obtain ⟨rfl,rfl,rfl⟩:=trodAll_nil r0
 obtain rfl:args = #[v0]:=by cases args; simp_all
 obtain ⟨k0,k1,k2,k3,mk,mn,mt,ms,row,r0,r1,r2,r3,d0,d1,d2,d3,c0,c1,c2,c3,e0,rl,rb,ma,mb,mc,md,hcase⟩:=open_case (fun _=>rfl) (hval 0 31 v0 rfl rfl) h0 hsz' (j:=0) rfl rfl
 subst e0
 let us:List U:=[{ i:=k0 },{ i:=k1 },{ i:=k2 },{ i:=k3 },{ r:=r0 },{ i:=d0.length },{ i:=c0 },{ i:=mk },{ i:=mn },{ i:=mt },{ i:=ms },{ d:=[row] },{ r:=r1 },{ i:=d1.length },{ i:=c1 },{ r:=r2 },{ i:=d2.length },{ i:=c2 },{ r:=r3 },{ i:=d3.length },{ i:=c3 },{ d:=d0 },{},{ d:=d1 },{},{ d:=d2 },{},{ d:=d3 },{},{ h:=fun b=>W.heap[b]? },{ r:=some ⟨1,0,none⟩ },{ d:=[roundK.map (Value.int .u32)] }]
 refine law_call (c:=lawMemoryC) (ρ:=fun n=>us.getD n {}) lawMemory_ok rfl (by simp [lawMemoryC,caseArg,manT,lawTrue]) laidOut (by rw [Tryd.params4]; intro t ht; simp only [List.mem_cons,List.not_mem_nil,or_false] at ht; subst ht; exact goodCase) rfl rfl Tryd.underlying4 (fun ds' h=>?_) hW' ?_ ?_ ?_ ?_
 ·rw [Tryd.params4] at h
  match ds',h with
  | [_],_=>rfl
 ·intro n
  match n with
  | 0 | 1 | 2 | 3 | 4 | 5 | 6 | 7 | 8 | 9 | 10 | 12 | 13 | 14 | 15 | 16 | 17 | 18 | 19 | 20 | 22 | 24 | 26 | 28 | 29 | 30=>simp [us,U.good,Value.oneCell']
  | 11=>exact digest_good rb
  | 21=>exact bytes_good ma
  | 23=>exact dgs_good mb
  | 25=>exact pieces_good mc
  | 27=>exact ints_good md
  | 31=>exact rounds_good
  | n + 32=>simp [us,U.good,Value.oneCell']
 ·simp [lawMemoryC,caseArg,manT,bS,iv,SV.den,T.den,denVs,O0.den,O1.den,O3.den,us]
  exact (den_cells (n:=11) rfl rb).symm
 ·simp only [lawMemoryC,caseArg,manT,bSHp,bHp,caseRo,dgsHp,iHp,pcHp,List.mem_append,List.mem_cons,List.not_mem_nil,or_false,or_assoc]
  intro x hx
  rcases hx with rfl | rfl | rfl | rfl | rfl | rfl
  ·exact ma
  ·exact mb
  ·exact mc
  ·exact md
  ·exact (fun b o h=>h)
  ·exact rounds_at gh gl rfl rfl
 ·exact ⟨hcase,rfl,rfl⟩
theorem memory_over:Rows.digestMemoryRow.holds Tryd.pinned (OpenSpec.ofChange Rows.digestMemorySpec) :=
 OpenClaim.holds_of_wide 4 Tryd.f4 rfl rfl rfl rfl rfl rfl rfl ⟨rfl,rfl,rfl,rfl,rfl⟩ rfl rfl rfl rfl rfl (by kernel_rfl) Tryd.func4 (facts_of (by kernel_rfl) (by kernel_rfl) (by kernel_rfl) (by kernel_rfl) (by kernel_rfl) (by kernel_rfl) mayEnter_P (lifts_P.trans (by kernel_rfl)) (make_P.trans (by kernel_rfl)) (by kernel_rfl))
  (of_decide_eq_true (by kernel_rfl)) (by unfold Func.isWrapper; first | (rw [if_pos (by decide +kernel)]; kernel_rfl) | (rw [if_neg (by decide +kernel)]; exact ⟨rfl,rfl⟩))
  (fun os started H enc _=>memory_lifted os started H enc)
theorem memory_wf:Rows.digestMemoryRow.wfByText (OpenSpec.ofChange Rows.digestMemorySpec) = true:=by kernel_rfl
theorem memory_goes:false = Rows.digestMemoryRow.goesBy Tryd.pinned.checked.prog:=by kernel_rfl
theorem memory_proved:Rows.DigestMemoryCardSaid :=
 Claim7.holds_tied_plain_at .later [] [.data] true (true, "8150288177cfe74915bae05b1ce9d1b4f650579f78b4109e5355018fd4f6f47e") false
  memory_over (fun _ h=>by cases h) memory_wf (fun _ h=>by cases h) digestMemory_row_tie rfl ⟨rfl,rfl⟩ main_P rfl
  (fun f fn hf hfn=>by
   obtain rfl:f = 4 := Option.some.inj ((show Tryd.prog.funcNamed "stolon/stolonlaw02.DigestMemory" = some 4 by kernel_rfl).symm.trans hf) |>.symm
   obtain rfl:fn = Tryd.f4 := (Option.some.inj (Tryd.func4.symm.trans hfn)).symm
   exact ⟨looks_P,fun j t ht=>by
    rw [Tryd.params4] at ht
    match j,ht with
    | 0,ht =>
     obtain rfl : 31 = t:=by simpa using ht
     exact (show Tryd.prog.wantsStandIn 31 = false by kernel_rfl)
    | j + 1,ht=>simp at ht⟩)
  memory_goes
#print axioms memory_proved
end Go.Proofs.YtelcnkclppkicaaDoor
