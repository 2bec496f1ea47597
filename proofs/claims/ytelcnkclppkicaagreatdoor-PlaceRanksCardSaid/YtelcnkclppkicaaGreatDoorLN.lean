/- The score of any peer, which of two peers has the better rank, and the ranking of any number of peers, are those of the document: the call returns true. No condition. -/
import Derived.Test.YtelcnkclppkicaaGreatDoorRows
import Derived.Test.YtelcnkclppkicaaGreatDoorTie
import Derived.Test.YtelcnkclppkicaaGreatDoorCards
import Derived.Test.YtelcnkclppkicaaGreatDoorLD
import Derived.Test.YtelcnkclppkicaaGreatDoorLS
import Derived.Test.YtelcnkclppkicaaGreatDoorG10
import Derived.Test.YtelcnkclppkicaaGreatDoorG7
set_option linter.unusedSimpArgs false
set_option linter.unusedVariables false
namespace Go.Proofs.YtelcnkclppkicaaGreatDoor
open Go Go.Eng Go.Proofs Go.ChangeShapes Go.WideShapes Go.ChangeAt Go.RowKit
set_option maxRecDepth 100000
theorem ranks_lifted (os:Os) (started:os.Started) (H:Type) (enc:TypeId × Value→H) :
  ReturnsInHanded {} Tryz.checked os 4 .any (fun w args=>(Rows.placeRanksSpec.pre enc Tryz.prog Tryz.f4 Rows.placeRanksRow.domain false w args∧laidMet Tryz.prog Rows.placeRanksRow.laid w)∧sizedMet enc Tryz.prog Tryz.f4 (OpenSpec.ofChange Rows.placeRanksSpec) false w args)
   (Rows.placeRanksSpec.post enc Tryz.prog Tryz.f4 false true false false):=by
 refine returnsInHanded_of_change_and (C:=Tryz.checked) (X:=fun w _=>laidMet Tryz.prog Rows.placeRanksRow.laid w) (fun _ _ _ hh h=>h.of_heap hh) own started (by kernel_rfl) Tryz.func4
  (ChangeSpec.witness_at (enc:=enc) (C:=Tryz.checked) (os:=os) (X:=fun w _=>laidMet Tryz.prog Rows.placeRanksRow.laid w) false (laidWorld2 os) #[.agg #[.int .u8 0,.int .u8 0,.int .u8 0,.int .u8 0,.int .u8 0,.int .u8 0,.int .u8 0,.int .u8 0,.int .u8 0,.int .u8 0,.int .u8 0,.int .u8 0,.int .u8 0,.int .u8 0,.int .u8 0,.int .u8 0,.int .u8 0,.int .u8 0,.int .u8 0,.int .u8 0,.int .u8 0,.int .u8 0,.int .u8 0,.int .u8 0,.int .u8 0,.int .u8 0,.int .u8 0,.int .u8 0,.int .u8 0,.int .u8 0,.int .u8 0,.int .u8 0],.int .i64 0,.int .i64 0] 8 rfl (by kernel_rfl) (by kernel_rfl) (by kernel_rfl) (by kernel_rfl) (by kernel_rfl) (laid_met2 os _)) ?_
 intro W base args ds gs before hval0 hW _ hsz hL _
 have hval:∀ (j:Nat) t v,Tryz.f4.params[j]? = some t→args[j]? = some v→Value.okWide Tryz.prog W .any base t v:=hval0
 obtain ⟨⟨gc0,gty0,gfr0,gh0,gl0⟩,gc,gty,gfr,gh,gl⟩:=rounds_two hL
 have hW':=hW
 obtain ⟨p,q,hA0,hV,rfl,hfz,hnd⟩:=hW
 have hA:DataW.TrodAll enc Tryz.prog W 0 (fun _=>true) true Tryz.f4.params.toList args.toList ds p:=hA0
 have hsz':(DataW.weightsEach Tryz.prog (Tryz.f4.params.toList ++ Rows.placeRanksSpec.plain.varTypes Tryz.prog) (ds ++ gs)).all (· ≤ reachBytes) = true:=hsz
 rw [Tryz.params4] at hA hval hsz'
 obtain ⟨v0,vs0,d0,ds0,p0,q0,hargs,rfl,rfl,h0,r0⟩:=trodAll_cons hA
 obtain ⟨v1,vs1,d1,ds1,p1,q1,rfl,rfl,rfl,h1,r1⟩:=trodAll_cons r0
 obtain ⟨v2,vs2,d2,ds2,p2,q2,rfl,rfl,rfl,h2,r2⟩:=trodAll_cons r1
 obtain ⟨rfl,rfl,rfl⟩:=trodAll_nil r2
 obtain rfl:args = #[v0,v1,v2]:=by cases args; simp_all
 obtain ⟨row0,e0,rl0,rb0⟩:=open_digest (hval 0 24 v0 rfl rfl) h0
 subst e0
 obtain ⟨z1,rfl,_,_,w1⟩:=open_int Tryz.underlying3 (hval 1 3 v1 rfl rfl) h1
 have w1:=wf_i64 w1
 obtain ⟨z2,rfl,_,_,w2⟩:=open_int Tryz.underlying3 (hval 2 3 v2 rfl rfl) h2
 have w2:=wf_i64 w2
 let us:List U:=[{ d:=[row0] },{ i:=z1 },{ i:=z2 },{ r:=some ⟨0,0,none⟩ },{ d:=[roundK.map (Value.int .u32)] },{ r:=some ⟨1,0,none⟩ },{ d:=[roundK.map (Value.int .u32)] }]
 have hden0:=den_dgV (n:=0) (ρ:=fun n=>us.getD n {}) (row:=row0) rfl rb0
 refine law_call (c:=lawRanksC) (ρ:=fun n=>us.getD n {}) lawRanks_ok rfl (by simp [lawRanksC,lawTrue]) laidOut (by rw [Tryz.params4]; intro t ht; simp only [List.mem_cons,List.not_mem_nil,or_false] at ht; rcases ht with rfl | rfl | rfl; exact goodDg; exact good3; exact good3) rfl rfl Tryz.underlying4 (fun ds' h=>?_) hW' ?_ ?_ ?_ ?_
 ·rw [Tryz.params4] at h
  match ds',h with
  | [_,_,_],_=>rfl
 ·intro n
  match n with
  | 1 | 2 | 3 | 5=>simp [us,U.good,Value.oneCell']
  | 0=>exact digest_good rb0
  | 4=>exact rounds_good
  | 6=>exact rounds_good
  | n + 7=>simp [us,U.good,Value.oneCell']
 ·simp only [lawRanksC,List.map_cons,List.map_nil,hden0]
  simp [lawRanksC,bS,iv,SV.den,T.den,denVs,O0.den,O1.den,O3.den,us,hden0]
 ·simp only [lawRanksC,bSHp,bHp,List.mem_append,List.mem_cons,List.not_mem_nil,or_false,or_assoc]
  intro x hx
  rcases hx with rfl | rfl
  ·exact rounds_at0 gh0 gl0 rfl rfl
  ·exact rounds_at gh gl rfl rfl
 ·exact ⟨row_bytes rb0,⟨rfl,rfl⟩,rfl,rfl⟩
theorem ranks_over:Rows.placeRanksRow.holds Tryz.pinned (OpenSpec.ofChange Rows.placeRanksSpec) :=
 OpenClaim.holds_of_wide 4 Tryz.f4 rfl rfl rfl rfl rfl rfl rfl ⟨rfl,rfl,rfl,rfl,rfl⟩ rfl rfl rfl rfl rfl (by kernel_rfl) Tryz.func4 (facts_of (by kernel_rfl) (by kernel_rfl) (by kernel_rfl) (by kernel_rfl) (by kernel_rfl) (by kernel_rfl) mayEnter_P (lifts_P.trans (by kernel_rfl)) (make_P.trans (by kernel_rfl)) (by kernel_rfl))
  (of_decide_eq_true (by kernel_rfl)) (by unfold Func.isWrapper; first | (rw [if_pos (by decide +kernel)]; kernel_rfl) | (rw [if_neg (by decide +kernel)]; exact ⟨rfl,rfl⟩))
  (fun os started H enc _=>ranks_lifted os started H enc)
theorem ranks_wf:Rows.placeRanksRow.wfByText (OpenSpec.ofChange Rows.placeRanksSpec) = true:=by kernel_rfl
theorem ranks_goes:false = Rows.placeRanksRow.goesBy Tryz.pinned.checked.prog:=by kernel_rfl
theorem ranks_proved:Rows.PlaceRanksCardSaid :=
 Claim7.holds_tied_plain_at .later [] [.data,.data] true (true, "2696f152e3f098426033aa0dd70b800404442d55c89d31263bcb6b381c23969b") false
  ranks_over (fun _ h=>by cases h) ranks_wf (fun _ h=>by cases h) placeRanks_row_tie rfl ⟨rfl,rfl⟩ main_P rfl
  (fun f fn hf hfn=>by
   obtain rfl:f = 4 := Option.some.inj ((show Tryz.prog.funcNamed "stolon/stolonlaw07.PlaceRanks" = some 4 by kernel_rfl).symm.trans hf) |>.symm
   obtain rfl:fn = Tryz.f4 := (Option.some.inj (Tryz.func4.symm.trans hfn)).symm
   exact ⟨looks_P,fun j t ht=>by
    rw [Tryz.params4] at ht
    match j,ht with
    | 0,ht =>
     obtain rfl : 24 = t:=by simpa using ht
     exact (show Tryz.prog.wantsStandIn 24 = false by kernel_rfl)
    | 1,ht =>
     obtain rfl:3 = t:=by simpa using ht
     exact (show Tryz.prog.wantsStandIn 3 = false by kernel_rfl)
    | 2,ht =>
     obtain rfl:3 = t:=by simpa using ht
     exact (show Tryz.prog.wantsStandIn 3 = false by kernel_rfl)
    | j + 3,ht=>simp at ht⟩)
  ranks_goes
#print axioms ranks_proved
end Go.Proofs.YtelcnkclppkicaaGreatDoor
