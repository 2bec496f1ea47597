/- Ranks are a strict total order of the peers, and a ranking contains each peer once, the better ones first: the call returns true. No condition. -/
import Derived.Test.YtelcnkclppkicaaGreatDoorRows
import Derived.Test.YtelcnkclppkicaaGreatDoorTie
import Derived.Test.YtelcnkclppkicaaGreatDoorCards
import Derived.Test.YtelcnkclppkicaaGreatDoorLD
import Derived.Test.YtelcnkclppkicaaGreatDoorLR
import Derived.Test.YtelcnkclppkicaaGreatDoorG9
import Derived.Test.YtelcnkclppkicaaGreatDoorG7
set_option linter.unusedSimpArgs false
set_option linter.unusedVariables false
namespace Go.Proofs.YtelcnkclppkicaaGreatDoor
open Go Go.Eng Go.Proofs Go.ChangeShapes Go.WideShapes Go.ChangeAt Go.RowKit
set_option maxRecDepth 100000
theorem order_lifted (os:Os) (started:os.Started) (H:Type) (enc:TypeId × Value→H) :
  ReturnsInHanded {} Tryz.checked os 5 .any (fun w args=>(Rows.placeOrderSpec.pre enc Tryz.prog Tryz.f5 Rows.placeOrderRow.domain false w args∧laidMet Tryz.prog Rows.placeOrderRow.laid w)∧sizedMet enc Tryz.prog Tryz.f5 (OpenSpec.ofChange Rows.placeOrderSpec) false w args)
   (Rows.placeOrderSpec.post enc Tryz.prog Tryz.f5 false true false false):=by
 refine returnsInHanded_of_change_and (C:=Tryz.checked) (X:=fun w _=>laidMet Tryz.prog Rows.placeOrderRow.laid w) (fun _ _ _ hh h=>h.of_heap hh) own started (by kernel_rfl) Tryz.func5
  (ChangeSpec.witness_at (enc:=enc) (C:=Tryz.checked) (os:=os) (X:=fun w _=>laidMet Tryz.prog Rows.placeOrderRow.laid w) false (laidWorld os) #[.agg #[.int .u8 0,.int .u8 0,.int .u8 0,.int .u8 0,.int .u8 0,.int .u8 0,.int .u8 0,.int .u8 0,.int .u8 0,.int .u8 0,.int .u8 0,.int .u8 0,.int .u8 0,.int .u8 0,.int .u8 0,.int .u8 0,.int .u8 0,.int .u8 0,.int .u8 0,.int .u8 0,.int .u8 0,.int .u8 0,.int .u8 0,.int .u8 0,.int .u8 0,.int .u8 0,.int .u8 0,.int .u8 0,.int .u8 0,.int .u8 0,.int .u8 0,.int .u8 0],.int .i64 0] 8 rfl (by kernel_rfl) (by kernel_rfl) (by kernel_rfl) (by kernel_rfl) (by kernel_rfl) (laid_met os _)) ?_
 intro W base args ds gs before hval0 hW _ hsz hL _
 have hval:∀ (j:Nat) t v,Tryz.f5.params[j]? = some t→args[j]? = some v→Value.okWide Tryz.prog W .any base t v:=hval0
 obtain ⟨gc,gty,gfr,gh,gl⟩:=rounds_of_laid hL
 have hW':=hW
 obtain ⟨p,q,hA0,hV,rfl,hfz,hnd⟩:=hW
 have hA:DataW.TrodAll enc Tryz.prog W 0 (fun _=>true) true Tryz.f5.params.toList args.toList ds p:=hA0
 have hsz':(DataW.weightsEach Tryz.prog (Tryz.f5.params.toList ++ Rows.placeOrderSpec.plain.varTypes Tryz.prog) (ds ++ gs)).all (· ≤ reachBytes) = true:=hsz
 rw [Tryz.params5] at hA hval hsz'
 obtain ⟨v0,vs0,d0,ds0,p0,q0,hargs,rfl,rfl,h0,r0⟩:=trodAll_cons hA
 obtain ⟨v1,vs1,d1,ds1,p1,q1,rfl,rfl,rfl,h1,r1⟩:=trodAll_cons r0
 obtain ⟨rfl,rfl,rfl⟩:=trodAll_nil r1
 obtain rfl:args = #[v0,v1]:=by cases args; simp_all
 obtain ⟨row0,e0,rl0,rb0⟩:=open_digest (hval 0 24 v0 rfl rfl) h0
 subst e0
 obtain ⟨z1,rfl,_,_,w1⟩:=open_int Tryz.underlying3 (hval 1 3 v1 rfl rfl) h1
 have w1:=wf_i64 w1
 let us:List U:=[{ d:=[row0] },{ i:=z1 },{ r:=some ⟨1,0,none⟩ },{ d:=[roundK.map (Value.int .u32)] }]
 have hden0:=den_dgV (n:=0) (ρ:=fun n=>us.getD n {}) (row:=row0) rfl rb0
 refine law_call (c:=lawOrderC) (ρ:=fun n=>us.getD n {}) lawOrder_ok rfl (by simp [lawOrderC,lawTrue]) laidOut (by rw [Tryz.params5]; intro t ht; simp only [List.mem_cons,List.not_mem_nil,or_false] at ht; rcases ht with rfl | rfl; exact goodDg; exact good3) rfl rfl Tryz.underlying4 (fun ds' h=>?_) hW' ?_ ?_ ?_ ?_
 ·rw [Tryz.params5] at h
  match ds',h with
  | [_,_],_=>rfl
 ·intro n
  match n with
  | 1 | 2=>simp [us,U.good,Value.oneCell']
  | 0=>exact digest_good rb0
  | 3=>exact rounds_good
  | n + 4=>simp [us,U.good,Value.oneCell']
 ·simp only [lawOrderC,List.map_cons,List.map_nil,hden0]
  simp [lawOrderC,bS,iv,SV.den,T.den,denVs,O0.den,O1.den,O3.den,us,hden0]
 ·simp only [lawOrderC,bSHp,bHp,List.mem_append,List.mem_cons,List.not_mem_nil,or_false,or_assoc]
  intro x hx
  subst hx
  exact rounds_at gh gl rfl rfl
 ·exact ⟨row_bytes rb0,w1,rfl,rfl⟩
theorem order_over:Rows.placeOrderRow.holds Tryz.pinned (OpenSpec.ofChange Rows.placeOrderSpec) :=
 OpenClaim.holds_of_wide 5 Tryz.f5 rfl rfl rfl rfl rfl rfl rfl ⟨rfl,rfl,rfl,rfl,rfl⟩ rfl rfl rfl rfl rfl (by kernel_rfl) Tryz.func5 (facts_of (by kernel_rfl) (by kernel_rfl) (by kernel_rfl) (by kernel_rfl) (by kernel_rfl) (by kernel_rfl) mayEnter_P (lifts_P.trans (by kernel_rfl)) (make_P.trans (by kernel_rfl)) (by kernel_rfl))
  (of_decide_eq_true (by kernel_rfl)) (by unfold Func.isWrapper; first | (rw [if_pos (by decide +kernel)]; kernel_rfl) | (rw [if_neg (by decide +kernel)]; exact ⟨rfl,rfl⟩))
  (fun os started H enc _=>order_lifted os started H enc)
theorem order_wf:Rows.placeOrderRow.wfByText (OpenSpec.ofChange Rows.placeOrderSpec) = true:=by kernel_rfl
theorem order_goes:false = Rows.placeOrderRow.goesBy Tryz.pinned.checked.prog:=by kernel_rfl
theorem order_proved:Rows.PlaceOrderCardSaid :=
 Claim7.holds_tied_plain_at .later [] [.data] true (true, "2696f152e3f098426033aa0dd70b800404442d55c89d31263bcb6b381c23969b") false
  order_over (fun _ h=>by cases h) order_wf (fun _ h=>by cases h) placeOrder_row_tie rfl ⟨rfl,rfl⟩ main_P rfl
  (fun f fn hf hfn=>by
   obtain rfl:f = 5 := Option.some.inj ((show Tryz.prog.funcNamed "stolon/stolonlaw07.PlaceOrder" = some 5 by kernel_rfl).symm.trans hf) |>.symm
   obtain rfl:fn = Tryz.f5 := (Option.some.inj (Tryz.func5.symm.trans hfn)).symm
   exact ⟨looks_P,fun j t ht=>by
    rw [Tryz.params5] at ht
    match j,ht with
    | 0,ht =>
     obtain rfl : 24 = t:=by simpa using ht
     exact (show Tryz.prog.wantsStandIn 24 = false by kernel_rfl)
    | 1,ht =>
     obtain rfl:3 = t:=by simpa using ht
     exact (show Tryz.prog.wantsStandIn 3 = false by kernel_rfl)
    | j + 2,ht=>simp at ht⟩)
  order_goes
#print axioms order_proved
end Go.Proofs.YtelcnkclppkicaaGreatDoor
