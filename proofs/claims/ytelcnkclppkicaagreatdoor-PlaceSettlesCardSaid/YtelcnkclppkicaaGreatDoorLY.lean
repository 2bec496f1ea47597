/- If at least n peers are live and n is at least 1, no live peer has a duty about an object that is not deleted just if the live holders are exactly the qe3 peers: the call returns true. No condition. -/
import Derived.Test.YtelcnkclppkicaaGreatDoorRows
import Derived.Test.YtelcnkclppkicaaGreatDoorTie
import Derived.Test.YtelcnkclppkicaaGreatDoorCards
import Derived.Test.YtelcnkclppkicaaGreatDoorLV
import Derived.Test.YtelcnkclppkicaaGreatDoorLR
import Derived.Test.YtelcnkclppkicaaGreatDoorG9
import Derived.Test.YtelcnkclppkicaaGreatDoorG7
set_option linter.unusedSimpArgs false
set_option linter.unusedVariables false
namespace Go.Proofs.YtelcnkclppkicaaGreatDoor
open Go Go.Eng Go.Proofs Go.ChangeShapes Go.WideShapes Go.ChangeAt Go.RowKit
set_option maxRecDepth 100000
theorem qq2 (os:Os) (started:os.Started) (H:Type) (enc:TypeId × Value->H) :
  ReturnsInHanded {} Tryz.checked os 7 .any (fun w args=>(Rows.placeSettlesSpec.pre enc Tryz.prog Tryz.f7 Rows.placeSettlesRow.domain false w args/\laidMet Tryz.prog Rows.placeSettlesRow.laid w)/\sizedMet enc Tryz.prog Tryz.f7 (OpenSpec.ofChange Rows.placeSettlesSpec) false w args)
   (Rows.placeSettlesSpec.post enc Tryz.prog Tryz.f7 false true false false):=by
 refine returnsInHanded_of_change_and (C:=Tryz.checked) (X:=fun w _=>laidMet Tryz.prog Rows.placeSettlesRow.laid w) (fun _ _ _ hh h=>h.of_heap hh) own started (by kernel_rfl) Tryz.func7
  (ChangeSpec.witness_at (enc:=enc) (C:=Tryz.checked) (os:=os) (X:=fun w _=>laidMet Tryz.prog Rows.placeSettlesRow.laid w) false (qrd os) #[.agg #[.int .u8 0,.int .u8 0,.int .u8 0,.int .u8 0,.int .u8 0,.int .u8 0,.int .u8 0,.int .u8 0,.int .u8 0,.int .u8 0,.int .u8 0,.int .u8 0,.int .u8 0,.int .u8 0,.int .u8 0,.int .u8 0,.int .u8 0,.int .u8 0,.int .u8 0,.int .u8 0,.int .u8 0,.int .u8 0,.int .u8 0,.int .u8 0,.int .u8 0,.int .u8 0,.int .u8 0,.int .u8 0,.int .u8 0,.int .u8 0,.int .u8 0,.int .u8 0,.slice none 0 0,.slice none 0 0,.int .i64 0]] 8 rfl (by kernel_rfl) (by kernel_rfl) (by kernel_rfl) (by kernel_rfl) (by kernel_rfl) (q23 os _)) ?_
 intro W base args ds gs before hval0 hW _ hsz hL _
 have hval:∀ (j:Nat) t v,Tryz.f7.params[j]? = some t->args[j]? = some v->Value.okWide Tryz.prog W .any base t v:=hval0
 obtain ⟨gc,gty,gfr,gh,gl⟩:=qpV hL
 have hW':=hW
 obtain ⟨p,q,hA0,hV,rfl,hfz,hnd⟩:=hW
 have hA:DataW.TrodAll enc Tryz.prog W 0 (fun _=>true) true Tryz.f7.params.toList args.toList ds p:=hA0
 have hsz':(DataW.weightsEach Tryz.prog (Tryz.f7.params.toList ++ Rows.placeSettlesSpec.plain.varTypes Tryz.prog) (ds ++ gs)).all (· <= reachBytes) = true:=hsz
 rw [Tryz.params7] at hA hval hsz'
 obtain ⟨v0,vs0,d0,ds0,p0,q0,hargs,rfl,rfl,h0,r0⟩:=trodAll_cons hA
 obtain ⟨rfl,rfl,rfl⟩:=trodAll_nil r0
 obtain rfl:args = #[v0]:=by cases args; simp_all
 obtain ⟨row,r1,d1,c1,r2,d2,c2,k3,e0,rl,rb,lc1,m1,b1,lc2,m2,b2,w3⟩:=q5e (fun _=>rfl) (hval 0 55 v0 rfl rfl) h0 hsz' (j:=0) rfl rfl
 subst e0
 let us:List U:=[{ d:=[row] },{ r:=r1 },{ i:=d1.length },{ i:=c1 },{ d:=d1 },{},{ r:=r2 },{ i:=d2.length },{ i:=c2 },{ d:=d2 },{},{ i:=k3 },{ r:=some ⟨1,0,none⟩ },{ d:=[qaH.map (Value.int .u32)] }]
 refine q3G (c:=qbd) (ρ:=fun n=>us.getD n {}) qrF rfl (by simp [qbd,qlu,qlO]) q4M (by rw [Tryz.params7]; intro t ht; simp only [List.mem_cons,List.not_mem_nil,or_false] at ht; subst ht; exact q6a) rfl rfl Tryz.underlying4 (fun ds' h=>?_) hW' ?_ ?_ ?_ ?_
 ·rw [Tryz.params7] at h
  match ds',h with
  | [_],_=>rfl
 ·intro n
  match n with
  | 1 | 2 | 3 | 5 | 6 | 7 | 8 | 10 | 11 | 12=>simp [us,U.good,Value.oneCell']
  | 0=>exact qvq rb
  | 4=>exact qrw m1
  | 9=>exact qrw m2
  | 13=>exact qv5
  | n + 14=>simp [us,U.good,Value.oneCell']
 ·simp [qbd,qlu,bS,iv,SV.den,T.den,qb,O0.den,O1.den,O3.den,us]
  exact (q0J (n:=0) rfl rb).symm
 ·simp only [qbd,qlu,q74,bHp,qcp,iHp,List.mem_append,List.mem_cons,List.not_mem_nil,or_false,or_assoc]
  intro x hx
  rcases hx with rfl | rfl | rfl
  ·exact m1
  ·exact m2
  ·exact q0Z gh gl rfl rfl
 ·exact ⟨q10 rb,⟨rfl,b1,qt9 m1⟩,⟨rfl,b2,qt9 m2⟩,rfl,rfl⟩
theorem qti:Rows.placeSettlesRow.holds Tryz.pinned (OpenSpec.ofChange Rows.placeSettlesSpec) :=
 OpenClaim.holds_of_wide 7 Tryz.f7 rfl rfl rfl rfl rfl rfl rfl ⟨rfl,rfl,rfl,rfl,rfl⟩ rfl rfl rfl rfl rfl (by kernel_rfl) Tryz.func7 (q2u (by kernel_rfl) (by kernel_rfl) (by kernel_rfl) (by kernel_rfl) (by kernel_rfl) (by kernel_rfl) qwX (q5g.trans (by kernel_rfl)) (q6l.trans (by kernel_rfl)) (by kernel_rfl))
  (of_decide_eq_true (by kernel_rfl)) (by unfold Func.isWrapper; first | (rw [if_pos (by decide +kernel)]; kernel_rfl) | (rw [if_neg (by decide +kernel)]; exact ⟨rfl,rfl⟩))
  (fun os started H enc _=>qq2 os started H enc)
theorem qwM:Rows.placeSettlesRow.wfByText (OpenSpec.ofChange Rows.placeSettlesSpec) = true:=by kernel_rfl
theorem qsZ:false = Rows.placeSettlesRow.goesBy Tryz.pinned.checked.prog:=by kernel_rfl
theorem settles_proved:Rows.PlaceSettlesCardSaid :=
 Claim7.holds_tied_plain_at .later [] [.data] true (true, "2696f152e3f098426033aa0dd70b800404442d55c89d31263bcb6b381c23969b") false
  qti (fun _ h=>by cases h) qwM (fun _ h=>by cases h) placeSettles_row_tie rfl ⟨rfl,rfl⟩ q6k rfl
  (fun f fn hf hfn=>by
   obtain rfl:f = 7 := Option.some.inj ((show Tryz.prog.funcNamed "stolon/stolonlaw07.PlaceSettles" = some 7 by kernel_rfl).symm.trans hf) |>.symm
   obtain rfl:fn = Tryz.f7 := (Option.some.inj (Tryz.func7.symm.trans hfn)).symm
   exact ⟨q5n,fun j t ht=>by
    rw [Tryz.params7] at ht
    match j,ht with
    | 0,ht =>
     obtain rfl : 55 = t:=by simpa using ht
     exact (show Tryz.prog.wantsStandIn 55 = false by kernel_rfl)
    | j + 1,ht=>simp at ht⟩)
  qsZ
#print axioms settles_proved
end Go.Proofs.YtelcnkclppkicaaGreatDoor
