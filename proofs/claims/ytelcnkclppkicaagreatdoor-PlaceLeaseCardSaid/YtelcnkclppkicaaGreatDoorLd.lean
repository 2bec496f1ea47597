/- A claim of a live peer that does not hold its piece blocks every peer of a worse rank for 12 ticks and no longer, and never one of a better rank: the call returns true. No condition. -/
import Derived.Test.YtelcnkclppkicaaGreatDoorRows
import Derived.Test.YtelcnkclppkicaaGreatDoorTie
import Derived.Test.YtelcnkclppkicaaGreatDoorCards
import Derived.Test.YtelcnkclppkicaaGreatDoorLb
import Derived.Test.YtelcnkclppkicaaGreatDoorLR
import Derived.Test.YtelcnkclppkicaaGreatDoorG9
import Derived.Test.YtelcnkclppkicaaGreatDoorG7
set_option linter.unusedSimpArgs false
set_option linter.unusedVariables false
namespace Go.Proofs.YtelcnkclppkicaaGreatDoor
open Go Go.Eng Go.Proofs Go.ChangeShapes Go.WideShapes Go.ChangeAt Go.RowKit
set_option maxRecDepth 100000
theorem quk (os:Os) (started:os.Started) (H:Type) (enc:TypeId × Value->H) :
  ReturnsInHanded {} Tryz.checked os 14 .any (fun w args=>(Rows.placeLeaseSpec.pre enc Tryz.prog Tryz.f14 Rows.placeLeaseRow.domain false w args/\laidMet Tryz.prog Rows.placeLeaseRow.laid w)/\sizedMet enc Tryz.prog Tryz.f14 (OpenSpec.ofChange Rows.placeLeaseSpec) false w args)
   (Rows.placeLeaseSpec.post enc Tryz.prog Tryz.f14 false true false false):=by
 refine returnsInHanded_of_change_and (C:=Tryz.checked) (X:=fun w _=>laidMet Tryz.prog Rows.placeLeaseRow.laid w) (fun _ _ _ hh h=>h.of_heap hh) own started (by kernel_rfl) Tryz.func14
  (ChangeSpec.witness_at (enc:=enc) (C:=Tryz.checked) (os:=os) (X:=fun w _=>laidMet Tryz.prog Rows.placeLeaseRow.laid w) false (qrx os) #[.agg #[.int .u8 0,.int .u8 0,.int .u8 0,.int .u8 0,.int .u8 0,.int .u8 0,.int .u8 0,.int .u8 0,.int .u8 0,.int .u8 0,.int .u8 0,.int .u8 0,.int .u8 0,.int .u8 0,.int .u8 0,.int .u8 0,.int .u8 0,.int .u8 0,.int .u8 0,.int .u8 0,.int .u8 0,.int .u8 0,.int .u8 0,.int .u8 0,.int .u8 0,.int .u8 0,.int .u8 0,.int .u8 0,.int .u8 0,.int .u8 0,.int .u8 0,.int .u8 0,.int .i64 0,.int .i64 0,.int .u64 0,.int .u64 0]] 8 rfl (by kernel_rfl) (by kernel_rfl) (by kernel_rfl) (by kernel_rfl) (by kernel_rfl) (q4c os _)) ?_
 intro W base args ds gs before hval0 hW _ hsz hL _
 have hval:∀ (j:Nat) t v,Tryz.f14.params[j]? = some t->args[j]? = some v->Value.okWide Tryz.prog W .any base t v:=hval0
 obtain ⟨gc,gty,gfr,gh,gl⟩:=qpA hL
 have hW':=hW
 obtain ⟨p,q,hA0,hV,rfl,hfz,hnd⟩:=hW
 have hA:DataW.TrodAll enc Tryz.prog W 0 (fun _=>true) true Tryz.f14.params.toList args.toList ds p:=hA0
 have hsz':(DataW.weightsEach Tryz.prog (Tryz.f14.params.toList ++ Rows.placeLeaseSpec.plain.varTypes Tryz.prog) (ds ++ gs)).all (· <= reachBytes) = true:=hsz
 rw [Tryz.params14] at hA hval hsz'
 obtain ⟨v0,vs0,d0,ds0,p0,q0,hargs,rfl,rfl,h0,r0⟩:=trodAll_cons hA
 obtain ⟨rfl,rfl,rfl⟩:=trodAll_nil r0
 obtain rfl:args = #[v0]:=by cases args; simp_all
 obtain ⟨row,k1,k2,k3,k4,e0,rl,rb,w1,w2,w3,w4⟩:=q4V (fun _=>rfl) (hval 0 126 v0 rfl rfl) h0 hsz' (j:=0) rfl rfl
 subst e0
 let us:List U:=[{ d:=[row] },{ i:=k1 },{ i:=k2 },{ i:=k3 },{ i:=k4 },{ r:=some ⟨1,0,none⟩ },{ d:=[qaG.map (Value.int .u32)] }]
 refine q2v (c:=qbX) (ρ:=fun n=>us.getD n {}) qvH rfl (by simp [qbX,qoG,qmv]) q5z (by rw [Tryz.params14]; intro t ht; simp only [List.mem_cons,List.not_mem_nil,or_false] at ht; subst ht; exact q6H) rfl rfl Tryz.underlying4 (fun ds' h=>?_) hW' ?_ ?_ ?_ ?_
 ·rw [Tryz.params14] at h
  match ds',h with
  | [_],_=>rfl
 ·intro n
  match n with
  | 1 | 2 | 3 | 4 | 5=>simp [us,U.good,Value.oneCell']
  | 0=>exact qvE rb
  | 6=>exact qvP
  | n + 7=>simp [us,U.good,Value.oneCell']
 ·simp [qbX,qoG,bS,iv,SV.den,T.den,qb,O0.den,O1.den,O3.den,us]
  exact (q15 (n:=0) rfl rb).symm
 ·simp only [qbX,qoG,q7R,bHp,qeb,iHp,List.mem_append,List.mem_cons,List.not_mem_nil,or_false,or_assoc]
  intro x hx
  subst hx
  exact q08 gh gl rfl rfl
 ·exact ⟨q0s rb,w3.1,w4.1,w4.2,rfl,rfl⟩
theorem qxW:Rows.placeLeaseRow.holds Tryz.pinned (OpenSpec.ofChange Rows.placeLeaseSpec) :=
 OpenClaim.holds_of_wide 14 Tryz.f14 rfl rfl rfl rfl rfl rfl rfl ⟨rfl,rfl,rfl,rfl,rfl⟩ rfl rfl rfl rfl rfl (by kernel_rfl) Tryz.func14 (q3A (by kernel_rfl) (by kernel_rfl) (by kernel_rfl) (by kernel_rfl) (by kernel_rfl) (by kernel_rfl) qzF (q5r.trans (by kernel_rfl)) (q6S.trans (by kernel_rfl)) (by kernel_rfl))
  (of_decide_eq_true (by kernel_rfl)) (by unfold Func.isWrapper; first | (rw [if_pos (by decide +kernel)]; kernel_rfl) | (rw [if_neg (by decide +kernel)]; exact ⟨rfl,rfl⟩))
  (fun os started H enc _=>quk os started H enc)
theorem q2G:Rows.placeLeaseRow.wfByText (OpenSpec.ofChange Rows.placeLeaseSpec) = true:=by kernel_rfl
theorem qyl:false = Rows.placeLeaseRow.goesBy Tryz.pinned.checked.prog:=by kernel_rfl
theorem lease_proved:Rows.PlaceLeaseCardSaid :=
 Claim7.holds_tied_plain_at .later [] [.data] true (true, "2696f152e3f098426033aa0dd70b800404442d55c89d31263bcb6b381c23969b") false
  qxW (fun _ h=>by cases h) q2G (fun _ h=>by cases h) placeLease_row_tie rfl ⟨rfl,rfl⟩ q68 rfl
  (fun f fn hf hfn=>by
   obtain rfl:f = 14 := Option.some.inj ((show Tryz.prog.funcNamed "stolon/stolonlaw07.PlaceLease" = some 14 by kernel_rfl).symm.trans hf) |>.symm
   obtain rfl:fn = Tryz.f14 := (Option.some.inj (Tryz.func14.symm.trans hfn)).symm
   exact ⟨q6a,fun j t ht=>by
    rw [Tryz.params14] at ht
    match j,ht with
    | 0,ht =>
     obtain rfl : 126 = t:=by simpa using ht
     exact (show Tryz.prog.wantsStandIn 126 = false by kernel_rfl)
    | j + 1,ht=>simp at ht⟩)
  qyl
#print axioms lease_proved
end Go.Proofs.YtelcnkclppkicaaGreatDoor
