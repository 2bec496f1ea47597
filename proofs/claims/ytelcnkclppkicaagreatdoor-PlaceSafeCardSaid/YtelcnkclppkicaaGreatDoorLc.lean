/- However peers send Keeps, and drop their pieces when Covered allows it, once n pieces exist, at least n less the number of peers that ever had a fault always do: the call returns true. No condition. -/
import Derived.Test.YtelcnkclppkicaaGreatDoorRows
import Derived.Test.YtelcnkclppkicaaGreatDoorTie
import Derived.Test.YtelcnkclppkicaaGreatDoorCards
import Derived.Test.YtelcnkclppkicaaGreatDoorLa
import Derived.Test.YtelcnkclppkicaaGreatDoorLR
import Derived.Test.YtelcnkclppkicaaGreatDoorG9
import Derived.Test.YtelcnkclppkicaaGreatDoorG7
set_option linter.unusedSimpArgs false
set_option linter.unusedVariables false
namespace Go.Proofs.YtelcnkclppkicaaGreatDoor
open Go Go.Eng Go.Proofs Go.ChangeShapes Go.WideShapes Go.ChangeAt Go.RowKit
set_option maxRecDepth 100000
theorem qv3 (os:Os) (started:os.Started) (H:Type) (enc:TypeId × Value->H) :
  ReturnsInHanded {} Tryz.checked os 8 .any (fun w args=>(Rows.placeSafeSpec.pre enc Tryz.prog Tryz.f8 Rows.placeSafeRow.domain false w args/\laidMet Tryz.prog Rows.placeSafeRow.laid w)/\sizedMet enc Tryz.prog Tryz.f8 (OpenSpec.ofChange Rows.placeSafeSpec) false w args)
   (Rows.placeSafeSpec.post enc Tryz.prog Tryz.f8 false true false false):=by
 refine returnsInHanded_of_change_and (C:=Tryz.checked) (X:=fun w _=>laidMet Tryz.prog Rows.placeSafeRow.laid w) (fun _ _ _ hh h=>h.of_heap hh) own started (by kernel_rfl) Tryz.func8
  (ChangeSpec.witness_at (enc:=enc) (C:=Tryz.checked) (os:=os) (X:=fun w _=>laidMet Tryz.prog Rows.placeSafeRow.laid w) false (qrt os) #[.agg #[.int .u8 0,.int .u8 0,.int .u8 0,.int .u8 0,.int .u8 0,.int .u8 0,.int .u8 0,.int .u8 0,.int .u8 0,.int .u8 0,.int .u8 0,.int .u8 0,.int .u8 0,.int .u8 0,.int .u8 0,.int .u8 0,.int .u8 0,.int .u8 0,.int .u8 0,.int .u8 0,.int .u8 0,.int .u8 0,.int .u8 0,.int .u8 0,.int .u8 0,.int .u8 0,.int .u8 0,.int .u8 0,.int .u8 0,.int .u8 0,.int .u8 0,.int .u8 0,.int .i64 0,.int .i64 0,.slice none 0 0,.slice none 0 0]] 8 rfl (by kernel_rfl) (by kernel_rfl) (by kernel_rfl) (by kernel_rfl) (by kernel_rfl) (q4f os _)) ?_
 intro W base args ds gs before hval0 hW _ hsz hL _
 have hval:∀ (j:Nat) t v,Tryz.f8.params[j]? = some t->args[j]? = some v->Value.okWide Tryz.prog W .any base t v:=hval0
 obtain ⟨gc,gty,gfr,gh,gl⟩:=qqq hL
 have hW':=hW
 obtain ⟨p,q,hA0,hV,rfl,hfz,hnd⟩:=hW
 have hA:DataW.TrodAll enc Tryz.prog W 0 (fun _=>true) true Tryz.f8.params.toList args.toList ds p:=hA0
 have hsz':(DataW.weightsEach Tryz.prog (Tryz.f8.params.toList ++ Rows.placeSafeSpec.plain.varTypes Tryz.prog) (ds ++ gs)).all (· <= reachBytes) = true:=hsz
 rw [Tryz.params8] at hA hval hsz'
 obtain ⟨v0,vs0,d0,ds0,p0,q0,hargs,rfl,rfl,h0,r0⟩:=trodAll_cons hA
 obtain ⟨rfl,rfl,rfl⟩:=trodAll_nil r0
 obtain rfl:args = #[v0]:=by cases args; simp_all
 obtain ⟨row,k1,k2,r3,d3,c3,r4,d4,c4,e0,rl,rb,w1,w2,lc3,m3,b3,lc4,m4,b4⟩:=q5D (fun _=>rfl) (hval 0 61 v0 rfl rfl) h0 hsz' (j:=0) rfl rfl
 subst e0
 let us:List U:=[{ d:=[row] },{ i:=k1 },{ i:=k2 },{ r:=r3 },{ i:=d3.length },{ i:=c3 },{ d:=d3 },{},{ r:=r4 },{ i:=d4.length },{ i:=c4 },{ d:=d4 },{},{ r:=some ⟨1,0,none⟩ },{ d:=[qaE.map (Value.int .u32)] }]
 refine q2S (c:=qcB) (ρ:=fun n=>us.getD n {}) qz4 rfl (by simp [qcB,qoj,qy1,qmu]) q53 (by rw [Tryz.params8]; intro t ht; simp only [List.mem_cons,List.not_mem_nil,or_false] at ht; subst ht; exact q7r) rfl rfl Tryz.underlying4 (fun ds' h=>?_) hW' ?_ ?_ ?_ ?_
 ·rw [Tryz.params8] at h
  match ds',h with
  | [_],_=>rfl
 ·intro n
  match n with
  | 1 | 2 | 3 | 4 | 5 | 7 | 8 | 9 | 10 | 12 | 13=>simp [us,U.good,Value.oneCell']
  | 0=>exact qv2 rb
  | 6=>exact q0h m3
  | 11=>exact qru m4
  | 14=>exact qvT
  | n + 15=>simp [us,U.good,Value.oneCell']
 ·simp [qcB,qoj,qy1,bS,iv,SV.den,T.den,qb,O0.den,O1.den,O3.den,us]
  exact (q0G (n:=0) rfl rb).symm
 ·simp only [qcB,qoj,qy1,q8q,bHp,qco,iHp,List.mem_append,List.mem_cons,List.not_mem_nil,or_false,or_assoc]
  intro x hx
  rcases hx with rfl | rfl | rfl
  ·exact m3
  ·exact m4
  ·exact q0m gh gl rfl rfl
 ·exact ⟨q0u rb,⟨rfl,b3,q22 m3⟩,⟨rfl,Int.le_trans b4 (by decide),fun row hr=>by obtain ⟨j,hj⟩:=List.getElem?_of_mem hr; exact (qm0 m4 hj).1⟩,rfl,rfl⟩
theorem q2s:Rows.placeSafeRow.holds Tryz.pinned (OpenSpec.ofChange Rows.placeSafeSpec) :=
 OpenClaim.holds_of_wide 8 Tryz.f8 rfl rfl rfl rfl rfl rfl rfl ⟨rfl,rfl,rfl,rfl,rfl⟩ rfl rfl rfl rfl rfl (by kernel_rfl) Tryz.func8 (q2C (by kernel_rfl) (by kernel_rfl) (by kernel_rfl) (by kernel_rfl) (by kernel_rfl) (by kernel_rfl) qzn (q5G.trans (by kernel_rfl)) (q6Z.trans (by kernel_rfl)) (by kernel_rfl))
  (of_decide_eq_true (by kernel_rfl)) (by unfold Func.isWrapper; first | (rw [if_pos (by decide +kernel)]; kernel_rfl) | (rw [if_neg (by decide +kernel)]; exact ⟨rfl,rfl⟩))
  (fun os started H enc _=>qv3 os started H enc)
theorem q6w:Rows.placeSafeRow.wfByText (OpenSpec.ofChange Rows.placeSafeSpec) = true:=by kernel_rfl
theorem q1N:false = Rows.placeSafeRow.goesBy Tryz.pinned.checked.prog:=by kernel_rfl
theorem safe_proved:Rows.PlaceSafeCardSaid :=
 Claim7.holds_tied_plain_at .later [] [.data] true (true, "2696f152e3f098426033aa0dd70b800404442d55c89d31263bcb6b381c23969b") false
  q2s (fun _ h=>by cases h) q6w (fun _ h=>by cases h) placeSafe_row_tie rfl ⟨rfl,rfl⟩ q6D rfl
  (fun f fn hf hfn=>by
   obtain rfl:f = 8 := Option.some.inj ((show Tryz.prog.funcNamed "stolon/stolonlaw07.PlaceSafe" = some 8 by kernel_rfl).symm.trans hf) |>.symm
   obtain rfl:fn = Tryz.f8 := (Option.some.inj (Tryz.func8.symm.trans hfn)).symm
   exact ⟨q5V,fun j t ht=>by
    rw [Tryz.params8] at ht
    match j,ht with
    | 0,ht =>
     obtain rfl : 61 = t:=by simpa using ht
     exact (show Tryz.prog.wantsStandIn 61 = false by kernel_rfl)
    | j + 1,ht=>simp at ht⟩)
  q1N
#print axioms safe_proved
end Go.Proofs.YtelcnkclppkicaaGreatDoor
