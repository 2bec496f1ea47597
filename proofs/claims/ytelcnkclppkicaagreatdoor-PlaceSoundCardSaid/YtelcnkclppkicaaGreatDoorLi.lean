/- Whatever is offered, an object that a Gather returns has the digest of a manifest whose id is the one that was asked for, and a piece passes CheckPiece: the call returns true. No condition. -/
import Derived.Test.YtelcnkclppkicaaGreatDoorRows
import Derived.Test.YtelcnkclppkicaaGreatDoorTie
import Derived.Test.YtelcnkclppkicaaGreatDoorCards
import Derived.Test.YtelcnkclppkicaaGreatDoorLh
import Derived.Test.YtelcnkclppkicaaGreatDoorLR
import Derived.Test.YtelcnkclppkicaaGreatDoorG10
import Derived.Test.YtelcnkclppkicaaGreatDoorG7
set_option linter.unusedSimpArgs false
set_option linter.unusedVariables false
namespace Go.Proofs.YtelcnkclppkicaaGreatDoor
open Go Go.Eng Go.Proofs Go.ChangeShapes Go.WideShapes Go.ChangeAt Go.RowKit
set_option maxRecDepth 100000
theorem qwx (os:Os) (started:os.Started) (H:Type) (enc:TypeId × Value->H) :
  ReturnsInHanded {} Tryz.checked os 12 .any (fun w args=>(Rows.placeSoundSpec.pre enc Tryz.prog Tryz.f12 Rows.placeSoundRow.domain false w args/\laidMet Tryz.prog Rows.placeSoundRow.laid w)/\sizedMet enc Tryz.prog Tryz.f12 (OpenSpec.ofChange Rows.placeSoundSpec) false w args)
   (Rows.placeSoundSpec.post enc Tryz.prog Tryz.f12 false true false false):=by
 refine returnsInHanded_of_change_and (C:=Tryz.checked) (X:=fun w _=>laidMet Tryz.prog Rows.placeSoundRow.laid w) (fun _ _ _ hh h=>h.of_heap hh) own started (by kernel_rfl) Tryz.func12
  (ChangeSpec.witness_at (enc:=enc) (C:=Tryz.checked) (os:=os) (X:=fun w _=>laidMet Tryz.prog Rows.placeSoundRow.laid w) false (qsP os) #[.agg #[.int .u8 0,.int .u8 0,.int .u8 0,.int .u8 0,.int .u8 0,.int .u8 0,.int .u8 0,.int .u8 0,.int .u8 0,.int .u8 0,.int .u8 0,.int .u8 0,.int .u8 0,.int .u8 0,.int .u8 0,.int .u8 0,.int .u8 0,.int .u8 0,.int .u8 0,.int .u8 0,.int .u8 0,.int .u8 0,.int .u8 0,.int .u8 0,.int .u8 0,.int .u8 0,.int .u8 0,.int .u8 0,.int .u8 0,.int .u8 0,.int .u8 0,.int .u8 0],.slice none 0 0] 8 rfl (by kernel_rfl) (by kernel_rfl) (by kernel_rfl) (by kernel_rfl) (by kernel_rfl) (q5C os _)) ?_
 intro W base args ds gs before hval0 hW _ hsz hL _
 have hval:∀ (j:Nat) t v,Tryz.f12.params[j]? = some t->args[j]? = some v->Value.okWide Tryz.prog W .any base t v:=hval0
 obtain ⟨gc,gty,gfr,gh,gl⟩:=qsq hL
 have hW':=hW
 obtain ⟨p,q,hA0,hV,rfl,hfz,hnd⟩:=hW
 have hA:DataW.TrodAll enc Tryz.prog W 0 (fun _=>true) true Tryz.f12.params.toList args.toList ds p:=hA0
 have hsz':(DataW.weightsEach Tryz.prog (Tryz.f12.params.toList ++ Rows.placeSoundSpec.plain.varTypes Tryz.prog) (ds ++ gs)).all (· <= reachBytes) = true:=hsz
 rw [Tryz.params12] at hA hval hsz'
 obtain ⟨v0,vs0,d0,ds0,p0,q0,hargs,rfl,rfl,h0,r0⟩:=trodAll_cons hA
 obtain ⟨v1,vs1,d1,ds1,p1,q1,rfl,rfl,rfl,h1,r1⟩:=trodAll_cons r0
 obtain ⟨rfl,rfl,rfl⟩:=trodAll_nil r1
 obtain rfl:args = #[v0,v1]:=by cases args; simp_all
 obtain ⟨row0,e0,rl0,rb0⟩:=qyM (hval 0 24 v0 rfl rfl) h0
 subst e0
 obtain ⟨g1,rows1,c1,e1,lc1,b1,a1,m1⟩:=qyg (fun _=>rfl) (hval 1 92 v1 rfl rfl) h1 hsz' (j:=1) rfl rfl
 subst e1
 let us:List U:=[{ d:=[row0] },{ r:=g1 },{ i:=rows1.length },{ i:=c1 },{ d:=rows1 },{},{ h:=fun b=>W.heap[b]? },{ r:=some ⟨1,0,none⟩ },{ d:=[qaW.map (Value.int .u32)] }]
 have hden0:=q93 (n:=0) (ρ:=fun n=>us.getD n {}) (row:=row0) rfl rb0
 refine q5n (c:=qbw) (ρ:=fun n=>us.getD n {}) qva rfl (by simp [qbw,qrM,dgV,qn2]) q9q (by rw [Tryz.params12]; intro t ht; simp only [List.mem_cons,List.not_mem_nil,or_false] at ht; rcases ht with rfl | rfl; exact q99; exact q8w) rfl rfl Tryz.underlying4 (fun ds' h=>?_) hW' ?_ ?_ ?_ ?_
 ·rw [Tryz.params12] at h
  match ds',h with
  | [_,_],_=>rfl
 ·intro n
  match n with
  | 1 | 2 | 3 | 5 | 6 | 7=>simp [us,U.good,Value.oneCell']
  | 0=>exact qyI rb0
  | 4=>exact q4L m1
  | 8=>exact qx4
  | n + 9=>simp [us,U.good,Value.oneCell']
 ·simp only [qbw,List.map_cons,List.map_nil,hden0]
  simp [qbw,qrM,dgV,bS,iv,SV.den,T.den,qc,O0.den,O1.den,O3.den,us,hden0]
 ·simp only [qbw,qrM,dgV,qBI,bHp,List.mem_append,List.mem_cons,List.not_mem_nil,or_false,or_assoc]
  intro x hx
  rcases hx with rfl | rfl | rfl
  ·exact m1
  ·exact (fun b o h=>h)
  ·exact q4d gh gl rfl rfl
 ·exact ⟨qm9 rb0,⟨rfl,Int.le_trans b1 (by decide),fun i i0 i1=>a1 i i0 i1⟩,rfl,rfl⟩
theorem q1a:Rows.placeSoundRow.holds Tryz.pinned (OpenSpec.ofChange Rows.placeSoundSpec) :=
 OpenClaim.holds_of_wide 12 Tryz.f12 rfl rfl rfl rfl rfl rfl rfl ⟨rfl,rfl,rfl,rfl,rfl⟩ rfl rfl rfl rfl rfl (by kernel_rfl) Tryz.func12 (q6y (by kernel_rfl) (by kernel_rfl) (by kernel_rfl) (by kernel_rfl) (by kernel_rfl) (by kernel_rfl) q1I (q8G.trans (by kernel_rfl)) (q9F.trans (by kernel_rfl)) (by kernel_rfl))
  (of_decide_eq_true (by kernel_rfl)) (by unfold Func.isWrapper; first | (rw [if_pos (by decide +kernel)]; kernel_rfl) | (rw [if_neg (by decide +kernel)]; exact ⟨rfl,rfl⟩))
  (fun os started H enc _=>qwx os started H enc)
theorem q6u:Rows.placeSoundRow.wfByText (OpenSpec.ofChange Rows.placeSoundSpec) = true:=by kernel_rfl
theorem q0k:false = Rows.placeSoundRow.goesBy Tryz.pinned.checked.prog:=by kernel_rfl
theorem sound_proved:Rows.PlaceSoundCardSaid :=
 Claim7.holds_tied_plain_at .later [] [.data] true (true, "2696f152e3f098426033aa0dd70b800404442d55c89d31263bcb6b381c23969b") false
  q1a (fun _ h=>by cases h) q6u (fun _ h=>by cases h) placeSound_row_tie rfl ⟨rfl,rfl⟩ q9X rfl
  (fun f fn hf hfn=>by
   obtain rfl:f = 12 := Option.some.inj ((show Tryz.prog.funcNamed "stolon/stolonlaw07.PlaceSound" = some 12 by kernel_rfl).symm.trans hf) |>.symm
   obtain rfl:fn = Tryz.f12 := (Option.some.inj (Tryz.func12.symm.trans hfn)).symm
   exact ⟨q86,fun j t ht=>by
    rw [Tryz.params12] at ht
    match j,ht with
    | 0,ht =>
     obtain rfl : 24 = t:=by simpa using ht
     exact (show Tryz.prog.wantsStandIn 24 = false by kernel_rfl)
    | 1,ht =>
     obtain rfl : 92 = t:=by simpa using ht
     exact (show Tryz.prog.wantsStandIn 92 = false by kernel_rfl)
    | j + 2,ht=>simp at ht⟩)
  q0k
#print axioms sound_proved
end Go.Proofs.YtelcnkclppkicaaGreatDoor
