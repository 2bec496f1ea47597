/- Texts QS, QT. -/
import Derived.Test.YtelcnkclppkicaaGreatDoorG9
import Derived.Test.YtelcnkclppkicaaGreatDoorG5
import Derived.Test.YtelcnkclppkicaaGreatDoorProg
set_option linter.unusedSimpArgs false
set_option linter.unusedVariables false
set_option maxRecDepth 100000
namespace Go.Proofs
open Go Go.Eng

def qiT:Out:=(.fresh 19 (.need (.cmp .leq (.lit 0) (.var 4)) (.br (.cmp .gtr (.var 4) (.lit 100))
 (.pre 10 (sg 0 [bv 1 18,bg 0 17]) (.both (.post 10 0 (sg 0 [bv 1 18,bg 0 17]) 20 (.ret 0 (sg 19 []))) .top))
 (.need (.cmp .leq (.lit 0) (.var 9)) (.br (.cmp .gtr (.var 9) (.lit 100))
 (.pre 10 (sg 0 [bv 1 18,bg 0 17]) (.both (.post 10 0 (sg 0 [bv 1 18,bg 0 17]) 20 (.ret 0 (sg 19 []))) .top))
 (.both (.pre 0 (sg 0 [bv 4 7,bv 3 6,bv 2 5,bv 1 4,bg 0 3]) (.both (.fresh 20 (.fresh 21 (.fresh 22 (.post 0 0 (sg 0 [bv 4 7,bv 3 6,bv 2 5,bv 1 4,bg 0 3]) 20 (.both (.pre 0 (sg 0 [bv 4 12,bv 3 11,bv 2 10,bv 1 9,bg 0 8]) (.both (.fresh 23 (.fresh 24 (.fresh 25 (.post 0 0 (sg 0 [bv 4 12,bv 3 11,bv 2 10,bv 1 9,bg 0 8]) 23 (.both (.pre 1 (sg 0 [bv 8 18,bv 5 21,bv 4 22,bv 6 2,bv 3 21,bv 2 4,bg 1 20,bt 0 (r8 0),bg 7 17]) (.both (.fresh 26 (.fresh 27 (.fresh 28 (.fresh 29 (.post 1 0 (sg 0 [bv 8 18,bv 5 21,bv 4 22,bv 6 2,bv 3 21,bv 2 4,bg 1 20,bt 0 (r8 0),bg 7 17]) 26 (.both (.pre 2 (sg 0 [bv 8 16,bv 5 7,bv 4 6,bv 6 2,bv 3 5,bv 2 4,bg 1 3,bt 0 (r8 0),bg 7 15]) (.both (.fresh 30 (.fresh 31 (.fresh 32 (.fresh 33 (.post 2 0 (sg 0 [bv 8 16,bv 5 7,bv 4 6,bv 6 2,bv 3 5,bv 2 4,bg 1 3,bt 0 (r8 0),bg 7 15]) 30 (.both (.pre 9 (sg 0 [bv 9 32,bv 8 33,bv 4 28,bv 3 29,bv 7 32,bv 6 31,bg 5 30,bv 2 28,bv 1 27,bg 0 26]) (.both (.fresh 34 (.post 9 0 (sg 0 [bv 9 32,bv 8 33,bv 4 28,bv 3 29,bv 7 32,bv 6 31,bg 5 30,bv 2 28,bv 1 27,bg 0 26]) 34 (.br (.not (.var 34))
 (.both (.both (.both (.stuck 7 0 0) .top) .top) .top)
 (.both (.pre 3 (sg 0 [bv 10 21,bv 9 22,bv 5 24,bv 4 25,bv 8 21,bv 7 4,bg 6 20,bv 3 24,bv 2 9,bg 1 23,bv 0 1]) (.both (.fresh 35 (.fresh 36 (.fresh 37 (.fresh 38 (.post 3 0 (sg 0 [bv 10 21,bv 9 22,bv 5 24,bv 4 25,bv 8 21,bv 7 4,bg 6 20,bv 3 24,bv 2 9,bg 1 23,bv 0 1]) 35 (.both (.pre 4 (sg 0 [bv 10 7,bv 9 6,bv 5 12,bv 4 11,bv 8 5,bv 7 4,bg 6 3,bv 3 10,bv 2 9,bg 1 8,bv 0 1]) (.both (.fresh 39 (.fresh 40 (.fresh 41 (.fresh 42 (.post 4 0 (sg 0 [bv 10 7,bv 9 6,bv 5 12,bv 4 11,bv 8 5,bv 7 4,bg 6 3,bv 3 10,bv 2 9,bg 1 8,bv 0 1]) 39 (.both (.pre 9 (sg 0 [bv 9 41,bv 8 42,bv 4 37,bv 3 38,bv 7 41,bv 6 40,bg 5 39,bv 2 37,bv 1 36,bg 0 35]) (.both (.fresh 43 (.post 9 0 (sg 0 [bv 9 41,bv 8 42,bv 4 37,bv 3 38,bv 7 41,bv 6 40,bg 5 39,bv 2 37,bv 1 36,bg 0 35]) 43 (.br (.not (.var 43))
 (.stuck 7 0 0)
 (.both (.pre 5 (sg 0 [bv 11 18,bv 6 21,bv 5 22,bv 9 14,bv 8 13,bv 7 2,bv 4 21,bv 3 4,bg 2 20,bv 1 1,bt 0 (r8 0),bg 10 17]) (.both (.fresh 44 (.post 5 0 (sg 0 [bv 11 18,bv 6 21,bv 5 22,bv 9 14,bv 8 13,bv 7 2,bv 4 21,bv 3 4,bg 2 20,bv 1 1,bt 0 (r8 0),bg 10 17]) 44 (.both (.pre 6 (sg 0 [bv 11 16,bv 6 7,bv 5 6,bv 9 14,bv 8 13,bv 7 2,bv 4 5,bv 3 4,bg 2 3,bv 1 1,bt 0 (r8 0),bg 10 15]) (.both (.fresh 45 (.post 6 0 (sg 0 [bv 11 16,bv 6 7,bv 5 6,bv 9 14,bv 8 13,bv 7 2,bv 4 5,bv 3 4,bg 2 3,bv 1 1,bt 0 (r8 0),bg 10 15]) 45 (.br (.cmp .neq (.var 44) (.var 45))
 (.stuck 7 0 0)
 (.both (.pre 7 (sg 0 [bv 9 18,bv 7 24,bv 6 25,bv 5 24,bv 4 9,bg 3 23,bv 2 2,bv 1 1,bt 0 (r8 0),bg 8 17]) (.both (.fresh 46 (.post 7 0 (sg 0 [bv 9 18,bv 7 24,bv 6 25,bv 5 24,bv 4 9,bg 3 23,bv 2 2,bv 1 1,bt 0 (r8 0),bg 8 17]) 46 (.both (.pre 8 (sg 0 [bv 9 16,bv 7 12,bv 6 11,bv 5 10,bv 4 9,bg 3 8,bv 2 2,bv 1 1,bt 0 (r8 0),bg 8 15]) (.both (.fresh 47 (.post 8 0 (sg 0 [bv 9 16,bv 7 12,bv 6 11,bv 5 10,bv 4 9,bg 3 8,bv 2 2,bv 1 1,bt 0 (r8 0),bg 8 15]) 47 (.br (.beq (.var 46) (.var 47))
 (.both (.pre 9 (sg 0 [bv 9 7,bv 8 6,bv 4 21,bv 3 22,bv 7 5,bv 6 4,bg 5 3,bv 2 21,bv 1 4,bg 0 20]) (.both (.fresh 48 (.post 9 0 (sg 0 [bv 9 7,bv 8 6,bv 4 21,bv 3 22,bv 7 5,bv 6 4,bg 5 3,bv 2 21,bv 1 4,bg 0 20]) 48 (.br (.var 48)
 (.both (.pre 9 (sg 0 [bv 9 12,bv 8 11,bv 4 24,bv 3 25,bv 7 10,bv 6 9,bg 5 8,bv 2 24,bv 1 9,bg 0 23]) (.both (.fresh 49 (.post 9 0 (sg 0 [bv 9 12,bv 8 11,bv 4 24,bv 3 25,bv 7 10,bv 6 9,bg 5 8,bv 2 24,bv 1 9,bg 0 23]) 49 (.br (.var 49)
 (.both (.pre 10 (sg 0 [bv 1 18,bg 0 17]) (.both (.post 10 0 (sg 0 [bv 1 18,bg 0 17]) 50 (.ret 0 (sg 19 []))) .top)) .top)
 (.both (.stuck 7 0 0) .top)))) .top)) .top)
 (.both (.both (.stuck 7 0 0) .top) .top)))) .top)) .top)
 (.both (.both (.both (.stuck 7 0 0) .top) .top) .top)))) .top)) .top))) .top)) .top)))) .top)) .top))) .top)) .top)))) .top)) .top)))))) .top)) .top)))))) .top)) .top)))) .top)) .top)))))) .top)) .top)))))) .top)) .top))))) .top)) .top))))) .top)) .top))))))
theorem qrt:qk ⟨Tryz.prog,qbG,[qgX,qat,qaQ,qhu,qgP,qcI,qeW,qft,qgJ,qeQ,qdj],[]⟩ 100000 Tryz.f9 = qiT:=by kernel_rfl
theorem qtT (hd:∀ c ∈ ([qgX,qat,qaQ,qhu,qgP,qcI,qeW,qft,qgJ,qeQ,qdj]:List Ctr),c.ok Tryz.prog) (h:∀ ρ:Env,ρ.good->(qbG).pre ρ->qiT.den ⟨Tryz.prog,qbG,[qgX,qat,qaQ,qhu,qgP,qcI,qeW,qft,qgJ,qeQ,qdj],[]⟩ ρ):(qbG).ok Tryz.prog :=
 qf Tryz.func9 (fun a w=>Tryz.call9 a w) hd 100000 (fun ρ hg hp=>by rw [qrt]; exact h ρ hg hp)
end Go.Proofs

set_option linter.unusedSimpArgs false
set_option linter.unusedVariables false
namespace Go.Proofs
open Go Go.Eng
theorem q5c {s:Int} {H L:List Int} {n:Nat}:(qdm s H L n).length <= n:=by
 unfold qdm
 have:=List.length_filter_le (fun x=>decide (x ∈ H/\x ∈ L/\x ≠ s)) ((List.range n).map fun (i:Nat)=>(i:Int))
 simpa using this
theorem q1V {s:Int} {H L:List Int} {D:qe} {n:Int} (h:qa4 D n (qdm s H L 16)):n = D.length/\n <= 1000000000000/\∀ row ∈ D,row.length = 1:=by
 obtain ⟨h1,h2,h3⟩:=h
 have h4:=congrArg List.length h2
 rw [qB] at h4
 have:=q5c (s:=s) (H:=H) (L:=L) (n:=16)
 exact ⟨h1,by omega,h3⟩
theorem qsu {o L:List Int} {k:Int} {D:qe} {n:Int} (h:qa4 D n (qaq o L k)):n = D.length/\n <= 1000000000000/\∀ row ∈ D,row.length = 1:=by
 obtain ⟨h1,h2,h3⟩:=h
 have:=qiY h2
 exact ⟨h1,by omega,h3⟩
theorem q3W {D:qe} {n:Int} {l:List Int} {row:List Value} (hm:row ∈ D) (h:qa4 D n l):row.length = 1:=h.2.2 row hm
theorem q9m {x:Int} {D D':qe} (h:D = D') (h2:x = D'.length):x = D.length:=by rw [h]; exact h2
theorem q8w {D D':qe} {row:List Value} (hm:row ∈ D) (h:D = D') (h3:∀ row ∈ D',row.length = 1):row.length = 1:=h3 row (by rw [<- h]; exact hm)
theorem q6P {b:Bool} {A B D D':qe} {n n' k:Int} {o:List Int} (h:b = decide (qh A = qh B)) (h1:qa4 A n (qaq o (qh D) k)) (h2:qa4 B n' (qaq o (qh D') k)) (e:D = D'):b = true:=by
 rw [h,h1.2.1,h2.2.1,e]; simp
theorem q6e {b:Bool} {A B D D' C C':qe} {n n' s:Int} (h:b = decide (qh A = qh B)) (h1:qa4 A n (qdm s (qh C) (qh D) 16)) (h2:qa4 B n' (qdm s (qh C') (qh D') 16)) (e:D = D') (e':C = C'):b = true:=by
 rw [h,h1.2.1,h2.2.1,e,e']; simp
theorem same_eq {b:Bool} {D D':qe} (h:b = decide (qh D = qh D')) (e:D = D'):b = true:=by rw [h,e]; simp
theorem q6V {x y n:Int} {s:Int} {o:List Int} {D D':qe} {p q:Bool} (h1:x = qeA o s (qh D) n p q) (h2:y = qeA o s (qh D') n p q) (e:D = D'):x = y:=by rw [h1,h2,e]
theorem q7O {x y:Bool} {s n:Int} {o:List Int} {D D':qe} (h1:x = qhq o s n (qh D)) (h2:y = qhq o s n (qh D')) (e:D = D'):x = y:=by rw [h1,h2,e]
set_option maxRecDepth 20000 in
theorem qvr:qbG.ok Tryz.prog:=qtT (by simp [q7k,qh6,qna,q85,q7h,qxP qh6,q4Q qna,q8e,q6K,q4T,q1D]) fun ρ hg hp=>by
 obtain ⟨hO,⟨l1,l2,l3⟩,⟨m1,m2,m3⟩,⟨hSr,hSd⟩,hRr,hRd⟩:=hp
 simp only [Nat.reduceAdd] at l1 l2 l3 m1 m2 m3
 simp (config:={ maxSteps:=4000000 }) [qiT,qbG,qlr,qgX,qat,qaQ,qi4,qhu,qgP,qcI,qeW,qtz,qft,qgJ,qvS,qeQ,qdj,qal,qaK,gOk,hO,hSr,hSd,hRr,hRd]
 repeat' (first | with_reducible apply And.intro | with_reducible intro _)
 all_goals first
  | assumption
  | omega
  | exact True.intro
  | exact q9m (by assumption) (by assumption)
  | exact l3 _ (by assumption)
  | exact m3 _ (by assumption)
  | exact q8w (by assumption) (by assumption) (by assumption)
  | exact (qsu (by assumption)).1
  | exact (qsu (by assumption)).2.1
  | exact q3W (by assumption) (by assumption)
  | exact (q1V (by assumption)).1
  | exact (q1V (by assumption)).2.1
  | exact q6P (by assumption) (by assumption) (by assumption) (by assumption)
  | exact q6e (by assumption) (by assumption) (by assumption) (by assumption) (by assumption)
  | exact same_eq (by assumption) (by assumption)
  | exact q6V (by assumption) (by assumption) (by assumption)
  | exact q7O (by assumption) (by assumption) (by assumption)
end Go.Proofs
