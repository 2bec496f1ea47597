/- Texts YE, YG, YK, W5, W6, YM, YR, CQ, CR, YS, W7, YU, YV, YW, CS, W9, V3, VT, VZ, VW, CT, CW, V4, VM, VU, WF, VV, WA, WE, VX, VY, WG, WH, WI, WN, CV, CX, WO. -/
import Derived.Test.YtelcnkclppkicaaDoorG7
import Derived.Test.YtelcnkclppkicaaDoorProg
import Derived.Test.YtelcnkclppkicaaDoorG5
set_option linter.unusedSimpArgs false
set_option linter.unusedVariables false
set_option maxRecDepth 100000
namespace Go.Proofs
open Go Go.Eng

def o_sel62:Out:=(.fresh 12 (.fresh 13 (.pre 0 (sg 0 [bv 6 6,bv 5 5,bv 4 4,bv 3 3,bg 2 2,bv 1 1,bv 0 0]) (.both (.fresh 14 (.post 0 0 (sg 0 [bv 6 6,bv 5 5,bv 4 4,bv 3 3,bg 2 2,bv 1 1,bv 0 0]) 14 (.br (.not (.var 14))
 (.ret 0 (sg 12 []))
 (.need (.cmp .leq (.lit 0) (.var 8)) (.br (.cmp .eql (.var 8) (.lit 0))
 (.ret 0 (sg 12 []))
 (.br (.cmp .gtr (.var 8) (.lit 255))
 (.ret 0 (sg 12 []))
 (.inv 0 15 (sg 1000 [bt 1000 (.lit 0),bg 1002 13,bg 1001 12]) (.fresh 15 (.fresh 16 (.fresh 17 (.hyp 0 15 (.br (.cmp .lss (.var 15) (.var 8))
 (.need (.cmp .leq (.lit 0) (.var 15)) (.need (.cmp .lss (.var 15) (.dlen (.var 10))) (.br (.cmp .lss (.icell (.var 10) (.var 15) 0) (.lit 0))
 (.ret 0 (sg 12 []))
 (.br (.cmp .geq (.icell (.var 10) (.var 15) 0) (.var 0))
 (.ret 0 (sg 12 []))
 (.back 0 15 (sg 1000 [bt 1000 (.arith .add .i64 (.var 15) (.lit 1)),bg 1002 17,bg 1001 16]))))))
 (.pre 1 (sg 0 [bv 1 1,bv 0 8]) (.both (.fresh 18 (.fresh 19 (.fresh 20 (.fresh 21 (.post 1 0 (sg 0 [bv 1 1,bv 0 8]) 18 (.fresh 22 (.inv 1 23 (sg 1000 [bv 1006 21,bv 1005 20,bv 1004 19,bg 1003 18,bt 1000 (.lit 0),bg 1007 22,bg 1002 17,bg 1001 16]) (.fresh 23 (.fresh 24 (.fresh 25 (.fresh 26 (.fresh 27 (.fresh 28 (.fresh 29 (.fresh 30 (.hyp 1 23 (.br (.cmp .lss (.var 23) (.var 8))
 (.need (.cmp .leq (.lit 0) (.var 23)) (.need (.cmp .lss (.var 23) (.dlen (.var 10))) (.both (.pre 2 (sg 0 [bv 6 28,bv 5 29,bv 7 23,bv 4 28,bv 3 27,bg 2 26,bv 1 1,bv 0 8]) (.both (.fresh 31 (.fresh 32 (.fresh 33 (.post 2 0 (sg 0 [bv 6 28,bv 5 29,bv 7 23,bv 4 28,bv 3 27,bg 2 26,bv 1 1,bv 0 8]) 31 (.both (.pre 2 (sg 0 [bv 6 6,bv 5 5,bt 7 (.icell (.var 10) (.var 23) 0),bv 4 4,bv 3 3,bg 2 2,bv 1 1,bv 0 0]) (.both (.fresh 34 (.fresh 35 (.fresh 36 (.post 2 0 (sg 0 [bv 6 6,bv 5 5,bt 7 (.icell (.var 10) (.var 23) 0),bv 4 4,bv 3 3,bg 2 2,bv 1 1,bv 0 0]) 34 (.both (.need (.cmp .leq (.lit 0) (.var 31)) (.need (.cmp .leq (.lit 0) (.var 32)) (.need (.cmp .leq (.plus (.var 31) (.var 32)) (.dlen (.var 29))) (.need (.cmp .leq (.lit 0) (.var 34)) (.need (.cmp .leq (.lit 0) (.var 35)) (.need (.cmp .leq (.plus (.var 34) (.var 35)) (.dlen (.var 5))) (.fresh 37 (.back 1 23 (sg 1000 [bt 1006 (.c3 .dsplice (.var 29) (.var 31) (.dtake (.dtake (.ddrop (.var 5) (.var 34)) (.var 35)) (.imin (.var 32) (.var 35)))),bv 1005 28,bv 1004 27,bg 1003 26,bt 1000 (.arith .add .i64 (.var 23) (.lit 1)),bg 1007 30,bg 1002 25,bg 1001 24]))))))))) .top))))) .top)) .top))))) .top)) .top)))
 (.ret 1 (sg 12 [bv 15 29,bv 14 28,bv 13 27,bg 12 26]))))))))))))))))))) .top)))))))))))))) .top))))
theorem o_sel62_eq:treeOf ⟨Tryd.prog,sel62C,[valid36C,zero82C,row75C],[sel62I,sel62J]⟩ 100000 Tryd.f134 = o_sel62:=by kernel_rfl
theorem sel62_of (hd:∀ c ∈ ([valid36C,zero82C,row75C]:List Ctr),c.ok Tryd.prog) (h:∀ ρ:Env,ρ.good→(sel62C).pre ρ→o_sel62.den ⟨Tryd.prog,sel62C,[valid36C,zero82C,row75C],[sel62I,sel62J]⟩ ρ):(sel62C).ok Tryd.prog :=
 ok_of_tree Tryd.func134 (fun a w=>Tryd.call134 a w) hd 100000 (fun ρ hg hp=>by rw [o_sel62_eq]; exact h ρ hg hp)
end Go.Proofs

set_option linter.unusedSimpArgs false
set_option linter.unusedVariables false
namespace Go.Proofs
open Go Go.Eng

theorem take_snoc' {l:List Int} {n:Nat} (h:n < l.length):l.take (n + 1) = l.take n ++ [l.getD n 0]:=by
 rw [List.take_add_one,List.getD_eq_getElem?_getD,List.getElem?_eq_getElem h]; rfl
end Go.Proofs

set_option linter.unusedSimpArgs false
set_option linter.unusedVariables false
namespace Go.Proofs
open Go Go.Eng
theorem iI_len {d:Rows'}:(iI d).length = d.length:=by simp [iI]
theorem iI_get {d:Rows'} {i:Int} (h0:0 ≤ i) (h1:i < d.length):(iI d).getD i.toNat 0 = cellI d i 0:=by
 have hl:i.toNat < d.length:=by omega
 simp [iI,cellI,cellV,rowI,List.getD_eq_getElem?_getD,List.getElem?_eq_getElem hl]
theorem selL_snoc {m:List Int} {c:Nat} {rs:List Int} {n:Nat} (h:n < rs.length):selL m c (rs.take (n + 1)) = selL m c (rs.take n) ++ seg m ((rs.getD n 0).toNat * c) c:=by
 rw [take_snoc' h,selL,List.flatMap_append]; simp [selL]
theorem selL_len {m:List Int} {c r:Nat} (hm:r * c ≤ m.length):∀ {rs:List Int},(∀ x ∈ rs,0 ≤ x∧x < (r:Int))→(selL m c rs).length = rs.length * c
 | [],_=>by simp [selL]
 | x :: rs,h=>by
  have ih:=selL_len hm (rs:=rs) fun y hy=>h y (List.mem_cons_of_mem _ hy)
  have hx:=h x (List.mem_cons_self ..)
  have:=row_le (ca:=c) (show x.toNat < r by omega)
  rw [selL,List.flatMap_cons,List.length_append,seg_len (by omega),show (rs.flatMap fun r=>seg m (r.toNat * c) c) = selL m c rs from rfl,ih,List.length_cons,Nat.add_mul]; omega
theorem selBad_not {r c l n rows:Int} {rs:List Int} (h:selOk r c l n) (hr:∀ x ∈ rs,0 ≤ x∧x < rows):¬ selBad r c l n rows rs:=by
 obtain ⟨h1,h2,h3⟩:=h
 intro hb
 rcases hb with hb | hb | hb | ⟨x,hx,hb⟩
 ·exact hb h1
 ·omega
 ·omega
 ·have:=hr x hx; omega
theorem mem_take_succ {l:List Int} {n:Nat} {P:Int→Prop} (hn:n < l.length) (h:∀ x ∈ l.take n,P x) (hx:P (l.getD n 0)):∀ x ∈ l.take (n + 1),P x:=fun x hm=>by
 rw [take_snoc' hn] at hm
 rcases List.mem_append.1 hm with hm | hm
 ·exact h x hm
 ·rw [List.mem_singleton] at hm; rw [hm]; exact hx
theorem getD_mem {l:List Int} {n:Nat} (h:n < l.length):l.getD n 0 ∈ l:=by
 rw [List.getD_eq_getElem?_getD,List.getElem?_eq_getElem h]; exact List.getElem_mem h
theorem splice_take {d x:Rows'} {k:Nat} (h:k + x.length ≤ d.length):(bI (spliceD d k x)).take (k + x.length) = (bI d).take k ++ bI x:=by
 rw [spliceD,bI,List.map_append,List.map_append,List.append_assoc,← List.append_assoc,List.take_append_of_le_length (by simp; omega),List.take_of_length_le (by simp; omega)]
 simp [bI,List.map_take]
theorem allB_spliceK {d x:Rows'} {k:Nat} (hd:allB d) (hx:allB x):allB (spliceD d k x):=fun r hr=>by
 unfold spliceD at hr
 rcases List.mem_append.1 hr with hr | hr
 ·rcases List.mem_append.1 hr with hr | hr
  ·exact hd r (List.mem_of_mem_take hr)
  ·exact hx r hr
 ·exact hd r (List.mem_of_mem_drop hr)
theorem bI_drop {d:Rows'} {n:Nat}:bI (d.drop n) = (bI d).drop n:=by simp [bI,List.map_drop]
theorem sel62_ok:sel62C.ok Tryd.prog:=sel62_of (by simp [valid36_ok,zero82_ok,row75_ok]) fun ρ hg hp=>by
 obtain ⟨a0,a1,a2,a3,n0,n1⟩:0 ≤ (ρ 3).i∧(ρ 3).i ≤ (ρ 4).i∧(ρ 3).i ≤ (ρ 5).d.length∧allB (ρ 5).d∧0 ≤ (ρ 8).i∧(ρ 8).i = (ρ 10).d.length:=hp
 simp (config:={ maxSteps:=4000000 }) [o_sel62,sel62C,sel62I,sel62J,valid36C,zero82C,row75C]
 refine ⟨a0,fun v _ hv=>⟨fun hb=>.inl fun h=>?_,fun hb=>⟨n0,fun h=>.inr (.inl h),fun hn=>⟨fun h=>.inr (.inr (.inl h)),fun hn2=>?_⟩⟩⟩⟩
 ·have:=hv.2 h; rw [hb] at this; cases this
 have vA:validM (ρ 0).i (ρ 1).i (ρ 3).i:=hv.1 hb
 have hok:selOk (ρ 0).i (ρ 1).i (ρ 3).i (ρ 8).i:=⟨vA,by omega,hn2⟩
 have vA':=vA
 obtain ⟨r1,r2,c1,c2,hl⟩:=vA'
 have hil:(iI (ρ 10).d).length = (ρ 8).i.toNat:=by rw [iI_len]; omega
 refine ⟨⟨hok,n0⟩,fun i _ _ i0 i1 hin=>⟨fun hi=>⟨i0,by omega,fun h=>?_,fun h0=>⟨fun h=>?_,fun h1=>?_⟩⟩,fun hi=>?_⟩⟩
 ·refine .inr (.inr (.inr ⟨cellI (ρ 10).d i.i 0,?_,.inl h⟩))
  rw [← iI_get i0 (by omega)]; exact getD_mem (by omega)
 ·refine .inr (.inr (.inr ⟨cellI (ρ 10).d i.i 0,?_,.inr h⟩))
  rw [← iI_get i0 (by omega)]; exact getD_mem (by omega)
 ·rw [add64 (by omega) (by omega)]
  refine ⟨⟨hok,by omega,by omega,?_⟩,by omega⟩
  rw [show (i.i + 1).toNat = i.i.toNat + 1 by omega]
  exact mem_take_succ (by omega) hin (by rw [iI_get i0 (by omega)]; exact ⟨h0,h1⟩)
 have hall:∀ x ∈ iI (ρ 10).d,0 ≤ x∧x < (ρ 0).i:=by
  rw [List.take_of_length_le (by omega)] at hin; exact hin
 have hbb:=mul_bound (x:=(ρ 8).i) (y:=(ρ 1).i) n0 hn2 (by omega) c2
 refine ⟨⟨n0,hn2,by omega,c2⟩,fun l _ cp _ d _ hl1 hc1 hd=>⟨⟨hok,n0,hall,?_,by rw [hd,List.length_replicate]; omega,rfl⟩,fun j _ l2 _ cp2 _ d2 _ _ j0 j1 _ hM hL hS=>⟨fun hj=>?_,fun hj=>?_⟩⟩⟩
 ·exact ⟨n0,hn2,by omega,c2,hl1,by omega,by rw [hd,List.length_replicate]; omega,by rw [hd]; exact allB_rep⟩
 ·have hx:=hall _ (getD_mem (l:=iI (ρ 10).d) (n:=j.i.toNat) (by omega))
  rw [iI_get j0 (by omega)] at hx
  have hM':=hM
  obtain ⟨m1,m2,m3,m4,m5,m6,m7,m8⟩:=hM'
  refine ⟨j0,by omega,⟨j0,hj,hM⟩,fun o _ n _ k _ ho hn' hk=>⟨⟨hx.1,hx.2,by omega,r2,by omega,c2,hl,a1,a2,a3⟩,fun o' _ n' _ k' _ ho' hn'' hk'=>?_⟩⟩
  have hbj:=mul_bound (x:=j.i) (y:=(ρ 1).i) j0 (show j.i ≤ 255 by omega) (by omega) c2
  have hbx:=mul_bound (x:=cellI (ρ 10).d j.i 0) (y:=(ρ 1).i) hx.1 (show _ ≤ 255 by omega) (by omega) c2
  have hle1:j.i * (ρ 1).i + (ρ 1).i ≤ (ρ 8).i * (ρ 1).i:=by
   have:=Int.mul_le_mul_of_nonneg_right (show j.i + 1 ≤ (ρ 8).i by omega) (show 0 ≤ (ρ 1).i by omega)
   rw [Int.add_mul,Int.one_mul] at this; omega
  have hle2:cellI (ρ 10).d j.i 0 * (ρ 1).i + (ρ 1).i ≤ (ρ 0).i * (ρ 1).i:=by
   have:=Int.mul_le_mul_of_nonneg_right (show cellI (ρ 10).d j.i 0 + 1 ≤ (ρ 0).i by omega) (show 0 ≤ (ρ 1).i by omega)
   rw [Int.add_mul,Int.one_mul] at this; omega
  rw [if_neg (by omega),add64 (by omega) (by omega)]
  have hseg:((((ρ 5).d.drop o'.i.toNat).take n'.i.toNat).take n.i.toNat) = ((ρ 5).d.drop o'.i.toNat).take (ρ 1).i.toNat:=by rw [List.take_take,hn',hn'',Nat.min_self]
  rw [hseg]
  have hsl:(((ρ 5).d.drop o'.i.toNat).take (ρ 1).i.toNat).length = (ρ 1).i.toNat:=by rw [List.length_take,List.length_drop]; omega
  refine ⟨by omega,by omega,by omega,by omega,by omega,by omega,⟨hok,by omega,by omega,hall,?_,?_,?_⟩,by omega⟩
  ·exact ⟨m1,m2,m3,m4,m5,m6,by rw [spliceD_len (by rw [hsl]; omega)]; exact m7,allB_spliceK m8 fun r hr=>a3 r (List.mem_of_mem_drop (List.mem_of_mem_take hr))⟩
  ·rw [spliceD_len (by rw [hsl]; omega)]; exact hL
  ·have hk1:((j.i + 1) * (ρ 1).i).toNat = o.i.toNat + (((ρ 5).d.drop o'.i.toNat).take (ρ 1).i.toNat).length:=by rw [hsl,Int.add_mul,Int.one_mul]; omega
   rw [hk1,splice_take (by rw [hsl]; omega),ho,hS,show (j.i + 1).toNat = j.i.toNat + 1 by omega,selL_snoc (by omega),iI_get j0 (by omega),bI_take,bI_drop,ho',seg]
   congr 3
   rw [Int.toNat_mul hx.1 (by omega)]
 ·have:j.i = (ρ 8).i:=by omega
  have hl8:=hM.2.2.2.2.1
  rw [this,List.take_of_length_le (by rw [bI_len]; omega),List.take_of_length_le (by omega)] at hS
  exact ⟨selBad_not hok hall,hM,hL,hS⟩
theorem lagF_congr {n:Nat} {xs ys:Nat→F} {x:F} {i:Nat} (hi:i < n) (h:∀ m,m < n→xs m = ys m):lagF n xs x i = lagF n ys x i:=by
 rw [lagF,lagF,fprod_congr (g:=fun m=>if m = i then 1 else x ^^^ ys m) fun m hm=>by simp only [h m hm],fprod_congr (f:=fun m=>if m = i then 1 else xs i ^^^ xs m) (g:=fun m=>if m = i then 1 else ys i ^^^ ys m) fun m hm=>by simp only [h m hm,h i hi]]
theorem first_get {n m:Nat} (h:m < n):(firstL n).getD m 0 = (m:Int):=by
 rw [List.getD_eq_getElem?_getD,firstL,List.getElem?_map,List.getElem?_range h]; rfl
theorem first_len {n:Nat}:(firstL n).length = n:=by simp [firstL]
theorem gen_row {k total i:Nat} (h1:1 ≤ k) (hk:k ≤ total) (ht:total ≤ 255) (hi:i < total):(genL k total).take ((i + 1) * k) = (genL k total).take (i * k) ++ wgtL (firstL k) (i:Int):=by
 obtain ⟨g1,g2,_,g4⟩:=gen_facts h1 hk ht
 rw [Nat.add_mul,Nat.one_mul,List.take_add]
 congr 1
 have hle:=row_le (ca:=k) hi
 apply List.ext_getElem?
 intro j
 rw [List.getElem?_take,List.getElem?_drop,wgtL,first_len,List.getElem?_map]
 by_cases hj:j < k
 ·rw [if_pos hj,List.getElem?_range hj,Option.map_some,List.getElem?_eq_getElem (by omega)]
  have h2:=g4 i j hi hj
  rw [matL,List.getD_eq_getElem?_getD,List.getElem?_eq_getElem (by omega),Option.getD_some] at h2
  rw [Option.some.injEq,← ofF_toF (g2 _ (List.getElem_mem (l:=genL k total) (n:=i * k + j) (by omega))),h2]
  congr 1
  refine lagF_congr hj fun m hm=>?_
  rw [first_get hm]; rfl
 ·rw [if_neg hj,List.getElem?_eq_none (l:=List.range k) (by simp; omega)]; rfl
end Go.Proofs

set_option linter.unusedSimpArgs false
set_option linter.unusedVariables false
namespace Go.Eng
open Go Go.Proofs
def chooseOk (k total:Nat) (rs:List Int):Prop:=rs.length = k∧rs.Nodup∧∀ x ∈ rs,0 ≤ x∧x < (total:Int)
end Go.Eng
namespace Go.Proofs
open Go Go.Eng

theorem del_symm {i j:Nat}:del i j = del j i:=by
 unfold del
 by_cases hij:i = j
 ·rw [if_pos hij,if_pos hij.symm]
 ·rw [if_neg hij,if_neg (Ne.symm hij)]
theorem sel_get {m:List Int} {k R:Nat} (hm:m.length = R * k):∀ {rs:List Int},(∀ x ∈ rs,0 ≤ x∧x < (R:Int))→∀ {i j:Nat},i < rs.length→j < k→(selL m k rs).getD (i * k + j) 0 = m.getD ((rs.getD i 0).toNat * k + j) 0
 | [],_,i,j,hi,_=>by simp at hi
 | x :: rs,h,i,j,hi,hj=>by
  have hx:=h x (List.mem_cons_self ..)
  have hxk:x.toNat * k + k ≤ R * k:=by
   have h1:x.toNat + 1 ≤ R:=by omega
   have:=Nat.mul_le_mul_right k h1
   rw [Nat.add_mul] at this; omega
  have hsl:(seg m (x.toNat * k) k).length = k:=by rw [seg,List.length_take,List.length_drop]; omega
  rw [selL,List.flatMap_cons]
  cases i with
  | zero =>
   rw [Nat.zero_mul,Nat.zero_add,List.getD_eq_getElem?_getD,List.getElem?_append_left (by rw [hsl]; exact hj),seg,List.getElem?_take,if_pos hj,List.getElem?_drop,← List.getD_eq_getElem?_getD]
   rfl
  | succ i =>
   have ih:=sel_get hm (rs:=rs) (fun y hy=>h y (List.mem_cons_of_mem _ hy)) (i:=i) (j:=j) (by simpa using hi) hj
   rw [List.getD_eq_getElem?_getD,List.getElem?_append_right (by rw [hsl,Nat.add_mul]; omega),hsl,show (i + 1) * k + j - k = i * k + j by rw [Nat.add_mul]; omega,← List.getD_eq_getElem?_getD]
   exact ih
theorem sel_bytes {m:List Int} {k:Nat} {rs:List Int} (h:bytesL m):bytesL (selL m k rs):=fun x hx=>by
 rw [selL,List.mem_flatMap] at hx
 obtain ⟨r,_,hx⟩:=hx
 exact h x (List.mem_of_mem_drop (List.mem_of_mem_take hx))
theorem chosen_distinct {k total:Nat} {rs:List Int} (h:chooseOk k total rs) (ht:total ≤ 255):distinct k fun i=>xsF (rs.getD i 0).toNat:=by
 obtain ⟨h1,h2,h3⟩:=h
 intro i j hi hj he
 have gi:rs.getD i 0 = rs[i]'(by omega):=by rw [List.getD_eq_getElem?_getD,List.getElem?_eq_getElem (by omega)]; rfl
 have gj:rs.getD j 0 = rs[j]'(by omega):=by rw [List.getD_eq_getElem?_getD,List.getElem?_eq_getElem (by omega)]; rfl
 have mi:=h3 _ (List.getElem_mem (l:=rs) (n:=i) (by omega))
 have mj:=h3 _ (List.getElem_mem (l:=rs) (n:=j) (by omega))
 simp only [gi,gj] at he
 have:=xs_distinct (n:=256) (Nat.le_refl _) _ _ (by omega) (by omega) he
 exact (List.getElem_inj (h₀:=by omega) (h₁:=by omega) h2).1 (by omega)
theorem sel_len' {m:List Int} {k total:Nat} {rs:List Int} (h:chooseOk k total rs) (hm:m.length = total * k):(selL m k rs).length = k * k:=by
 rw [selL_len (r:=total) (by omega) h.2.2,h.1]
theorem gen_inj {k total:Nat} {rs:List Int} (h:chooseOk k total rs) (h1:1 ≤ k) (hk:k ≤ total) (ht:total ≤ 255) {y:Nat→F}
  (hy:∀ i,i < k→fsum (fun j=>fmul (matL k (genL k total) (rs.getD i 0).toNat j) (y j)) k = 0):∀ j,j < k→y j = 0:=by
 obtain ⟨g1,g2,g3,_⟩:=gen_facts h1 hk ht
 obtain ⟨t2,he⟩:=top_ech hk ht
 obtain ⟨_,m2⟩:=inv_mul he
 have hz:∀ l,l < k→fsum (fun j=>fmul (matL k (topE k total).2.1 l j) (y j)) k = 0:=vander_inj (chosen_distinct h ht) fun i hi=>by
  rw [← hy i hi]
  have hx:=h.2.2 (rs.getD i 0) (by rw [List.getD_eq_getElem?_getD,List.getElem?_eq_getElem (by rw [h.1]; exact hi)]; exact List.getElem_mem _)
  have e2:fsum (fun j=>fmul (matL k (genL k total) (rs.getD i 0).toNat j) (y j)) k = fsum (fun j=>fsum (fun l=>fmul (fmul (fpow (xsF (rs.getD i 0).toNat) l) (matL k (topE k total).2.1 l j)) (y j)) k) k:=fsum_congr fun j hj=>by rw [g3 _ j (by omega) hj,fsum_mul']
  rw [e2,fsum_swap]
  refine fsum_congr fun l hl=>?_
  rw [← fsum_mul]
  exact fsum_congr fun j hj=>by rw [fmul_assoc]
 intro j hj
 have e1:y j = fsum (fun i=>fmul (y i) (del i j)) k:=(fsum_del' (f:=y) hj).symm
 rw [e1,fsum_congr (g:=fun i=>fsum (fun l=>fmul (matL k ((vanderL total k).take (k * k)) j l) (fmul (matL k (topE k total).2.1 l i) (y i))) k) fun i hi=>?_,fsum_swap]
 ·refine fsum_zero fun l hl=>?_
  rw [fsum_mul,hz l hl,fmul_zero]
 ·have:=m2 j i hj hi
  rw [show del i j = del j i from del_symm,← this,fmul_comm,← fsum_mul']
  exact fsum_congr fun l hl=>by rw [fmul_assoc]
theorem rows_gen {k total:Nat} {rs:List Int} (h:chooseOk k total rs) (h1:1 ≤ k) (hk:k ≤ total) (ht:total ≤ 255):(invE (selL (genL k total) k rs) k).2.2 = k:=by
 obtain ⟨g1,g2,_,_⟩:=gen_facts h1 hk ht
 refine inv_rank (sel_len' h g1) (sel_bytes g2) fun y hy=>gen_inj h h1 hk ht fun i hi=>?_
 rw [← hy i hi]
 refine fsum_congr fun j hj=>?_
 rw [matL,matL,sel_get g1 h.2.2 (by rw [h.1]; exact hi) hj]

end Go.Proofs

set_option linter.unusedSimpArgs false
set_option linter.unusedVariables false
namespace Go.Eng
open Go Go.Proofs
end Go.Eng
namespace Go.Proofs
open Go Go.Eng
theorem enc_pc {h:Hp} {D:Rows'} {n:Nat} {f:Nat→List Int} (he:encAt h D n f):pcOk h D n∧∀ j,j < n→pcI D j = j∧pcD h D j = f j:=by
 refine ⟨fun j hj=>?_,fun j hj=>?_⟩
 ·obtain ⟨v,d,e,hr,_,hb⟩:=he j hj
  exact ⟨_,v,d,e,hr,hb⟩
 ·obtain ⟨v,d,e,hr,hf,hb⟩:=he j hj
  refine ⟨by simp [pcI,cellI,cellV,e,vInt],?_⟩
  rw [pcD,show cellV D (j:Int) 1 = v by simp [cellV,e],rdL_eq hr,hf]
end Go.Proofs

set_option linter.unusedSimpArgs false
set_option linter.unusedVariables false
namespace Go.Eng
open Go Go.Proofs

def genKC:Ctr:={ gen35C with pre:=fun ρ=>fieldD (ρ 1).d∧sizesB (ρ 2).i (ρ 3).i = true,alts:=gen35C.alts.drop 1 }
def selGC:Ctr:={ sel62C with pre:=fun ρ=>sel62C.pre ρ∧¬ selBad (ρ 0).i (ρ 1).i (ρ 3).i (ρ 8).i (ρ 0).i (iI (ρ 10).d),alts:=sel62C.alts.drop 1 }
def invGC:Ctr:={ inverse55C with pre:=fun ρ=>inverse55C.pre ρ∧validM (ρ 2).i (ρ 3).i (ρ 5).i∧(ρ 2).i = (ρ 3).i∧(invE ((bI (ρ 7).d).take (ρ 5).i.toNat) (ρ 2).i.toNat).2.2 = (ρ 2).i.toNat,alts:=inverse55C.alts.drop 1 }
def rangeI (n:Nat):List Int:=(List.range n).map fun (m:Nat)=>(m:Int)
end Go.Eng

set_option linter.unusedSimpArgs false
set_option linter.unusedVariables false
namespace Go.Eng
open Go Go.Proofs

def samePc (h h':Hp) (D D':Rows') (n n':Nat):Prop:=n = n'∧∀ j,j < n→pcI D j = pcI D' j∧pcD h D j = pcD h' D' j
def mixN (f:Nat→List Int) (w:List Int) (l:Nat):Nat→List Int
 | 0=>List.replicate l 0
 | j + 1=>addToL (mixN f w l j) 0 (seg (f j) 0 l) (w.getD j 0)
end Go.Eng

set_option linter.unusedSimpArgs false
set_option linter.unusedVariables false
namespace Go.Eng
open Go Go.Proofs
def caseCells:List T:=[.vint .i64 (.var 0),.vint .i64 (.var 1),.vint .i64 (.var 2),.vint .i64 (.var 3),.vslice 4 (.lit 0) (.var 5) (.var 6) 1] ++ (manT 7 8 9 10 11 12 13 14 ++ [.vslice 15 (.lit 0) (.var 16) (.var 17) 2,.vslice 18 (.lit 0) (.var 19) (.var 20) 1])
end Go.Eng

set_option linter.unusedSimpArgs false
set_option linter.unusedVariables false
set_option maxRecDepth 100000
namespace Go.Proofs
open Go Go.Eng

end Go.Proofs

set_option linter.unusedSimpArgs false
set_option linter.unusedVariables false
namespace Go.Eng
open Go Go.Proofs

end Go.Eng

set_option linter.unusedSimpArgs false
set_option linter.unusedVariables false
namespace Go.Proofs
open Go Go.Eng

theorem pc_atI {h:Hp} {D:Rows'} {n:Int} {j:Int} (hp:pcOk h D n.toNat) (h0:0 ≤ j) (h1:j < n):j < (D.length:Int)∧cellI D j 0 = pcI D j.toNat∧∃ d,Rd h kB (cellV D j 1) d∧allB d∧pcD h D j.toNat = bI d:=by
 obtain ⟨v,d,e,hv,hr,hb,hd⟩:=pc_at hp (j:=j.toNat) (by omega)
 rw [Int.toNat_of_nonneg h0] at hv
 have hl:=(List.getElem?_eq_some_iff.1 e).1
 exact ⟨by omega,by rw [pcI,Int.toNat_of_nonneg h0],d,by rw [hv]; exact hr,hb,hd⟩
theorem seg_all {s:List Int}:seg s 0 s.length = s:=by simp [seg]
theorem enc_seg {k total:Nat} {data:List Int} (h1:1 ≤ k) (hk:k ≤ total) (ht:total ≤ 255) (hb:bytesL data) {i:Nat} (hi:i < k) :
  encP k total data i = seg (fullL data (k * pieceLen k data.length)) (i * pieceLen k data.length) (pieceLen k data.length):=by
 obtain ⟨e1,_,_⟩:=enc_facts h1 hk ht hb i
 obtain ⟨f1,f2⟩:=full_facts hb (n:=k * pieceLen k data.length) (pieceLen_ge' (by omega))
 have hle:i * pieceLen k data.length + pieceLen k data.length ≤ k * pieceLen k data.length:=by
  have:=Nat.mul_le_mul_right (pieceLen k data.length) (show i + 1 ≤ k by omega)
  rw [Nat.add_mul,Nat.one_mul] at this; exact this
 have hsl:(seg (fullL data (k * pieceLen k data.length)) (i * pieceLen k data.length) (pieceLen k data.length)).length = pieceLen k data.length:=seg_len (by rw [f1]; exact hle)
 refine list_ext_getD (by rw [e1,hsl]) fun c hc=>?_
 rw [e1] at hc
 rw [enc_top h1 hk ht hb hi hc,← full_get (n:=k * pieceLen k data.length),List.getD_eq_getElem?_getD,List.getD_eq_getElem?_getD,seg_get,if_pos hc]
theorem enc_mix {k total:Nat} {data:List Int} (h1:1 ≤ k) (hk:k ≤ total) (ht:total ≤ 255) (hb:bytesL data) {i:Nat} (hi:i < total) {f:Nat→List Int} (hf:∀ j,j < k→f j = encP k total data j) :
  mixN f (wgtL (firstL k) (i:Int)) (pieceLen k data.length) k = encP k total data i:=by
 have hw:∀ j,j < k→(wgtL (firstL k) (i:Int)).getD j 0 = (genL k total).getD (i * k + j) 0:=fun j hj=>by
  have hr:=gen_row h1 hk ht hi
  obtain ⟨g1,_⟩:=gen_facts h1 hk ht
  have hle:=row_le (ca:=k) hi
  have h2:((genL k total).take ((i + 1) * k))[i * k + j]? = ((genL k total).take (i * k) ++ wgtL (firstL k) (i:Int))[i * k + j]?:=by rw [hr]
  rw [List.getElem?_take,if_pos (by rw [Nat.add_mul]; omega),List.getElem?_append_right (by simp; omega),List.length_take,g1,Nat.min_eq_left (by omega),Nat.add_sub_cancel_left] at h2
  rw [List.getD_eq_getElem?_getD,List.getD_eq_getElem?_getD,h2]
 have key:∀ j,j ≤ k→mixN f (wgtL (firstL k) (i:Int)) (pieceLen k data.length) j = pieceN (genL k total) (fullL data (k * pieceLen k data.length)) k (pieceLen k data.length) i j:=by
  intro j
  induction j with
  | zero=>intro _; rfl
  | succ j ih =>
   intro hj
   rw [mixN,pieceN,ih (by omega),hw j (by omega),hf j (by omega)]
   obtain ⟨e1,_,_⟩:=enc_facts h1 hk ht hb j
   have hs:seg (encP k total data j) 0 (pieceLen k data.length) = encP k total data j:=by
    have:=seg_all (s:=encP k total data j)
    rw [e1] at this
    exact this
   rw [hs,enc_seg h1 hk ht hb (i:=j) (by omega)]
 exact key k (Nat.le_refl _)
theorem mixN_len {f:Nat→List Int} {w:List Int} {l:Nat}:∀ j,(mixN f w l j).length = l
 | 0=>by simp [mixN]
 | j + 1=>by rw [mixN,addToL_len,mixN_len j]
end Go.Proofs

set_option linter.unusedSimpArgs false
set_option linter.unusedVariables false
set_option maxRecDepth 100000
namespace Go.Proofs
open Go Go.Eng

end Go.Proofs

set_option linter.unusedSimpArgs false
set_option linter.unusedVariables false
namespace Go.Proofs
open Go Go.Eng
theorem range_nodup {n:Nat}:(rangeI n).Nodup:=List.pairwise_map.2 (List.nodup_range.imp fun h e=>h (by omega))
theorem range_mem {n:Nat} {x:Int} (h:x ∈ rangeI n):0 ≤ x∧x < n:=by
 obtain ⟨m,hm,rfl⟩:=List.mem_map.1 h
 have:=List.mem_range.1 hm
 omega
theorem chosen {o l:List Int} {n k:Nat} (h:(o ++ l).Perm (rangeI n)) (hk:o.length = k):o.length = k∧o.Nodup∧∀ x ∈ o,0 ≤ x∧x < (n:Int) :=
 ⟨hk,(List.nodup_append.1 (h.nodup_iff.2 range_nodup)).1,fun x hx=>range_mem (h.mem_iff.1 (List.mem_append_left _ hx))⟩
theorem genK_ok:genKC.ok Tryd.prog:=Ctr.ok_less gen35_ok rfl rfl rfl rfl rfl (fun _ h=>h.1) fun ρ ρ' ai al hp hag hal hpost=>by
 match ai,hal with
 | 0,hal =>
  exfalso
  obtain rfl:=Option.some.inj hal
  obtain ⟨_,h2⟩:_∧(sizesB ((ρ'.upto 5) 2).i ((ρ'.upto 5) 3).i = true→(topE ((ρ'.upto 5) 2).i.toNat ((ρ'.upto 5) 3).i.toNat).2.2 < ((ρ'.upto 5) 2).i.toNat):=hpost
  have e:=upto_at (m:=5) (nv:=4) hag (by omega)
  rw [e 2 (by omega),e 3 (by omega)] at h2
  obtain ⟨k1,k2,k3⟩:=sizesB_iff.1 hp.2
  have:=h2 hp.2
  rw [top_rank (by omega) (by omega)] at this
  omega
 | 1,hal=>exact ⟨0,hal⟩
 | n + 2,hal=>cases hal
theorem selG_ok:selGC.ok Tryd.prog:=Ctr.ok_less sel62_ok rfl rfl rfl rfl rfl (fun _ h=>h.1) fun ρ ρ' ai al hp hag hal hpost=>by
 match ai,hal with
 | 0,hal =>
  exfalso
  obtain rfl:=Option.some.inj hal
  have h2:selBad ((ρ'.upto 12) 0).i ((ρ'.upto 12) 1).i ((ρ'.upto 12) 3).i ((ρ'.upto 12) 8).i ((ρ'.upto 12) 0).i (iI ((ρ'.upto 12) 10).d):=hpost
  have e:=upto_at (m:=12) (nv:=12) hag (by omega)
  rw [e 0 (by omega),e 1 (by omega),e 3 (by omega),e 8 (by omega),e 10 (by omega)] at h2
  exact hp.2 h2
 | 1,hal=>exact ⟨0,hal⟩
 | n + 2,hal=>cases hal
theorem invG_ok:invGC.ok Tryd.prog:=Ctr.ok_less inverse55_ok rfl rfl rfl rfl rfl (fun _ h=>h.1) fun ρ ρ' ai al hp hag hal hpost=>by
 match ai,hal with
 | 0,hal =>
  exfalso
  obtain rfl:=Option.some.inj hal
  have e:=upto_at (m:=11) (nv:=9) hag (by omega)
  obtain ⟨_,h2⟩:=hpost
  simp only [show (9 + 2:Nat) = 11 from rfl,show inverse55C.nv = 9 from rfl] at h2
  rw [e 2 (by omega),e 3 (by omega),e 5 (by omega),e 7 (by omega)] at h2
  obtain ⟨_,p1,p2,p3⟩:=hp
  rcases h2 with ⟨h,_⟩ | ⟨_,h,_⟩ | ⟨_,_,h,_⟩
  ·exact h p1
  ·exact h p2
  ·rw [p3] at h; omega
 | 1,hal=>exact ⟨0,hal⟩
 | n + 2,hal=>cases hal
end Go.Proofs

set_option linter.unusedSimpArgs false
set_option linter.unusedVariables false
namespace Go.Proofs
open Go Go.Eng
end Go.Proofs

set_option linter.unusedSimpArgs false
set_option linter.unusedVariables false
namespace Go.Proofs
open Go Go.Eng
set_option maxRecDepth 20000
end Go.Proofs

set_option linter.unusedSimpArgs false
set_option linter.unusedVariables false
namespace Go.Eng
open Go Go.Proofs
def blk:Value→Option Nat
 | .slice (some a) _ _=>some a.block
 | _=>none
def tabV (h:Hp) (vs:Nat→Value) (n:Nat) (M:Nat→List Int):Prop :=
 (∀ j,j < n→∃ d,Rd h kB (vs j) d∧bI d = M j∧allB d)∧∀ i j,i < n→j < n→i ≠ j→M i ≠ []→M j ≠ []→blk (vs i) ≠ blk (vs j)
end Go.Eng
namespace Go.Proofs
open Go Go.Eng
theorem bI_nil {d:Rows'}:bI d = []↔d = []:=by
 constructor
 ·intro h
  have:=congrArg List.length h
  rw [bI_len] at this
  exact List.length_eq_zero_iff.1 (by simpa using this)
 ·rintro rfl; rfl
theorem Rd_blk {h:Hp} {pat:List CK} {v:Value} {d:Rows'} (hr:Rd h pat v d) (hd:d ≠ []):∃ b o cap c ty fr,v = .slice (some ⟨b,o,none⟩) d.length cap∧d.length ≤ cap∧blk v = some b∧h b = some (.cells c ty fr)∧rowsAt c o pat d:=by
 rcases hr with ⟨a,_,h0⟩ | ⟨b,o,cap,c,ty,fr,h1,h2,h3,h4⟩
 ·exact (hd h0).elim
 ·exact ⟨b,o,cap,c,ty,fr,h1,h2,by rw [h1]; rfl,h3,h4⟩
theorem tab_at {h:Hp} {vs:Nat→Value} {n j:Nat} {M:Nat→List Int} (ht:tabV h vs n M) (hj:j < n):∃ d,Rd h kB (vs j) d∧bI d = M j∧allB d:=ht.1 j hj
theorem tab_mono {h h':Hp} {vs:Nat→Value} {n:Nat} {M:Nat→List Int} (ht:tabV h vs n M) (hl:Hp.le h h'):tabV h' vs n M :=
 ⟨fun j hj=>by obtain ⟨d,h1,h2⟩:=ht.1 j hj; exact ⟨d,Rd_mono h1 hl,h2⟩,ht.2⟩
theorem tab_congr {h:Hp} {vs vs':Nat→Value} {n:Nat} {M M':Nat→List Int} (ht:tabV h vs n M) (hv:∀ j,j < n→vs' j = vs j) (hM:∀ j,j < n→M' j = M j):tabV h vs' n M' :=
 ⟨fun j hj=>by rw [hv j hj,hM j hj]; exact ht.1 j hj,fun i j hi hj hne h1 h2=>by rw [hv i hi,hv j hj]; rw [hM i hi] at h1; rw [hM j hj] at h2; exact ht.2 i j hi hj hne h1 h2⟩
theorem tab_new {h hx H:Hp} {vs vs':Nat→Value} {n:Nat} {M M':Nat→List Int} {v:Value} {d:Rows'} (ht:tabV h vs n M) (hl:Hp.le h H) (hr:Rd hx kB v d) (hlx:Hp.le hx H) (hdis:Hp.disj hx h) (hB:allB d)
  (hv:∀ j,j < n→vs' j = vs j) (hvn:vs' n = v) (hM:∀ j,j < n→M' j = M j) (hMn:M' n = bI d):tabV H vs' (n + 1) M':=by
 have key:∀ j,j < n→M j ≠ []→d ≠ []→blk (vs j) ≠ blk v:=fun j hj hne hd he=>by
  obtain ⟨dj,h1,h2,_⟩:=ht.1 j hj
  obtain ⟨b,_,_,c,ty,fr,_,_,e1,hb,_⟩:=Rd_blk h1 (fun h0=>hne (by rw [← h2,h0]; rfl))
  obtain ⟨b',_,_,c',ty',fr',_,_,e2,hb',_⟩:=Rd_blk hr hd
  rw [e1,e2,Option.some.injEq] at he
  subst he
  rcases hdis b with h0 | h0
  ·rw [hb'] at h0; cases h0
  ·rw [hb] at h0; cases h0
 refine ⟨fun j hj=>?_,fun i j hi hj hne h1 h2=>?_⟩
 ·by_cases hjn:j = n
  ·subst hjn
   exact ⟨d,by rw [hvn]; exact Rd_mono hr hlx,hMn.symm,hB⟩
  ·obtain ⟨dj,e1,e2,e3⟩:=ht.1 j (by omega)
   exact ⟨dj,by rw [hv j (by omega)]; exact Rd_mono e1 hl,by rw [hM j (by omega)]; exact e2,e3⟩
 ·by_cases hin:i = n
  ·subst hin
   rw [hvn,hv j (by omega)]
   rw [hM j (by omega)] at h2
   rw [hMn] at h1
   exact fun he=>key j (by omega) h2 (fun h0=>h1 (bI_nil.2 h0)) he.symm
  ·by_cases hjn:j = n
   ·subst hjn
    rw [hvn,hv i (by omega)]
    rw [hM i (by omega)] at h1
    rw [hMn] at h2
    exact key i (by omega) h1 fun h0=>h2 (bI_nil.2 h0)
   ·rw [hv i (by omega),hv j (by omega)]
    rw [hM i (by omega)] at h1; rw [hM j (by omega)] at h2
    exact ht.2 i j (by omega) (by omega) hne h1 h2
theorem wrote_rows {c0 c1:Array Value} {o k:Nat} {d:Rows'} {x:Int} (hd:rowsAt c0 o kB d) (hw:Wrote c0 c1 (o + k) [.int .u8 x]) (hk:k < d.length):rowsAt c1 o kB (putD d k 0 [.int .u8 x]):=by
 obtain ⟨_,hw⟩:=hw
 intro i row hi
 unfold putD at hi
 rw [List.getElem?_set] at hi
 split at hi
 ·rename_i hik
  split at hi
  ·simp only [Option.some.injEq] at hi
   subst hi
   obtain ⟨⟨hl,hf⟩,hc⟩:=hd _ _ (List.getElem?_eq_getElem (l:=d) (i:=((k:Int).toNat)) (by simpa using hk))
   have hrow:splice ((d[(k:Int).toNat]?).getD []) 0 [.int .u8 x] = [.int .u8 x]:=by
    rw [List.getElem?_eq_getElem (by simpa using hk),Option.getD_some]
    unfold splice
    rw [List.take_zero,List.nil_append,List.drop_eq_nil_of_le (by rw [hl]; simp [kB]),List.append_nil]
   rw [hrow]
   refine ⟨⟨rfl,fun c kk v hkk hv=>?_⟩,fun c v hv=>?_⟩
   ·cases c with
    | zero =>
     simp only [kB,List.getElem?_cons_zero,Option.some.injEq] at hkk hv
     subst hkk hv; rfl
    | succ c=>simp [kB] at hkk
   ·cases c with
    | zero =>
     simp only [List.getElem?_cons_zero,Option.some.injEq] at hv
     subst hv
     rw [hw,if_pos (by simp [kB] at hik ⊢; omega)]
     have:o + i * kB.length + 0 - (o + k) = 0:=by simp [kB] at hik ⊢; omega
     rw [this]; rfl
    | succ c=>simp at hv
  ·cases hi
 ·rename_i hik
  obtain ⟨hf,hc⟩:=hd i row hi
  refine ⟨hf,fun c v hv=>?_⟩
  have hcl:c < 1:=by
   have:=(List.getElem?_eq_some_iff.1 hv).1
   rw [hf.1] at this
   simpa [kB] using this
  rw [hw,if_neg (by simp [kB] at hik ⊢; omega)]
  exact hc c v hv
theorem tab_put {h h':Hp} {vs:Nat→Value} {n i:Nat} {M:Nat→List Int} {r:Option Addr} {d:Rows'} {k:Nat} {x:Int} {cap:Nat} (ht:tabV h vs n M) (hi:i < n) (hP:Put h h' r kB d k [.int .u8 x]) (hv:vs i = .slice (addrOf r 0) d.length cap)
  (hr:Rd h kB (vs i) d) (hk:k < d.length) (hx:0 ≤ x∧x < 256):tabV h' vs n (fun j=>if j = i then (M i).set k x else M j):=by
 obtain ⟨b,o,c0,c1,ty,rfl,hb,hrows,hw,rfl⟩:=hP
 rw [addrOf_zero] at hv
 have hdn:d ≠ []:=fun h0=>by rw [h0] at hk; cases hk
 obtain ⟨di,r1,m1,b1⟩:=ht.1 i hi
 obtain rfl:=Rd_unique r1 hr
 have hcap:di.length ≤ cap:=by
  obtain ⟨_,_,cap',_,_,_,e1,e2,_⟩:=Rd_blk hr hdn
  rw [hv] at e1
  simp only [Value.slice.injEq] at e1
  omega
 have hbi:blk (vs i) = some b:=by rw [hv]; rfl
 have hMi:M i ≠ []:=fun h0=>hdn (bI_nil.1 (by rw [m1,h0]))
 have hlen:∀ j,((if j = i then (M i).set k x else M j) = [])↔M j = []:=fun j=>by
  by_cases hj:j = i
  ·subst hj
   rw [if_pos rfl]
   constructor
   ·intro h0
    have:=congrArg List.length h0
    rw [List.length_set] at this
    exact List.length_eq_zero_iff.1 (by simpa using this)
   ·intro h0; rw [h0]; rfl
  ·rw [if_neg hj]
 refine ⟨fun j hj=>?_,fun i' j hi' hj hne h1 h2=>ht.2 i' j hi' hj hne (fun h0=>h1 ((hlen i').2 h0)) (fun h0=>h2 ((hlen j).2 h0))⟩
 by_cases hji:j = i
 ·subst hji
  refine ⟨putD di k 0 [.int .u8 x],.inr ⟨b,o,cap,c1,ty,(0,0),by rw [hv,putD_len],by rw [putD_len]; exact hcap,by simp [Hp.upd],wrote_rows hrows hw hk⟩,?_,allB_put b1 hx.1 hx.2⟩
  simp only [if_true]
  rw [bI_put,m1]; rfl
 ·simp only [if_neg hji]
  obtain ⟨dj,r2,m2,b2⟩:=ht.1 j hj
  refine ⟨dj,?_,m2,b2⟩
  by_cases hdj:dj = []
  ·subst hdj
   rcases r2 with h0 | ⟨b',o',cap',c',ty',fr',e1,e2,e3,e4⟩
   ·exact .inl h0
   ·by_cases hbb:b' = b
    ·exact .inr ⟨b',o',cap',c1,ty,(0,0),e1,e2,by simp [Hp.upd,hbb],fun q row hq=>by simp at hq⟩
    ·exact .inr ⟨b',o',cap',c',ty',fr',e1,e2,by simp only [Hp.upd,if_neg hbb]; exact e3,e4⟩
  ·obtain ⟨b',o',cap',c',ty',fr',e1,e2,e3,e4,e5⟩:=Rd_blk r2 hdj
   have hbb:b' ≠ b:=fun h0=>by
    refine ht.2 j i hj hi hji (fun h0=>hdj (bI_nil.1 (by rw [m2,h0]))) hMi ?_
    rw [e3,hbi,h0]
   exact .inr ⟨b',o',cap',c',ty',fr',e1,e2,by simp only [Hp.upd,if_neg hbb]; exact e4,e5⟩
theorem star_two {ρ:Env} {x y:SH}:∀ {l1 l2:List SH} {H:Hp},star ρ (l1 ++ x :: l2) H→y ∈ l2→∃ hx hy,Hp.disj hx hy∧Hp.le hx H∧Hp.le hy H∧x.den ρ hx∧y.den ρ hy
 | [],l2,H,⟨h1,h2,hd,hu,hx,hs⟩,hy=>by
  subst hu
  obtain ⟨g,g1,g2⟩:=star_mem hs hy
  refine ⟨h1,g,fun b=>?_,Hp.le_left _ _,Hp.le_trans g1 (Hp.le_right hd),hx,g2⟩
  rcases hd b with h0 | h0
  ·exact .inl h0
  ·right
   cases hg:g b with
   | none=>rfl
   | some v=>rw [g1 _ _ hg] at h0; cases h0
 | z :: l1,l2,H,⟨h1,h2,hd,hu,hz,hs⟩,hy=>by
  subst hu
  obtain ⟨hx,hy',e1,e2,e3,e4⟩:=star_two (l1:=l1) hs hy
  exact ⟨hx,hy',e1,Hp.le_trans e2 (Hp.le_right hd),Hp.le_trans e3 (Hp.le_right hd),e4⟩
theorem disj_le {h h1 h2:Hp} (hd:Hp.disj h h1) (hl:Hp.le h2 h1):Hp.disj h h2:=fun b=>by
 rcases hd b with h0 | h0
 ·exact .inl h0
 ·right
  cases hg:h2 b with
  | none=>rfl
  | some v=>rw [hl _ _ hg] at h0; cases h0
end Go.Proofs

set_option linter.unusedSimpArgs false
set_option linter.unusedVariables false
namespace Go.Eng
open Go Go.Proofs
def tvs (D:Rows'):Nat→Value:=fun j=>cellV D j 0
end Go.Eng

set_option linter.unusedSimpArgs false
set_option linter.unusedVariables false
namespace Go.Eng
open Go Go.Proofs
def wantL (len:Int) (L:Nat→Nat):Int:=if len < 0 then (L 0:Int) else len
def okTo (total len:Int) (I:Nat→Int) (L:Nat→Nat) (i:Nat):Prop:=∀ j,j < i→(0 ≤ I j∧I j < total)∧(∀ j',j' < j→I j' ≠ I j)∧(len < 0→L j ≤ 8192)∧(L j:Int) = wantL len L
def badAt (total len:Int) (I:Nat→Int) (L:Nat→Nat) (i:Nat) (e:Int):Prop :=
 (¬ (0 ≤ I i∧I i < total)∧e = 2)∨((0 ≤ I i∧I i < total)∧(∃ j,j < i∧I j = I i)∧e = 7) ∨
 ((0 ≤ I i∧I i < total)∧(∀ j,j < i→I j ≠ I i)∧(len < 0∧8192 < L i)∧e = 3)∨((0 ≤ I i∧I i < total)∧(∀ j,j < i→I j ≠ I i)∧¬ (len < 0∧8192 < L i)∧(L i:Int) ≠ wantL len L∧e = 10)
def chkP (k total len:Int) (n:Nat) (I:Nat→Int) (L:Nat→Nat) (e:Int):Prop :=
 (∃ i,i < n∧okTo total len I L i∧badAt total len I L i e)∨(okTo total len I L n∧(((n:Int) < k∧e = 12)∨(k ≤ (n:Int)∧e = 0)))
noncomputable def pcN (h:Hp) (D:Rows') (j:Nat):Nat:=(pcD h D j).length
def chkOf (fn t:Nat):Ctr:={ fn:=fn,nv:=9,args:=[iv .i64 (.var 0),iv .i64 (.var 1),iv .i64 (.var 2),pcS 3 4 5],heap:=[],ro:=[pcHp 3 6 7,.abs 8 t],pre:=fun ρ=>(ρ 1).i ≤ 255∧0 ≤ (ρ 4).i∧(ρ 4).i ≤ 17592186043904∧pcOk (ρ 8).h (ρ 6).d (ρ 4).i.toNat,alts:=[{ k:=1,ret:=iv .i64 (.var 9),heap:=[],post:=fun ρ=>chkP (ρ 0).i (ρ 1).i (ρ 2).i (ρ 4).i.toNat (pcI (ρ 6).d) (pcN (ρ 8).h (ρ 6).d) (ρ 9).i }] }
def check88C:Ctr:={ chkOf 120 4 with ip:=[(1000,9),(1001,9)] }
def kSeen255:List CK:=List.replicate 255 .bool
def seenI (s:Rows') (I:Nat→Int) (i:Nat):Prop:=(∃ row,s = [row]∧row.length = 255)∧∀ x:Int,0 ≤ x→x < 255→(cellXB s x.toNat = true↔∃ j,j < i∧I j = x)
def chkEnv:List (Nat × SV):=[(0,iv .i64 (.var 0)),(1,iv .i64 (.var 1)),(2,iv .i64 (.var 2)),(3,pcS 3 4 5)]
def okR (ρ:Env) (i:Nat):Prop:=okTo (ρ 1).i (ρ 2).i (pcI (ρ 6).d) (pcN (ρ 8).h (ρ 6).d) i
def check88I:Inv:={ key:=3,nv:=3,env:=chkEnv ++ [(9,.one (.vptr 1001 (.lit 0) 255 0)),(13,pcS 3 4 5),(14,iv .i64 (.var 4)),(15,iv .i64 (.var 1000))],heap:=[.arr 1001 188 kSeen255 (.var 1002) (.lit 1)],inv:=(fun ρ=>0 ≤ (ρ 1000).i∧(ρ 1000).i ≤ (ρ 4).i∧okR ρ (ρ 1000).i.toNat∧seenI (ρ 1002).d (pcI (ρ 6).d) (ρ 1000).i.toNat),mu:=(fun ρ=>((ρ 4).i - (ρ 1000).i).toNat) }
def rdB (h:Hp) (v:Value):Prop:=∃ d,Rd h kB v d∧allB d
def pSl' (r l c:Nat):SV:=.one (.vslice r (.lit 0) (.var l) (.var c) 1)
def tabTo (h h':Hp) (v:Value) (g:List Int→List Int):Prop:=∀ (vs:Nat→Value) (n:Nat) (M:Nat→List Int) (i:Nat),tabV h vs n M→i < n→vs i = v→tabV h' vs n fun j=>if j = i then g (M i) else M j
def tabHas (h:Hp) (v:Value) (l:Nat):Prop:=∃ (vs:Nat→Value) (n:Nat) (M:Nat→List Int) (i:Nat),tabV h vs n M∧i < n∧vs i = v∧l ≤ (M i).length
def addToT:Ctr:={ fn := 107,nv:=7,ow:=[1003,3012,19],args:=[fArg,.one (.var 2),.one (.var 3),iv .u8 (.var 4)],heap:=[fHp 1,.abs 5 2],ro:=[.abs 6 4],pre:=fun ρ=>fieldD (ρ 1).d∧rdB (ρ 6).h (ρ 3).v∧(rdL (ρ 6).h (ρ 3).v).length ≤ 10000∧tabHas (ρ 5).h (ρ 2).v (rdL (ρ 6).h (ρ 3).v).length∧byteP (ρ 4).i,alts:=[
 { k:=2,ret:=.tup [],heap:=[fHp 7,.abs 8 2],post:=fun ρ=>fieldD (ρ 7).d∧tabTo (ρ 5).h (ρ 8).h (ρ 2).v fun l=>addToL l 0 (rdL (ρ 6).h (ρ 3).v) (ρ 4).i }] }
def addToTI:Inv:={ key:=2,nv:=5,env:=[(0,fArg),(1,.one (.var 2)),(3,iv .u8 (.var 4)),(12,.one (.var 1004)),(13,iv .i64 (.var 1002)),(14,iv .i64 (.var 1000))],heap:=[fHp 1001,.abs 1003 2],inv:=(fun ρ=>fieldD (ρ 1001).d∧0 ≤ (ρ 1000).i∧(ρ 1000).i ≤ (ρ 1002).i∧(ρ 1002).i = ((rdL (ρ 6).h (ρ 3).v).length:Int)∧(ρ 1004).v = (ρ 3).v∧tabTo (ρ 5).h (ρ 1003).h (ρ 2).v fun l=>addToL l 0 (seg (rdL (ρ 6).h (ρ 3).v) 0 (ρ 1000).i.toNat) (ρ 4).i),mu:=(fun ρ=>((ρ 1002).i - (ρ 1000).i).toNat) }
noncomputable def idxL (D:Rows') (k:Nat):List Int:=(List.range k).map (pcI D)
noncomputable def colF (h:Hp) (D:Rows'):Nat→List Int:=fun j=>rdL h (tvs D j)
def combine91C:Ctr:={ fn := 122,nv:=14,args:=[fArg,.one (.vslice 2 (.lit 0) (.var 3) (.var 4) 1),bSl 7 8 9 10],heap:=[fHp 1],ro:=[.arr 2 22 [.any] (.var 5) (.var 6),bHp 7 11 12,.abs 13 2],pre:=fun ρ=>fieldD (ρ 1).d∧1 ≤ (ρ 3).i∧(ρ 3).i ≤ 255∧(ρ 3).i ≤ (ρ 5).d.length∧(∀ row ∈ (ρ 5).d,row.length = 1)∧(ρ 9).i = (ρ 3).i∧0 ≤ (ρ 8).i∧(ρ 8).i + (ρ 9).i ≤ (ρ 11).d.length∧allB (ρ 11).d∧(∀ j,j < (ρ 3).i.toNat→rdB (ρ 13).h (tvs (ρ 5).d j)∧(colF (ρ 13).h (ρ 5).d j).length = (colF (ρ 13).h (ρ 5).d 0).length)∧(colF (ρ 13).h (ρ 5).d 0).length ≤ 9000,alts:=[
 { k:=5,ret:=.one (.vslice 14 (.lit 0) (.var 15) (.var 16) 1),heap:=[fHp 17,bHp 14 18 16],post:=fun ρ=>fieldD (ρ 17).d∧(ρ 15).i = (ρ 18).d.length∧(ρ 18).d.length = (colF (ρ 13).h (ρ 5).d 0).length∧allB (ρ 18).d∧bI (ρ 18).d = mixN (colF (ρ 13).h (ρ 5).d) (seg (bI (ρ 11).d) (ρ 8).i.toNat (ρ 3).i.toNat) (colF (ρ 13).h (ρ 5).d 0).length (ρ 3).i.toNat }] }
def combine91I:Inv:={ key:=3,nv:=6,env:=[(0,fArg),(1,.one (.vslice 2 (.lit 0) (.var 3) (.var 4) 1)),(7,pSl' 1000 1001 1002),(15,bSl 7 8 9 10),(16,iv .i64 (.var 9)),(17,iv .i64 (.var 1004))],heap:=[fHp 1005,bHp 1000 1003 1002],inv:=(fun ρ=>fieldD (ρ 1005).d∧0 ≤ (ρ 1004).i∧(ρ 1004).i ≤ (ρ 9).i∧(ρ 1001).i = (ρ 1003).d.length∧(ρ 1003).d.length = (colF (ρ 13).h (ρ 5).d 0).length∧allB (ρ 1003).d∧bI (ρ 1003).d = mixN (colF (ρ 13).h (ρ 5).d) (seg (bI (ρ 11).d) (ρ 8).i.toNat (ρ 3).i.toNat) (colF (ρ 13).h (ρ 5).d 0).length (ρ 1004).i.toNat),mu:=(fun ρ=>((ρ 9).i - (ρ 1004).i).toNat) }
noncomputable def valLr (h:Hp) (D:Rows') (k:Nat) (x:Int):List Int:=mixN (pcD h D) (wgtL (idxL D k) x) (pcN h D 0) k
def invL (total k:Nat) (rs:List Int):List Int:=(invE (selL (genL k total) k rs) k).2.1
noncomputable def solM (h:Hp) (D:Rows') (total k:Nat) (i:Nat):List Int:=mixN (pcD h D) (seg (invL total k (idxL D k)) (i * k) k) (pcN h D 0) k
def solPre (h:Hp) (D:Rows') (k total n:Int):Prop:=sizesB k total = true∧k ≤ n∧n ≤ 17592186043904∧pcOk h D n.toNat∧chooseOk k.toNat total.toNat (idxL D k.toNat)∧pcN h D 0 ≤ 8192∧∀ j,j < k.toNat→pcN h D j = pcN h D 0
def genW (ρ:Env) (l c d:Nat):Prop:=fullM (ρ 3).i (ρ 2).i (ρ l).i (ρ c).i (ρ d).d∧bI (ρ d).d = genL (ρ 2).i.toNat (ρ 3).i.toNat
def solve89C:Ctr:={ fn := 121,nv:=10,ip:=[(1000,9),(1001,9)],args:=[fArg,iv .i64 (.var 2),iv .i64 (.var 3),pcS 4 5 6],heap:=[fHp 1],ro:=[pcHp 4 7 8,.abs 9 4],pre:=fun ρ=>fieldD (ρ 1).d∧solPre (ρ 9).h (ρ 7).d (ρ 2).i (ρ 3).i (ρ 5).i,alts:=[
 { k:=8,ret:=.tup [(false,[.vslice 10 (.lit 0) (.var 2) (.var 2) 1]),mRet (.var 3) (.var 2) 11 12 13],heap:=[fHp 14,.arr 10 22 [.any] (.var 15) (.var 2),.abs 16 2,bHp 11 17 13],post:=fun ρ=>fieldD (ρ 14).d∧(ρ 15).d.length = (ρ 2).i.toNat∧(∀ row ∈ (ρ 15).d,row.length = 1)∧tabV (ρ 16).h (tvs (ρ 15).d) (ρ 2).i.toNat (solM (ρ 9).h (ρ 7).d (ρ 3).i.toNat (ρ 2).i.toNat)∧genW ρ 12 13 17 }] }
def solEnv:List (Nat × SV):=[(0,fArg),(1,iv .i64 (.var 2)),(3,pcS 4 5 6),(9,.one (.vptr 1010 (.lit 0) 3 0)),(10,.one (.vptr 1004 (.lit 0) 3 0))]
def solHp:List SH:=[fHp 1003,zBox 1010,boxM 1004 3 2 1005 1006 1007,bHp 1005 1008 1007]
def solve89A:Inv:={ key:=4,nv:=11,env:=solEnv ++ [(12,.one (.vslice 1000 (.lit 0) (.var 2) (.var 2) 1)),(31,.one (.vslice 1000 (.lit 0) (.var 2) (.var 2) 1)),(32,iv .i64 (.var 2)),(33,iv .i64 (.var 1002))],heap:=solHp ++ [iHp 1000 1001 2],inv:=(fun ρ=>fieldD (ρ 1003).d∧genW ρ 1006 1007 1008∧0 ≤ (ρ 1002).i∧(ρ 1002).i ≤ (ρ 2).i∧(ρ 1001).d.length = (ρ 2).i.toNat∧∀ j:Int,0 ≤ j→j < (ρ 1002).i→cellI (ρ 1001).d j 0 = cellI (ρ 7).d j 0),mu:=(fun ρ=>((ρ 2).i - (ρ 1002).i).toNat) }
def solCols:List (Nat × SV):=solEnv ++ [(16,.one (.vptr 1011 (.lit 0) 3 0)),(18,.one (.vslice 1016 (.lit 0) (.var 2) (.var 2) 1)),(59,.one (.vslice 1016 (.lit 0) (.var 2) (.var 2) 1)),(60,iv .i64 (.var 2)),(61,iv .i64 (.var 1002))]
def solCHp:List SH:=solHp ++ [boxM 1011 2 2 1012 1013 1014,bHp 1012 1015 1014,.arr 1016 22 [.any] (.var 1017) (.var 2),.abs 1018 2]
noncomputable def solR (ρ:Env):Nat→List Int:=solM (ρ 9).h (ρ 7).d (ρ 3).i.toNat (ρ 2).i.toNat
def solW (ρ:Env):Prop:=fieldD (ρ 1003).d∧genW ρ 1006 1007 1008∧fullM (ρ 2).i (ρ 2).i (ρ 1013).i (ρ 1014).i (ρ 1015).d∧bI (ρ 1015).d = invL (ρ 3).i.toNat (ρ 2).i.toNat (idxL (ρ 7).d (ρ 2).i.toNat)∧(ρ 1017).d.length = (ρ 2).i.toNat∧(∀ row ∈ (ρ 1017).d,row.length = 1)∧0 ≤ (ρ 1002).i∧(ρ 1002).i ≤ (ρ 2).i
def solve89B:Inv:={ key:=12,nv:=19,env:=solCols,heap:=solCHp,inv:=(fun ρ=>solW ρ∧tabV (ρ 1018).h (tvs (ρ 1017).d) (ρ 1002).i.toNat (solR ρ)),mu:=(fun ρ=>((ρ 2).i - (ρ 1002).i).toNat) }
def solve89D (w:Nat):Inv:={ key:=16,nv:=23,env:=solCols ++ [(19,iv .i64 (.var 1002)),(75,bSl 1012 1020 1021 1022),(76,iv .i64 (.var 1021)),(77,iv .i64 (.var 1019))],heap:=solCHp,inv:=(fun ρ=>solW ρ∧(ρ 1002).i < (ρ 2).i∧(ρ 1002).i = (ρ w).i∧(ρ 1020).i = (ρ 1002).i * (ρ 2).i∧(ρ 1021).i = (ρ 2).i∧0 ≤ (ρ 1019).i∧(ρ 1019).i ≤ (ρ 2).i ∧
 tabV (ρ 1018).h (tvs (ρ 1017).d) ((ρ 1002).i.toNat + 1) (fun r=>if r = (ρ 1002).i.toNat then mixN (pcD (ρ 9).h (ρ 7).d) (seg (invL (ρ 3).i.toNat (ρ 2).i.toNat (idxL (ρ 7).d (ρ 2).i.toNat)) ((ρ 1002).i.toNat * (ρ 2).i.toNat) (ρ 2).i.toNat) (pcN (ρ 9).h (ρ 7).d 0) (ρ 1019).i.toNat else solR ρ r)),mu:=(fun ρ=>((ρ 2).i - (ρ 1019).i).toNat) }
end Go.Eng

set_option linter.unusedSimpArgs false
set_option linter.unusedVariables false
namespace Go.Eng
open Go Go.Proofs
noncomputable def chkH (h:Hp) (D:Rows') (k total len:Int) (n:Int) (e:Int):Prop:=chkP k total len n.toNat (pcI D) (pcN h D) e
def rebE (h:Hp) (D:Rows') (k total n index e:Int):Prop:=((sizesB k total = false∨index < 0∨total ≤ index)∧e = 2)∨(sizesB k total = true∧0 ≤ index∧index < total∧chkH h D k total (-1) n e∧e ≠ 0)
def rebK (h:Hp) (D:Rows') (k total n index:Int):Prop:=sizesB k total = true∧0 ≤ index∧index < total∧chkH h D k total (-1) n 0
def pcPre (h:Hp) (D:Rows') (n:Int):Prop:=0 ≤ n∧n ≤ 17592186043904∧pcOk h D n.toNat
def emptyPc:Bool × List T:=(true,[.vint .i64 (.lit 0),.vnils])
def rebuild71C:Ctr:={ fn := 100,nv:=11,ip:=[(1000,9),(1001,9)],args:=[fArg,iv .i64 (.var 2),iv .i64 (.var 3),pcS 4 5 6,iv .i64 (.var 7)],heap:=[fHp 1],ro:=[pcHp 4 8 9,.abs 10 4],pre:=fun ρ=>fieldD (ρ 1).d∧pcPre (ρ 10).h (ρ 8).d (ρ 5).i,alts:=[
 { k:=2,ret:=.tup [emptyPc,eRet (.var 11)],heap:=[fHp 12],post:=fun ρ=>fieldD (ρ 12).d∧rebE (ρ 10).h (ρ 8).d (ρ 2).i (ρ 3).i (ρ 5).i (ρ 7).i (ρ 11).i },
 { k:=5,ret:=.tup [(true,[.vint .i64 (.var 7),.vslice 11 (.lit 0) (.var 12) (.var 13) 1]),eRet (.lit 0)],heap:=[fHp 14,bHp 11 15 13],post:=fun ρ=>fieldD (ρ 14).d∧rebK (ρ 10).h (ρ 8).d (ρ 2).i (ρ 3).i (ρ 5).i (ρ 7).i∧(ρ 12).i = (ρ 15).d.length∧(ρ 15).d.length = pcN (ρ 10).h (ρ 8).d 0∧allB (ρ 15).d∧bI (ρ 15).d = valLr (ρ 10).h (ρ 8).d (ρ 2).i.toNat (ρ 7).i }] }
end Go.Eng

set_option linter.unusedSimpArgs false
set_option linter.unusedVariables false
namespace Go.Eng
open Go Go.Proofs
def grow98C:Ctr:={ fn := 135,nv:=1,args:=[.one .vnils,iv .i64 (.var 0)],heap:=[],ro:=[],pre:=fun ρ=>0 ≤ (ρ 0).i∧(ρ 0).i ≤ 10000000,alts:=[{ k:=3,ret:=.one (.vslice 1 (.lit 0) (.lit 0) (.var 3) 1),heap:=[bHp 1 2 3],post:=fun ρ=>allB (ρ 2).d }] }
def catN (f:Nat→List Int):Nat→List Int
 | 0=>[]
 | k + 1=>catN f k ++ f k
def concat92C:Ctr:={ fn := 125,nv:=6,ip:=[(33,1)],args:=[.one (.vslice 0 (.lit 0) (.var 1) (.var 2) 1)],heap:=[],ro:=[.arr 0 22 [.any] (.var 3) (.var 4),.abs 5 2],pre:=fun ρ=>0 ≤ (ρ 1).i∧(ρ 1).i ≤ 255∧(ρ 1).i ≤ (ρ 3).d.length∧(∀ row ∈ (ρ 3).d,row.length = 1)∧∀ j,j < (ρ 1).i.toNat→rdB (ρ 5).h (tvs (ρ 3).d j)∧(colF (ρ 5).h (ρ 3).d j).length ≤ 9000,alts:=[
 { k:=4,ret:=.one (.vslice 6 (.lit 0) (.var 7) (.var 8) 1),heap:=[bHp 6 9 8],post:=fun ρ=>(ρ 7).i = ((catN (colF (ρ 5).h (ρ 3).d) (ρ 1).i.toNat).length:Int)∧(ρ 7).i ≤ (ρ 9).d.length∧allB ((ρ 9).d.take (ρ 7).i.toNat)∧bI ((ρ 9).d.take (ρ 7).i.toNat) = catN (colF (ρ 5).h (ρ 3).d) (ρ 1).i.toNat∧allB (ρ 9).d }] }
def concat92I:Inv:={ key:=3,nv:=2,env:=[(0,.one (.vslice 0 (.lit 0) (.var 1) (.var 2) 1)),(3,iv .i64 (.var 1001)),(9,.one (.vslice 0 (.lit 0) (.var 1) (.var 2) 1)),(10,iv .i64 (.var 1)),(11,iv .i64 (.var 1000))],heap:=[],inv:=(fun ρ=>0 ≤ (ρ 1000).i∧(ρ 1000).i ≤ (ρ 1).i∧(ρ 1001).i = ((catN (colF (ρ 5).h (ρ 3).d) (ρ 1000).i.toNat).length:Int)),mu:=(fun ρ=>((ρ 1).i - (ρ 1000).i).toNat) }
def concat92J:Inv:={ key:=11,nv:=5,env:=[(6,pSl' 1000 1001 1002),(25,.one (.vslice 0 (.lit 0) (.var 1) (.var 2) 1)),(26,iv .i64 (.var 1)),(27,iv .i64 (.var 1004))],heap:=[bHp 1000 1003 1002],inv:=(fun ρ=>0 ≤ (ρ 1004).i∧(ρ 1004).i ≤ (ρ 1).i∧(ρ 1001).i = ((catN (colF (ρ 5).h (ρ 3).d) (ρ 1004).i.toNat).length:Int)∧(ρ 1001).i ≤ (ρ 1003).d.length∧allB ((ρ 1003).d.take (ρ 1001).i.toNat)∧bI ((ρ 1003).d.take (ρ 1001).i.toNat) = catN (colF (ρ 5).h (ρ 3).d) (ρ 1004).i.toNat∧allB (ρ 1003).d),mu:=(fun ρ=>((ρ 1).i - (ρ 1004).i).toNat) }
noncomputable def plI (k size:Int):Int:=(pieceLen k.toNat size.toNat:Int)
def decEr (h:Hp) (D:Rows') (k total size n e:Int):Prop:=((sizesB k total = false∨size < 0∨8192 < size)∧e = 2)∨(sizesB k total = true∧0 ≤ size∧size ≤ 8192∧chkH h D k total (plI k size) n e∧e ≠ 0)
def decK (h:Hp) (D:Rows') (k total size n:Int):Prop:=sizesB k total = true∧0 ≤ size∧size ≤ 8192∧chkH h D k total (plI k size) n 0
noncomputable def decL (h:Hp) (D:Rows') (k:Nat):List Int:=catN (fun i=>valLr h D k (i:Int)) k
def decode69C:Ctr:={ fn := 103,nv:=11,ip:=[(1000,9),(1001,9)],args:=[fArg,iv .i64 (.var 2),iv .i64 (.var 3),iv .i64 (.var 4),pcS 5 6 7],heap:=[fHp 1],ro:=[pcHp 5 8 9,.abs 10 4],pre:=fun ρ=>fieldD (ρ 1).d∧pcPre (ρ 10).h (ρ 8).d (ρ 6).i,alts:=[
 { k:=2,ret:=.tup [(false,[.vnils]),eRet (.var 11)],heap:=[fHp 12],post:=fun ρ=>fieldD (ρ 12).d∧decEr (ρ 10).h (ρ 8).d (ρ 2).i (ρ 3).i (ρ 4).i (ρ 6).i (ρ 11).i },
 { k:=4,ret:=.tup [(false,[.vslice 11 (.lit 0) (.var 4) (.var 4) 1]),eRet (.lit 0)],heap:=[fHp 12,bHp 11 13 14],post:=fun ρ=>fieldD (ρ 12).d∧decK (ρ 10).h (ρ 8).d (ρ 2).i (ρ 3).i (ρ 4).i (ρ 6).i∧(ρ 4).i ≤ (ρ 13).d.length∧allB ((ρ 13).d.take (ρ 4).i.toNat)∧bI ((ρ 13).d.take (ρ 4).i.toNat) = (decL (ρ 10).h (ρ 8).d (ρ 2).i.toNat).take (ρ 4).i.toNat∧allB (ρ 13).d }] }
end Go.Eng

set_option linter.unusedSimpArgs false
set_option linter.unusedVariables false
namespace Go.Eng
open Go Go.Proofs
def chksP (f I:Nat→Int) (n:Nat) (k e:Int):Prop :=
 (∃ i,i < n∧(∀ j,j < i→f j = 0∧∀ l,l < j→I l ≠ I j)∧((f i ≠ 0∧e = f i)∨(f i = 0∧(∃ l,l < i∧I l = I i)∧e = 7))) ∨
 ((∀ j,j < n→f j = 0∧∀ l,l < j→I l ≠ I j)∧(((n:Int) < k∧e = 12)∨(k ≤ n∧e = 0)))
noncomputable def chkF (k n t s l:Int) (D:List (List Int)) (h:Hp) (P:Rows') (j:Nat):Int:=chkE k n t s l D (pcI P j) (pcD h P j)
def manAt (r:Nat):SV:=.agg (manT r (r + 1) (r + 2) (r + 3) (r + 4) (r + 5) (r + 6) (r + 7))
def manP (ρ:Env) (r:Nat):Prop:=i64P (ρ r).i∧i64P (ρ (r + 1)).i∧i64P (ρ (r + 2)).i∧i64P (ρ (r + 3)).i∧(ρ (r + 6)).i = (ρ (r + 8)).d.length∧dgsOk (ρ (r + 8)).d
def psP (n:Int) (P:Rows') (h:Hp):Prop:=pcPre h P n∧n = P.length∧∀ j,j < P.length→(pcD h P j).length ≤ 9000
noncomputable def mF (ρ:Env) (r p h:Nat):Nat→Int:=chkF (ρ r).i (ρ (r + 1)).i (ρ (r + 2)).i (ρ (r + 3)).i (ρ (r + 6)).i (dgs (ρ (r + 8)).d) (ρ h).h (ρ p).d
def chksPre (ρ:Env):Prop:=manP ρ 0∧psP (ρ 11).i (ρ 13).d (ρ 15).h
def chksAlts:List Alt:=[{ k:=1,ret:=iv .i64 (.var 18),heap:=[],post:=fun ρ=>chksP (mF ρ 0 13 15) (pcI (ρ 13).d) (ρ 13).d.length (ρ 0).i (ρ 18).i }]
def chksC:Ctr:={ fn := 99,nv:=18,ip:=[gIp 16],ow:=[1003],args:=[manV,pcS 10 11 12],heap:=[],ro:=[dgsHp 5 8 9,pcHp 10 13 14,.abs 15 4,gHp 16 17],pre:=fun ρ=>chksPre ρ∧gOk ρ 16 17 gR,alts:=chksAlts }
def mtSeen:MT:=⟨false,[.i64],false,[.bool],[.vbool (.bl false)]⟩
def seenAt (h:Hp) (v:Value) (I:Nat→Int) (i:Nat):Prop:=∃ b l c,v = .map (some b)∧MapH h b mtSeen l c∧(∀ x ∈ l,x.v = [.bool true])∧∀ z:Int,hasM l [z] = true↔∃ j,j < i∧I j = z
def chksI:Inv:={ key:=3,nv:=4,env:=[(1,pcS 10 11 12),(2,.one (.vptr 1002 (.lit 0) 37 0)),(5,.one (.var 1001)),(10,pcS 10 11 12),(11,iv .i64 (.var 11)),(12,iv .i64 (.var 1003))],heap:=[.cells 1002 27 (manT 0 1 2 3 4 5 6 7),.abs 1000 1003],inv:=(fun ρ=>0 ≤ (ρ 1003).i∧(ρ 1003).i ≤ (ρ 11).i∧(∀ j,j < (ρ 1003).i.toNat→mF ρ 0 13 15 j = 0∧∀ l,l < j→pcI (ρ 13).d l ≠ pcI (ρ 13).d j)∧seenAt (ρ 1000).h (ρ 1001).v (pcI (ρ 13).d) (ρ 1003).i.toNat),mu:=(fun ρ=>((ρ 11).i - (ρ 1003).i).toNat) }
def outR (ok:Bool) (C:Int→Prop) (D O:List Int) (e:Int):Prop:=(ok = false∧e = 2)∨(ok = true∧C e∧e ≠ 0)∨(ok = true∧C 0∧((sha D ≠ O∧e = 20)∨(sha D = O∧e = 0)))
def mOk (ρ:Env) (r:Nat):Bool:=manOk (ρ r).i (ρ (r + 1)).i (ρ (r + 2)).i (ρ (r + 3)).i (ρ (r + 6)).i
def mChk (ρ:Env) (r p h:Nat):Int→Prop:=chksP (mF ρ r p h) (pcI (ρ p).d) (ρ p).d.length (ρ r).i
noncomputable def asmD (ρ:Env) (r p h:Nat):List Int:=(decL (ρ h).h (ρ p).d (ρ r).i.toNat).take (ρ (r + 3)).i.toNat
noncomputable def regD (ρ:Env) (r p h x:Nat):List Int:=valLr (ρ h).h (ρ p).d (ρ r).i.toNat (ρ x).i
def regS (ok:Bool) (C:Int→Prop) (x t e y n:Int) (D O:List Int) (R:Rows'):Prop:=outR (ok && decide (0 ≤ x∧x < t)) C (pieceIn x ++ D) O e∧((e ≠ 0∧y = 0∧n = 0∧R = [])∨(e = 0∧y = x∧n = R.length∧allB R∧bI R = D))
def asmS (ok:Bool) (C:Int→Prop) (sz e n:Int) (D O:List Int) (R:Rows'):Prop:=outR ok C D O e∧((e ≠ 0∧n = 0∧R = [])∨(e = 0∧n = sz∧0 ≤ n∧n ≤ R.length∧allB R∧bI (R.take n.toNat) = D))
def asmC:Ctr:={ fn := 70,nv:=20,ip:=[gIp 18,(1005,9)],args:=[fArg,manAt 2,pcS 12 13 14],heap:=[fHp 1],ro:=[dgsHp 7 10 11,pcHp 12 15 16,.abs 17 4,gHp 18 19],pre:=fun ρ=>fieldD (ρ 1).d∧manP ρ 2∧allM (rowL (ρ 6).d 32)∧psP (ρ 13).i (ρ 15).d (ρ 17).h∧gOk ρ 18 19 gR,alts:=[
 { k:=7,ret:=.tup [(false,[.vslice 20 (.lit 0) (.var 21) (.var 26) 1]),eRet (.var 24)],heap:=[fHp 25,bHp 20 23 22],post:=fun ρ=>fieldD (ρ 25).d∧asmS (mOk ρ 2) (mChk ρ 2 15 17) (ρ 5).i (ρ 24).i (ρ 21).i (asmD ρ 2 15 17) (rowL (ρ 6).d 32) (ρ 23).d∧(ρ 21).i ≤ (ρ 26).i }] }
def regC:Ctr:={ fn := 67,nv:=21,ip:=[gIp 18,(1005,9)],args:=[fArg,manAt 2,pcS 12 13 14,iv .i64 (.var 20)],heap:=[fHp 1],ro:=[dgsHp 7 10 11,pcHp 12 15 16,.abs 17 4,gHp 18 19],pre:=fun ρ=>fieldD (ρ 1).d∧manP ρ 2∧psP (ρ 13).i (ρ 15).d (ρ 17).h∧gOk ρ 18 19 gR∧i64P (ρ 20).i,alts:=[
 { k:=7,ret:=.tup [(true,[.vint .i64 (.var 21),.vslice 22 (.lit 0) (.var 23) (.var 24) 1]),eRet (.var 26)],heap:=[fHp 27,bHp 22 25 24],post:=fun ρ=>fieldD (ρ 27).d∧regS (mOk ρ 2) (mChk ρ 2 15 17) (ρ 20).i (ρ 4).i (ρ 26).i (ρ 21).i (ρ 23).i (regD ρ 2 15 17 20) ((dgs (ρ 10).d).getD (ρ 20).i.toNat []) (ρ 25).d }] }
def mineC:Ctr:={ fn := 68,nv:=6,args:=[pcS 0 1 2],heap:=[],ro:=[pcHp 0 3 4,.abs 5 6],pre:=fun ρ=>pcPre (ρ 5).h (ρ 3).d (ρ 1).i∧(ρ 1).i = (ρ 3).d.length∧(ρ 1).i ≤ 10000∧∀ j,j < (ρ 3).d.length→(pcD (ρ 5).h (ρ 3).d j).length ≤ 9000,alts:=[
 { k:=4,ret:=.one (.vslice 6 (.lit 0) (.var 1) (.var 7) 2),heap:=[pcHp 6 8 7,.abs 9 4],post:=fun ρ=>(ρ 8).d.length = (ρ 3).d.length∧pcOk (ρ 9).h (ρ 8).d (ρ 3).d.length∧samePc (ρ 9).h (ρ 5).h (ρ 8).d (ρ 3).d (ρ 3).d.length (ρ 3).d.length }] }
def mineI:Inv:={ key:=3,nv:=6,env:=[(0,pcS 0 1 2),(3,pcS 1000 1001 1002),(4,iv .i64 (.var 1001))],heap:=[pcHp 1000 1003 1002,.abs 1004 4],inv:=(fun ρ=>0 ≤ (ρ 1001).i∧(ρ 1001).i ≤ (ρ 1).i∧(ρ 1001).i = (ρ 1003).d.length∧pcOk (ρ 1004).h (ρ 1003).d (ρ 1001).i.toNat∧samePc (ρ 1004).h (ρ 5).h (ρ 1003).d (ρ 3).d (ρ 1001).i.toNat (ρ 1001).i.toNat),mu:=(fun ρ=>((ρ 1).i - (ρ 1001).i).toNat) }
end Go.Eng

set_option linter.unusedSimpArgs false
set_option linter.unusedVariables false
namespace Go.Proofs
open Go Go.Eng
theorem chks_zero {f I:Nat→Int} {n:Nat} {k:Int} (h:chksP f I n k 0):(∀ j,j < n→f j = 0∧∀ l,l < j→I l ≠ I j)∧k ≤ n:=by
 rcases h with ⟨i,hi,h1,⟨a,b⟩ | ⟨a,_,b⟩⟩ | ⟨h1,⟨a,b⟩ | ⟨a,b⟩⟩
 ·exact (a b.symm).elim
 ·omega
 ·omega
 ·exact ⟨h1,a⟩
theorem chks_first {f I:Nat→Int} {i j:Nat} {e:Int} (h2:(f i ≠ 0∧e = f i)∨(f i = 0∧(∃ l,l < i∧I l = I i)∧e = 7)) (h:f i = 0∧∀ l,l < i→I l ≠ I i):False:=by
 rcases h2 with ⟨h2,_⟩ | ⟨_,⟨l,hl,hI⟩,_⟩
 ·exact h2 h.1
 ·exact h.2 l hl hI
theorem chks_uniq {f I:Nat→Int} {n:Nat} {k e e':Int} (a:chksP f I n k e) (b:chksP f I n k e'):e = e':=by
 rcases a with ⟨i,hi,h1,h2⟩ | ⟨h1,h2⟩ <;> rcases b with ⟨i',hi',g1,g2⟩ | ⟨g1,g2⟩
 ·rcases Nat.lt_trichotomy i i' with h | h | h
  ·exact (chks_first (j:=0) h2 (g1 i h)).elim
  ·subst h
   rcases h2 with ⟨a,b⟩ | ⟨a,_,b⟩ <;> rcases g2 with ⟨c,d⟩ | ⟨c,_,d⟩
   ·rw [b,d]
   ·exact (a c).elim
   ·exact (c a).elim
   ·rw [b,d]
  ·exact (chks_first (j:=0) g2 (h1 i' h)).elim
 ·exact (chks_first (j:=0) h2 (g1 i hi)).elim
 ·exact (chks_first (j:=0) g2 (h1 i' hi')).elim
 ·omega
theorem outR_zero {ok:Bool} {C:Int→Prop} {D O:List Int} (a:outR ok C D O 0):ok = true∧C 0∧sha D = O:=by
 rcases a with ⟨a,a1⟩ | ⟨a,a1,a2⟩ | ⟨a,a1,⟨a2,a3⟩ | ⟨a2,a3⟩⟩
 ·omega
 ·exact (a2 rfl).elim
 ·omega
 ·exact ⟨a,a1,a2⟩
section
variable {M:Bool} {C:Int→Prop} {x t:Int} {D O:List Int}
theorem outR_man (h:M = false):outR M C D O 2:=.inl ⟨h,rfl⟩
theorem outR_chk {e:Int} (h:M = true) (hC:C e) (he:¬ e = 0):outR M C D O e:=.inr (.inl ⟨h,hC,he⟩)
theorem outR_sum (h:M = true) (hC:C 0) (hs:¬ sha D = O):outR M C D O 20:=.inr (.inr ⟨h,hC,.inl ⟨hs,rfl⟩⟩)
theorem outR_ok (h:M = true) (hC:C 0) (hs:sha D = O):outR M C D O 0:=.inr (.inr ⟨h,hC,.inr ⟨hs,rfl⟩⟩)
theorem asmS_e {e sz:Int} (a:outR M C D O e) (h:¬ e = 0):asmS M C sz e 0 D O []:=⟨a,.inl ⟨h,rfl,rfl⟩⟩
theorem asmS_ok {n:Int} {R:Rows'} (a:outR M C D O 0) (n0:0 ≤ n) (hn:n ≤ R.length) (hB:allB R) (hR:bI (R.take n.toNat) = D):asmS M C n 0 n D O R:=⟨a,.inr ⟨rfl,rfl,n0,hn,hB,hR⟩⟩
theorem regS_man (h:M = false):regS M C x t 2 0 0 D O []:=⟨.inl ⟨by rw [h]; rfl,rfl⟩,.inl ⟨by omega,rfl,rfl,rfl⟩⟩
theorem regS_idx (h:x < 0∨t ≤ x):regS M C x t 2 0 0 D O []:=⟨.inl ⟨by rw [decide_eq_false (by omega),Bool.and_false],rfl⟩,.inl ⟨by omega,rfl,rfl,rfl⟩⟩
theorem regS_chk {e:Int} (h:M = true) (h0:0 ≤ x) (h1:x < t) (hC:C e) (he:¬ e = 0):regS M C x t e 0 0 D O []:=⟨.inr (.inl ⟨by rw [h,decide_eq_true ⟨h0,h1⟩]; rfl,hC,he⟩),.inl ⟨he,rfl,rfl,rfl⟩⟩
theorem regS_sum (h:M = true) (h0:0 ≤ x) (h1:x < t) (hC:C 0) (hs:¬ sha (pieceIn x ++ D) = O):regS M C x t 20 0 0 D O []:=⟨.inr (.inr ⟨by rw [h,decide_eq_true ⟨h0,h1⟩]; rfl,hC,.inl ⟨hs,rfl⟩⟩),.inl ⟨by omega,rfl,rfl,rfl⟩⟩
theorem regS_ok {n:Int} {R:Rows'} (h:M = true) (h0:0 ≤ x) (h1:x < t) (hC:C 0) (hs:sha (pieceIn x ++ D) = O) (hn:n = R.length) (hB:allB R) (hR:bI R = D):regS M C x t 0 x n D O R:=⟨.inr (.inr ⟨by rw [h,decide_eq_true ⟨h0,h1⟩]; rfl,hC,.inr ⟨hs,rfl⟩⟩),.inr ⟨rfl,rfl,hn,hB,hR⟩⟩
end
theorem idxL_congr {D D':Rows'} {k:Nat} (h:∀ j,j < k→pcI D j = pcI D' j):idxL D k = idxL D' k:=by
 unfold idxL
 exact List.map_congr_left fun j hj=>h j (List.mem_range.1 hj)
theorem chks_bad {f I:Nat→Int} {n:Nat} {k e x:Int} (x0:0 ≤ x) (x1:x < n) (h:∀ j:Nat,(j:Int) < x→f j = 0∧∀ l,l < j→¬ I l = I j) (he:e = f x.toNat) (hne:¬ e = 0):chksP f I n k e :=
 .inl ⟨x.toNat,by omega,fun j hj=>h j (by omega),.inl ⟨by rw [← he]; exact hne,he⟩⟩
theorem chks_twice {f I:Nat→Int} {n:Nat} {k x:Int} (x0:0 ≤ x) (x1:x < n) (h:∀ j:Nat,(j:Int) < x→f j = 0∧∀ l,l < j→¬ I l = I j) (h0:f x.toNat = 0) (hl:∃ l,l < x.toNat∧I l = I x.toNat):chksP f I n k 7 :=
 .inl ⟨x.toNat,by omega,fun j hj=>h j (by omega),.inr ⟨h0,hl,rfl⟩⟩
theorem chks_end {f I:Nat→Int} {n:Nat} {k e x:Int} (x1:n ≤ x) (h:∀ j:Nat,(j:Int) < x→f j = 0∧∀ l,l < j→¬ I l = I j) (he:((n:Int) < k∧e = 12)∨(k ≤ n∧e = 0)):chksP f I n k e :=
 .inr ⟨fun j hj=>h j (by omega),he⟩
theorem chks_next {f I:Nat→Int} {x:Int} (x0:0 ≤ x) (h:∀ j:Nat,(j:Int) < x→f j = 0∧∀ l,l < j→¬ I l = I j) (h0:f x.toNat = 0) (hl:∀ l,l < x.toNat→¬ I l = I x.toNat):∀ j:Nat,(j:Int) < x + 1→f j = 0∧∀ l,l < j→¬ I l = I j:=fun j hj=>by
 by_cases hjx:(j:Int) = x
 ·obtain rfl:j = x.toNat:=by omega
  exact ⟨h0,hl⟩
 ·exact h j (by omega)
theorem seen_new {b:Nat} {v:Value} {h:Hp} {I:Nat→Int} (hv:v = .map (some b)) (hh:h = Hp.one b (.map #[] 0)):seenAt h v I 0:=by
 subst hh
 refine ⟨b,[],0,hv,⟨by simp [Hp.one,MT.obj],⟨fun x hx=>(by cases hx),.nil⟩⟩,fun x hx=>(by cases hx),fun z=>⟨fun h=>(by cases h),fun ⟨j,hj,_⟩=>(by omega)⟩⟩
theorem getM_true {l:List ME} {k:List Int} (h:∀ x ∈ l,x.v = [.bool true]):getM l k [.bool false] = [.bool (hasM l k)]:=by
 cases hh:hasM l k with
 | false=>exact getM_none hh
 | true =>
  obtain ⟨j,x,h1,_,_,h2⟩:=findM_some (mt:=mtSeen) (i:=0) hh
  rw [h2]
  exact h x (List.mem_of_getElem? h1)
theorem seen_put {h h':Hp} {v:Value} {I:Nat→Int} {i b clock:Nat} {l:List ME} {x:Int} (hv:v = .map (some b)) (hm:MapH h b mtSeen l clock) (ht:∀ x ∈ l,x.v = [.bool true]) (hs:∀ z:Int,hasM l [z] = true↔∃ j,j < i∧I j = z) (hx:x = I i)
  (hh:h' = Hp.upd h b (mtSeen.obj (putM l [x] [.bool true] clock))):seenAt h' v I (i + 1):=by
 have hw:=putM_wf (k:=[x]) (v:=[.bool true]) hm.2 rfl ⟨rfl,fun c k v hk hv=>by
  match c,hk,hv with
  | 0,hk,hv=>simp [mtSeen] at hk hv; subst hk hv; rfl
  | c + 1,hk,hv=>simp [mtSeen] at hk⟩
 refine ⟨b,(putM l [x] [.bool true] clock).1,(putM l [x] [.bool true] clock).2,hv,⟨by rw [hh]; simp [Hp.upd],hw⟩,?_,?_⟩
 ·intro y hy
  unfold putM at hy
  split at hy
  ·obtain ⟨z,hz,rfl⟩:=List.mem_map.1 hy
   split
   ·rfl
   ·exact ht z hz
  ·rcases List.mem_append.1 hy with hy | hy
   ·exact ht y hy
   ·rw [List.mem_singleton.1 hy]
 ·intro z
  have e:hasM (putM l [x] [.bool true] clock).1 [z] = (hasM l [z] || decide (x = z)):=by
   unfold putM
   split
   ·rename_i hh
    have e1:hasM (l.map fun y=>if y.k = [x] then { y with v:=[.bool true] } else y) [z] = hasM l [z]:=by
     unfold hasM
     rw [List.any_map]
     refine congrArg (fun f=>List.any l f) (funext fun y=>?_)
     simp only [Function.comp]
     split <;> rfl
    rw [e1]
    by_cases hxz:x = z
    ·subst hxz; simp [hh]
    ·simp [hxz]
   ·simp only [hasM,List.any_append,List.any_cons,List.any_nil,Bool.or_false]
    congr 1
    by_cases h:x = z <;> simp [h]
  rw [e,Bool.or_eq_true,hs,decide_eq_true_eq,hx]
  constructor
  ·rintro (⟨j,hj,h⟩ | h)
   ·exact ⟨j,by omega,h⟩
   ·exact ⟨i,by omega,h⟩
  ·rintro ⟨j,hj,h⟩
   by_cases hji:j = i
   ·subst hji; exact .inr h
   ·exact .inl ⟨j,by omega,h⟩
theorem pc_cell {h:Hp} {D:Rows'} {j:Nat} {i:Int} {v:Value} {d:Rows'} (e:D[j]? = some [.int .i64 i,v]) (hr:Rd h kB v d):pcI D j = i∧pcD h D j = bI d:=by
 have h1:cellV D (j:Int) 1 = v:=by simp [cellV,e]
 exact ⟨by simp [pcI,cellI,cellV,e,vInt],by rw [pcD,h1,rdL_eq hr]⟩
theorem pc_mono {h h':Hp} {D:Rows'} {n:Nat} (hp:pcOk h D n) (hl:Hp.le h h'):pcOk h' D n∧∀ j,j < n→pcD h' D j = pcD h D j:=by
 refine ⟨fun j hj=>?_,fun j hj=>?_⟩
 ·obtain ⟨i,v,d,e,hr,hb⟩:=hp j hj
  exact ⟨i,v,d,e,Rd_mono hr hl,hb⟩
 ·obtain ⟨i,v,d,e,hr,hb⟩:=hp j hj
  rw [(pc_cell e hr).2,(pc_cell e (Rd_mono hr hl)).2]
theorem pc_snoc {h h' h0:Hp} {D D0:Rows'} {n:Nat} {x:Int} {v:Value} {d:Rows'} (hp:pcOk h D n) (hs:samePc h h0 D D0 n n) (hn:D.length = n) (hl:Hp.le h h') (hr:Rd h' kB v d) (hB:allB d) (hx:x = pcI D0 n) (hd:bI d = pcD h0 D0 n) :
  pcOk h' (D ++ [[.int .i64 x,v]]) (n + 1)∧samePc h' h0 (D ++ [[.int .i64 x,v]]) D0 (n + 1) (n + 1):=by
 have hm:=pc_mono hp hl
 have e1:(D ++ [[.int .i64 x,v]])[n]? = some [.int .i64 x,v]:=by rw [List.getElem?_append_right (by omega),hn,Nat.sub_self]; rfl
 have e2:∀ j,j < n→(D ++ [[.int .i64 x,v]])[j]? = D[j]?:=fun j hj=>List.getElem?_append_left (by omega)
 refine ⟨fun j hj=>?_,rfl,fun j hj=>?_⟩
 ·by_cases hj':j = n
  ·subst hj'; exact ⟨x,v,d,e1,hr,hB⟩
  ·obtain ⟨i,v',d',f1,f2,f3⟩:=hm.1 j (by omega)
   exact ⟨i,v',d',by rw [e2 j (by omega)]; exact f1,f2,f3⟩
 ·by_cases hj':j = n
  ·subst hj'
   obtain ⟨a,b⟩:=pc_cell e1 hr
   exact ⟨by rw [a,hx],by rw [b,hd]⟩
  ·obtain ⟨i,v',d',f1,f2,f3⟩:=hm.1 j (by omega)
   obtain ⟨a,b⟩:=pc_cell f1 f2
   obtain ⟨a',b'⟩:=pc_cell (D:=D ++ [[.int .i64 x,v]]) (by rw [e2 j (by omega)]; exact f1) f2
   obtain ⟨g1,g2⟩:=hs.2 j (by omega)
   exact ⟨by rw [a',← a,g1],by rw [b',← b,hm.2 j (by omega),g2]⟩
theorem pc_len9 {h h0:Hp} {P P0:Rows'} {N N' j:Nat} (hs:samePc h h0 P P0 N N') (h9:∀ j,j < P0.length→(pcD h0 P0 j).length ≤ 9000) (hj:j < P.length) (hN:N = P0.length) (hl:P.length = P0.length):(pcD h P j).length ≤ 9000:=by
 rw [(hs.2 j (by omega)).2]; exact h9 j (by omega)
theorem regS_ok0 {M:Bool} {C:Int→Prop} {x t e y n:Int} {D O:List Int} {R:Rows'} (a:regS M C x t e y n D O R) (h:e = 0):M = true∧(0 ≤ x∧x < t)∧C 0∧sha (pieceIn x ++ D) = O∧y = x∧n = R.length∧allB R∧bI R = D:=by
 subst h
 obtain ⟨a0,⟨a1,a2,a3,a4⟩ | ⟨a1,a2,a3,a4,a5⟩⟩:=a
 ·exact (a1 rfl).elim
 ·obtain ⟨b1,b2,b3⟩:=outR_zero a0
  rw [Bool.and_eq_true,decide_eq_true_eq] at b1
  exact ⟨b1.1,b1.2,b2,b3,a2,a3,a4,a5⟩
end Go.Proofs

set_option linter.unusedSimpArgs false
set_option linter.unusedVariables false
namespace Go.Proofs
open Go Go.Eng
variable {rows wide c rank:Nat} {T0:Mat} {M:Nat→List Int}
theorem tab_bytes {h:Hp} {vs:Nat→Value} {n j:Nat} {M:Nat→List Int} (ht:tabV h vs n M) (hj:j < n):bytesL (M j):=by
 obtain ⟨d,_,e,hb⟩:=ht.1 j hj
 rw [← e]; exact allB_list hb
end Go.Proofs

set_option linter.unusedSimpArgs false
set_option linter.unusedVariables false
namespace Go.Proofs
open Go Go.Eng
theorem tvs_at {D:Rows'} {i:Int} (h:0 ≤ i):tvs D i.toNat = cellV D i 0:=by
 unfold tvs
 rw [Int.toNat_of_nonneg h]
theorem tvs_put {D:Rows'} {i:Int} {v:Value} (hr:∀ row ∈ D,row.length = 1) (i0:0 ≤ i) (i1:i < D.length) (j:Nat):tvs (putD D i 0 [v]) j = if j = i.toNat then v else tvs D j:=by
 unfold tvs cellV putD
 rw [Int.toNat_natCast,List.getElem?_set]
 by_cases h:j = i.toNat
 ·rw [if_pos h.symm,if_pos h,if_pos (by omega)]
  rfl
 ·rw [if_neg (fun e=>h e.symm),if_neg h]
theorem rows_put {D:Rows'} {i:Int} {v:Value} (hr:∀ row ∈ D,row.length = 1) (i0:0 ≤ i) (i1:i < D.length):∀ row ∈ putD D i 0 [v],row.length = 1:=fun row h=>by
 unfold putD at h
 rcases List.mem_or_eq_of_mem_set h with h | rfl
 ·exact hr row h
 ·rw [List.getElem?_eq_getElem (by omega),Option.getD_some]
  have:=hr _ (List.getElem_mem (l:=D) (n:=i.toNat) (by omega))
  unfold splice
  simp [this]
theorem seg_getD {l:List Int} {o n i:Nat} (hi:i < n):(seg l o n).getD i 0 = l.getD (o + i) 0:=by
 rw [seg,List.getD_eq_getElem?_getD,List.getElem?_take,if_pos hi,List.getElem?_drop,List.getD_eq_getElem?_getD]
end Go.Proofs

set_option linter.unusedSimpArgs false
set_option linter.unusedVariables false
set_option maxRecDepth 100000
namespace Go.Proofs
open Go Go.Eng

@[simp] def o_check88_1:Out:=.back 0 10 (sg 1000 [bt 1002 (.c3 (.xput 0) (.var 12) (.icell (.var 6) (.var 10) 0) (.vbool (.bl true))),bt 1000 (.arith .add .i64 (.var 10) (.lit 1)),bg 1001 11])
def o_check88:Out:=(.fresh 9 (.need (.cmp .leq (.lit 0) (.var 4)) (.inv 0 10 (sg 1000 [bt 1002 (.rcons (.vbool (.bl false)) (.rcons (.vbool (.bl false)) (.rcons (.vbool (.bl false)) (.rcons (.vbool (.bl false)) (.rcons (.vbool (.bl false)) (.rcons (.vbool (.bl false)) (.rcons (.vbool (.bl false)) (.rcons (.vbool (.bl false)) (.rcons (.vbool (.bl false)) (.rcons (.vbool (.bl false)) (.rcons (.vbool (.bl false)) (.rcons (.vbool (.bl false)) (.rcons (.vbool (.bl false)) (.rcons (.vbool (.bl false)) (.rcons (.vbool (.bl false)) (.rcons (.vbool (.bl false)) (.rcons (.vbool (.bl false)) (.rcons (.vbool (.bl false)) (.rcons (.vbool (.bl false)) (.rcons (.vbool (.bl false)) (.rcons (.vbool (.bl false)) (.rcons (.vbool (.bl false)) (.rcons (.vbool (.bl false)) (.rcons (.vbool (.bl false)) (.rcons (.vbool (.bl false)) (.rcons (.vbool (.bl false)) (.rcons (.vbool (.bl false)) (.rcons (.vbool (.bl false)) (.rcons (.vbool (.bl false)) (.rcons (.vbool (.bl false)) (.rcons (.vbool (.bl false)) (.rcons (.vbool (.bl false)) (.rcons (.vbool (.bl false)) (.rcons (.vbool (.bl false)) (.rcons (.vbool (.bl false)) (.rcons (.vbool (.bl false)) (.rcons (.vbool (.bl false)) (.rcons (.vbool (.bl false)) (.rcons (.vbool (.bl false)) (.rcons (.vbool (.bl false)) (.rcons (.vbool (.bl false)) (.rcons (.vbool (.bl false)) (.rcons (.vbool (.bl false)) (.rcons (.vbool (.bl false)) (.rcons (.vbool (.bl false)) (.rcons (.vbool (.bl false)) (.rcons (.vbool (.bl false)) (.rcons (.vbool (.bl false)) (.rcons (.vbool (.bl false)) (.rcons (.vbool (.bl false)) (.rcons (.vbool (.bl false)) (.rcons (.vbool (.bl false)) (.rcons (.vbool (.bl false)) (.rcons (.vbool (.bl false)) (.rcons (.vbool (.bl false)) (.rcons (.vbool (.bl false)) (.rcons (.vbool (.bl false)) (.rcons (.vbool (.bl false)) (.rcons (.vbool (.bl false)) (.rcons (.vbool (.bl false)) (.rcons (.vbool (.bl false)) (.rcons (.vbool (.bl false)) (.rcons (.vbool (.bl false)) (.rcons (.vbool (.bl false)) (.rcons (.vbool (.bl false)) (.rcons (.vbool (.bl false)) (.rcons (.vbool (.bl false)) (.rcons (.vbool (.bl false)) (.rcons (.vbool (.bl false)) (.rcons (.vbool (.bl false)) (.rcons (.vbool (.bl false)) (.rcons (.vbool (.bl false)) (.rcons (.vbool (.bl false)) (.rcons (.vbool (.bl false)) (.rcons (.vbool (.bl false)) (.rcons (.vbool (.bl false)) (.rcons (.vbool (.bl false)) (.rcons (.vbool (.bl false)) (.rcons (.vbool (.bl false)) (.rcons (.vbool (.bl false)) (.rcons (.vbool (.bl false)) (.rcons (.vbool (.bl false)) (.rcons (.vbool (.bl false)) (.rcons (.vbool (.bl false)) (.rcons (.vbool (.bl false)) (.rcons (.vbool (.bl false)) (.rcons (.vbool (.bl false)) (.rcons (.vbool (.bl false)) (.rcons (.vbool (.bl false)) (.rcons (.vbool (.bl false)) (.rcons (.vbool (.bl false)) (.rcons (.vbool (.bl false)) (.rcons (.vbool (.bl false)) (.rcons (.vbool (.bl false)) (.rcons (.vbool (.bl false)) (.rcons (.vbool (.bl false)) (.rcons (.vbool (.bl false)) (.rcons (.vbool (.bl false)) (.rcons (.vbool (.bl false)) (.rcons (.vbool (.bl false)) (.rcons (.vbool (.bl false)) (.rcons (.vbool (.bl false)) (.rcons (.vbool (.bl false)) (.rcons (.vbool (.bl false)) (.rcons (.vbool (.bl false)) (.rcons (.vbool (.bl false)) (.rcons (.vbool (.bl false)) (.rcons (.vbool (.bl false)) (.rcons (.vbool (.bl false)) (.rcons (.vbool (.bl false)) (.rcons (.vbool (.bl false)) (.rcons (.vbool (.bl false)) (.rcons (.vbool (.bl false)) (.rcons (.vbool (.bl false)) (.rcons (.vbool (.bl false)) (.rcons (.vbool (.bl false)) (.rcons (.vbool (.bl false)) (.rcons (.vbool (.bl false)) (.rcons (.vbool (.bl false)) (.rcons (.vbool (.bl false)) (.rcons (.vbool (.bl false)) (.rcons (.vbool (.bl false)) (.rcons (.vbool (.bl false)) (.rcons (.vbool (.bl false)) (.rcons (.vbool (.bl false)) (.rcons (.vbool (.bl false)) (.rcons (.vbool (.bl false)) (.rcons (.vbool (.bl false)) (.rcons (.vbool (.bl false)) (.rcons (.vbool (.bl false)) (.rcons (.vbool (.bl false)) (.rcons (.vbool (.bl false)) (.rcons (.vbool (.bl false)) (.rcons (.vbool (.bl false)) (.rcons (.vbool (.bl false)) (.rcons (.vbool (.bl false)) (.rcons (.vbool (.bl false)) (.rcons (.vbool (.bl false)) (.rcons (.vbool (.bl false)) (.rcons (.vbool (.bl false)) (.rcons (.vbool (.bl false)) (.rcons (.vbool (.bl false)) (.rcons (.vbool (.bl false)) (.rcons (.vbool (.bl false)) (.rcons (.vbool (.bl false)) (.rcons (.vbool (.bl false)) (.rcons (.vbool (.bl false)) (.rcons (.vbool (.bl false)) (.rcons (.vbool (.bl false)) (.rcons (.vbool (.bl false)) (.rcons (.vbool (.bl false)) (.rcons (.vbool (.bl false)) (.rcons (.vbool (.bl false)) (.rcons (.vbool (.bl false)) (.rcons (.vbool (.bl false)) (.rcons (.vbool (.bl false)) (.rcons (.vbool (.bl false)) (.rcons (.vbool (.bl false)) (.rcons (.vbool (.bl false)) (.rcons (.vbool (.bl false)) (.rcons (.vbool (.bl false)) (.rcons (.vbool (.bl false)) (.rcons (.vbool (.bl false)) (.rcons (.vbool (.bl false)) (.rcons (.vbool (.bl false)) (.rcons (.vbool (.bl false)) (.rcons (.vbool (.bl false)) (.rcons (.vbool (.bl false)) (.rcons (.vbool (.bl false)) (.rcons (.vbool (.bl false)) (.rcons (.vbool (.bl false)) (.rcons (.vbool (.bl false)) (.rcons (.vbool (.bl false)) (.rcons (.vbool (.bl false)) (.rcons (.vbool (.bl false)) (.rcons (.vbool (.bl false)) (.rcons (.vbool (.bl false)) (.rcons (.vbool (.bl false)) (.rcons (.vbool (.bl false)) (.rcons (.vbool (.bl false)) (.rcons (.vbool (.bl false)) (.rcons (.vbool (.bl false)) (.rcons (.vbool (.bl false)) (.rcons (.vbool (.bl false)) (.rcons (.vbool (.bl false)) (.rcons (.vbool (.bl false)) (.rcons (.vbool (.bl false)) (.rcons (.vbool (.bl false)) (.rcons (.vbool (.bl false)) (.rcons (.vbool (.bl false)) (.rcons (.vbool (.bl false)) (.rcons (.vbool (.bl false)) (.rcons (.vbool (.bl false)) (.rcons (.vbool (.bl false)) (.rcons (.vbool (.bl false)) (.rcons (.vbool (.bl false)) (.rcons (.vbool (.bl false)) (.rcons (.vbool (.bl false)) (.rcons (.vbool (.bl false)) (.rcons (.vbool (.bl false)) (.rcons (.vbool (.bl false)) (.rcons (.vbool (.bl false)) (.rcons (.vbool (.bl false)) (.rcons (.vbool (.bl false)) (.rcons (.vbool (.bl false)) (.rcons (.vbool (.bl false)) (.rcons (.vbool (.bl false)) (.rcons (.vbool (.bl false)) (.rcons (.vbool (.bl false)) (.rcons (.vbool (.bl false)) (.rcons (.vbool (.bl false)) (.rcons (.vbool (.bl false)) (.rcons (.vbool (.bl false)) (.rcons (.vbool (.bl false)) (.rcons (.vbool (.bl false)) (.rcons (.vbool (.bl false)) (.rcons (.vbool (.bl false)) (.rcons (.vbool (.bl false)) (.rcons (.vbool (.bl false)) (.rcons (.vbool (.bl false)) (.rcons (.vbool (.bl false)) (.rcons (.vbool (.bl false)) (.rcons (.vbool (.bl false)) (.rcons (.vbool (.bl false)) (.rcons (.vbool (.bl false)) (.rcons (.vbool (.bl false)) (.rcons (.vbool (.bl false)) (.rcons (.vbool (.bl false)) (.rcons (.vbool (.bl false)) (.rcons (.vbool (.bl false)) (.rcons (.vbool (.bl false)) (.rcons (.vbool (.bl false)) (.rcons (.vbool (.bl false)) (.rcons (.vbool (.bl false)) (.rcons (.vbool (.bl false)) (.rcons (.vbool (.bl false)) (.rcons (.vbool (.bl false)) (.rcons (.vbool (.bl false)) (.rcons (.vbool (.bl false)) (.rcons (.vbool (.bl false)) (.rcons (.vbool (.bl false)) (.rcons (.vbool (.bl false)) (.rcons (.vbool (.bl false)) (.rcons (.vbool (.bl false)) (.rcons (.vbool (.bl false)) (.rcons (.vbool (.bl false)) (.rcons (.vbool (.bl false)) (.rcons (.vbool (.bl false)) (.rcons (.vbool (.bl false)) (.rcons (.vbool (.bl false)) (.rcons (.vbool (.bl false)) (.rcons (.vbool (.bl false)) (.rcons (.vbool (.bl false)) (.rcons (.vbool (.bl false)) (.rcons (.vbool (.bl false)) .rnil))))))))))))))))))))))))))))))))))))))))))))))))))))))))))))))))))))))))))))))))))))))))))))))))))))))))))))))))))))))))))))))))))))))))))))))))))))))))))))))))))))))))))))))))))))))))))))))))))))))))))))))))))))))))))))))))))))))))))))))))))))))))))))))),bt 1000 (.lit 0),bg 1001 9]) (.fresh 10 (.fresh 11 (.fresh 12 (.hyp 0 10 (.br (.cmp .lss (.var 10) (.var 4))
 (.need (.cmp .leq (.lit 0) (.var 10)) (.need (.cmp .lss (.var 10) (.dlen (.var 6))) (.fresh 13 (.br (.cmp .lss (.icell (.var 6) (.var 10) 0) (.lit 0))
 (.ret 0 (sg 9 [bt 9 (.lit 2)]))
 (.br (.cmp .geq (.icell (.var 6) (.var 10) 0) (.var 1))
 (.ret 0 (sg 9 [bt 9 (.lit 2)]))
 (.need (.cmp .leq (.lit 0) (.icell (.var 6) (.var 10) 0)) (.need (.cmp .lss (.icell (.var 6) (.var 10) 0) (.lit 255)) (.need (.cmp .lss (.lit 0) (.dlen (.var 12))) (.br (.c2 (.xbool 0) (.var 12) (.icell (.var 6) (.var 10) 0))
 (.ret 0 (sg 9 [bt 9 (.lit 7)]))
 (.br (.cmp .lss (.var 2) (.lit 0))
 (.view (.vcell (.var 6) (.var 10) 1) [CK.int .u8] [8] 14 (.br (.cmp .gtr (.dlen (.var 16)) (.lit 8192))
 (.ret 0 (sg 9 [bt 9 (.lit 3)]))
 (.need (.cmp .lss (.lit 0) (.var 4)) (.need (.cmp .lss (.lit 0) (.dlen (.var 6))) (.view (.vcell (.var 6) (.lit 0) 1) [CK.int .u8] [8] 17 (.view (.vcell (.var 6) (.var 10) 1) [CK.int .u8] [8] 20 (.br (.cmp .neq (.dlen (.var 22)) (.dlen (.var 19)))
 (.ret 0 (sg 9 [bt 9 (.lit 10)]))
 o_check88_1)))))))
 (.view (.vcell (.var 6) (.var 10) 1) [CK.int .u8] [8] 14 (.br (.cmp .neq (.dlen (.var 16)) (.var 2))
 (.ret 0 (sg 9 [bt 9 (.lit 10)]))
 o_check88_1))))))))))))
 (.br (.cmp .lss (.var 4) (.var 0))
 (.ret 0 (sg 9 [bt 9 (.lit 12)]))
 (.ret 0 (sg 9 [bt 9 (.lit 0)])))))))))))
theorem o_check88_eq:treeOf ⟨Tryd.prog,check88C,[],[check88I]⟩ 100000 Tryd.f120 = o_check88:=by kernel_rfl
theorem check88_of (hd:∀ c ∈ ([]:List Ctr),c.ok Tryd.prog) (h:∀ ρ:Env,ρ.good→(check88C).pre ρ→o_check88.den ⟨Tryd.prog,check88C,[],[check88I]⟩ ρ):(check88C).ok Tryd.prog :=
 ok_of_tree Tryd.func120 (fun a w=>Tryd.call120 a w) hd 100000 (fun ρ hg hp=>by rw [o_check88_eq]; exact h ρ hg hp)
def o_addToT:Out:=(.br (.cmp .eql (.var 4) (.lit 0))
 (.ret 0 (sg 7 [bg 8 5,bv 7 1]))
 (.viewL (.var 3) [CK.int .u8] [6] 7 (.inv 0 10 (sg 1000 [bg 1003 5,bv 1001 1,bt 1000 (.lit 0),bt 1002 (.dlen (.var 9)),bt 1004 (.vslice 7 (.lit 0) (.dlen (.var 9)) (.var 8) 1)]) (.fresh 10 (.fresh 11 (.fresh 12 (.fresh 13 (.fresh 14 (.hyp 0 10 (.br (.cmp .lss (.var 10) (.var 12))
 (.viewL (.var 14) [CK.int .u8] [6] 15 (.need (.cmp .leq (.lit 0) (.var 10)) (.need (.cmp .lss (.var 10) (.dlen (.var 17))) (.both (.viewL (.var 2) [CK.int .u8] [13] 18 (.need (.cmp .lss (.var 10) (.dlen (.var 20))) (.both (.pre 0 (sg 0 [bv 1 11,bt 3 (.icell (.var 17) (.var 10) 0),bv 2 4,bg 0 0]) (.both (.fresh 21 (.fresh 22 (.post 0 0 (sg 0 [bv 1 11,bt 3 (.icell (.var 17) (.var 10) 0),bv 2 4,bg 0 0]) 21 (.both (.put 13 18 [CK.int .u8] (.var 20) (.var 10) 0 [(.vint .u8 (.arith .xor .u8 (.icell (.var 20) (.var 10) 0) (.var 21)))] 23 (.back 0 10 (sg 1000 [bg 1003 23,bv 1001 22,bt 1000 (.arith .add .i64 (.var 10) (.lit 1)),bv 1002 12,bt 1004 (.vslice 15 (.lit 0) (.dlen (.var 17)) (.var 16) 1)]))) .top)))) .top)) .top))) (.both (.pre 0 (sg 0 [bv 1 11,bt 3 (.icell (.var 17) (.var 10) 0),bv 2 4,bg 0 0]) (.both (.fresh 18 (.fresh 19 (.post 0 0 (sg 0 [bv 1 11,bt 3 (.icell (.var 17) (.var 10) 0),bv 2 4,bg 0 0]) 18 (.both (.viewL (.var 2) [CK.int .u8] [13] 20 (.need (.cmp .lss (.var 10) (.dlen (.var 22))) (.both (.put 13 20 [CK.int .u8] (.var 22) (.var 10) 0 [(.vint .u8 (.arith .xor .u8 (.icell (.var 22) (.var 10) 0) (.var 18)))] 23 (.back 0 10 (sg 1000 [bg 1003 23,bv 1001 19,bt 1000 (.arith .add .i64 (.var 10) (.lit 1)),bv 1002 12,bt 1004 (.vslice 15 (.lit 0) (.dlen (.var 17)) (.var 16) 1)]))) .top))) .top)))) .top)) .top)))))
 (.ret 0 (sg 7 [bg 8 13,bv 7 11]))))))))))))
theorem o_addToT_eq:treeOf ⟨Tryd.prog,addToT,[mulC],[addToTI]⟩ 100000 Tryd.f107 = o_addToT:=by kernel_rfl
theorem addToT_of (hd:∀ c ∈ ([mulC]:List Ctr),c.ok Tryd.prog) (h:∀ ρ:Env,ρ.good→(addToT).pre ρ→o_addToT.den ⟨Tryd.prog,addToT,[mulC],[addToTI]⟩ ρ):(addToT).ok Tryd.prog :=
 ok_of_tree Tryd.func107 (fun a w=>Tryd.call107 a w) hd 100000 (fun ρ hg hp=>by rw [o_addToT_eq]; exact h ρ hg hp)
@[simp] def o_combine91_1:Sg:=sg 0 [bv 13 25,bv 12 26,bv 7 20,bv 6 21,bv 1 23,bt 14 (.icell (.var 11) (.plus (.var 8) (.var 22)) 0),bv 11 25,bt 10 (.dlen (.var 26)),bt 9 (.lit 0),bg 8 24,bv 5 20,bv 4 19,bt 3 (.lit 0),bg 2 18,bg 0 0]
def o_combine91:Out:=(.need (.cmp .lss (.lit 0) (.var 3)) (.need (.cmp .lss (.lit 0) (.dlen (.var 5))) (.view (.vcell (.var 5) (.lit 0) 0) [CK.int .u8] [13] 14 (.need (.cmp .leq (.tims (.lit 1) (.dlen (.var 16))) (.lit 281474976710656)) (.fresh 17 (.need (.cmp .leq (.lit 0) (.var 9)) (.inv 0 18 (sg 1000 [bt 1003 (.drep (.dlen (.var 16)) (.rcons (.vint .u8 (.lit 0)) .rnil)),bv 1005 1,bt 1004 (.lit 0),bt 1002 (.dlen (.var 16)),bt 1001 (.dlen (.var 16)),bg 1000 17]) (.fresh 18 (.fresh 19 (.fresh 20 (.fresh 21 (.fresh 22 (.fresh 23 (.hyp 0 18 (.br (.cmp .lss (.var 22) (.var 9))
 (.need (.cmp .leq (.lit 0) (.var 22)) (.need (.cmp .leq (.lit 0) (.var 8)) (.need (.cmp .leq (.lit 0) (.plus (.var 8) (.var 22))) (.need (.cmp .lss (.plus (.var 8) (.var 22)) (.dlen (.var 11))) (.need (.cmp .lss (.var 22) (.var 3)) (.need (.cmp .lss (.var 22) (.dlen (.var 5))) (.view (.vcell (.var 5) (.var 22) 0) [CK.int .u8] [13] 24 (.pre 0 o_combine91_1 (.both (.fresh 27 (.fresh 28 (.post 0 0 o_combine91_1 27 (.back 0 18 (sg 1000 [bv 1003 28,bv 1005 27,bt 1004 (.arith .add .i64 (.var 22) (.lit 1)),bv 1002 20,bv 1001 19,bg 1000 18]))))) .top)))))))))
 (.ret 0 (sg 14 [bv 18 21,bv 17 23,bv 16 20,bv 15 19,bg 14 18])))))))))))))))))
theorem o_combine91_eq:treeOf ⟨Tryd.prog,combine91C,[addToC],[combine91I]⟩ 100000 Tryd.f122 = o_combine91:=by kernel_rfl
theorem combine91_of (hd:∀ c ∈ ([addToC]:List Ctr),c.ok Tryd.prog) (h:∀ ρ:Env,ρ.good→(combine91C).pre ρ→o_combine91.den ⟨Tryd.prog,combine91C,[addToC],[combine91I]⟩ ρ):(combine91C).ok Tryd.prog :=
 ok_of_tree Tryd.func122 (fun a w=>Tryd.call122 a w) hd 100000 (fun ρ hg hp=>by rw [o_combine91_eq]; exact h ρ hg hp)
@[simp] def o_solve89_1:Sg:=sg 0 [bg 6 9,bg 5 88,bv 1 73,bt 4 (.icell (.var 85) (.plus (.var 90) (.var 89)) 0),bt 3 (.vcell (.var 7) (.var 89) 1),bt 2 (.vcell (.var 87) (.var 72) 0),bg 0 0]
def o_solve89:Out:=(.fresh 10 (.pre 0 (sg 0 [bv 1 1,bv 3 3,bv 2 2,bg 0 0]) (.both (.fresh 11 (.fresh 12 (.fresh 13 (.fresh 14 (.fresh 15 (.fresh 16 (.post 0 0 (sg 0 [bv 1 1,bv 3 3,bv 2 2,bg 0 0]) 11 (.fresh 17 (.need (.cmp .leq (.lit 0) (.var 2)) (.need (.cmp .leq (.tims (.lit 8) (.var 2)) (.lit 281474976710656)) (.fresh 18 (.inv 0 19 (sg 1000 [bt 1001 (.drep (.var 2) (.rcons (.vint .i64 (.lit 0)) .rnil)),bv 1008 15,bv 1007 13,bv 1006 12,bg 1005 11,bv 1003 14,bt 1002 (.lit 0),bg 1000 18,bg 1004 17,bg 1010 10]) (.fresh 19 (.fresh 20 (.fresh 21 (.fresh 22 (.fresh 23 (.fresh 24 (.fresh 25 (.fresh 26 (.fresh 27 (.fresh 28 (.fresh 29 (.hyp 0 19 (.br (.cmp .lss (.var 21) (.var 2))
 (.need (.cmp .leq (.lit 0) (.var 21)) (.need (.cmp .lss (.var 21) (.var 5)) (.need (.cmp .lss (.var 21) (.dlen (.var 7))) (.need (.cmp .lss (.var 21) (.dlen (.var 20))) (.back 0 19 (sg 1000 [bt 1001 (.dput (.var 20) (.var 21) 0 (.rcons (.vint .i64 (.icell (.var 7) (.var 21) 0)) .rnil)),bv 1008 27,bv 1007 26,bv 1006 25,bg 1005 24,bv 1003 22,bt 1002 (.arith .add .i64 (.var 21) (.lit 1)),bg 1000 19,bg 1004 23,bg 1010 29]))))))
 (.pre 1 (sg 0 [bv 11 2,bv 10 20,bv 6 26,bv 5 27,bv 9 2,bv 8 2,bg 7 19,bv 4 26,bv 3 25,bg 2 24,bv 1 2,bv 0 3]) (.both (.fresh 30 (.fresh 31 (.fresh 32 (.fresh 33 (.post 1 0 (sg 0 [bv 11 2,bv 10 20,bv 6 26,bv 5 27,bv 9 2,bv 8 2,bg 7 19,bv 4 26,bv 3 25,bg 2 24,bv 1 2,bv 0 3]) 30 (.fresh 34 (.pre 2 (sg 0 [bv 8 32,bv 7 33,bv 1 22,bv 6 32,bv 5 31,bg 4 30,bv 3 2,bv 2 2,bg 0 0]) (.both (.fresh 35 (.fresh 36 (.fresh 37 (.fresh 38 (.fresh 39 (.post 2 0 (sg 0 [bv 8 32,bv 7 33,bv 1 22,bv 6 32,bv 5 31,bg 4 30,bv 3 2,bv 2 2,bg 0 0]) 35 (.fresh 40 (.need (.cmp .leq (.tims (.lit 24) (.var 2)) (.lit 281474976710656)) (.fresh 41 (.pack [.cells 34 160 [(.vint .i64 (.var 2)),(.vint .i64 (.var 2)),(.vslice 30 (.lit 0) (.var 31) (.var 32) 1)],.arr 30 5 [CK.int .u8] (.var 33) (.var 32),.arr 19 3 [CK.int .i64] (.var 20) (.var 2)] 42 (.inv 1 43 (sg 1000 [bg 1018 42,bt 1017 (.drep (.var 2) (.rcons .vnils .rnil)),bv 1015 39,bv 1014 37,bv 1013 36,bg 1012 35,bv 1008 27,bv 1007 26,bv 1006 25,bg 1005 24,bv 1003 38,bt 1002 (.lit 0),bg 1016 41,bg 1011 40,bg 1004 23,bg 1010 29]) (.fresh 43 (.fresh 44 (.fresh 45 (.fresh 46 (.fresh 47 (.fresh 48 (.fresh 49 (.fresh 50 (.fresh 51 (.fresh 52 (.fresh 53 (.fresh 54 (.fresh 55 (.fresh 56 (.fresh 57 (.fresh 58 (.fresh 59 (.fresh 60 (.fresh 61 (.hyp 1 43 (.br (.cmp .lss (.var 45) (.var 2))
 (.need (.cmp .lss (.lit 0) (.var 5)) (.need (.cmp .lss (.lit 0) (.dlen (.var 7))) (.view (.vcell (.var 7) (.lit 0) 1) [CK.int .u8] [61,9] 62 (.need (.cmp .leq (.tims (.lit 1) (.dlen (.var 64))) (.lit 281474976710656)) (.fresh 65 (.need (.cmp .leq (.lit 0) (.var 45)) (.need (.cmp .lss (.var 45) (.dlen (.var 60))) (.pre 3 (sg 0 [bv 6 57,bv 5 58,bv 7 45,bv 4 57,bv 3 56,bg 2 55,bv 1 2,bv 0 2]) (.both (.fresh 66 (.fresh 67 (.fresh 68 (.post 3 0 (sg 0 [bv 6 57,bv 5 58,bv 7 45,bv 4 57,bv 3 56,bg 2 55,bv 1 2,bv 0 2]) 66 (.need (.cmp .leq (.lit 0) (.var 67)) (.pack [.arr 65 5 [CK.int .u8] (.drep (.dlen (.var 64)) (.rcons (.vint .u8 (.lit 0)) .rnil)) (.dlen (.var 64)),.abs 61 2] 69 (.inv 2 70 (sg 1000 [bg 1018 69,bt 1017 (.dput (.var 60) (.var 45) 0 (.rcons (.vslice 65 (.lit 0) (.dlen (.var 64)) (.dlen (.var 64)) 1) .rnil)),bv 1015 58,bv 1014 57,bv 1013 56,bv 1008 51,bv 1007 50,bv 1006 49,bg 1005 48,bv 1003 46,bt 1019 (.lit 0),bv 1022 68,bv 1021 67,bv 1020 66,bg 1012 55,bv 1002 45,bg 1016 59,bg 1011 54,bg 1004 47,bg 1010 53]) (.fresh 70 (.fresh 71 (.fresh 72 (.fresh 73 (.fresh 74 (.fresh 75 (.fresh 76 (.fresh 77 (.fresh 78 (.fresh 79 (.fresh 80 (.fresh 81 (.fresh 82 (.fresh 83 (.fresh 84 (.fresh 85 (.fresh 86 (.fresh 87 (.fresh 88 (.fresh 89 (.fresh 90 (.fresh 91 (.fresh 92 (.hyp 2 70 (.br (.cmp .lss (.var 89) (.var 91))
 (.need (.cmp .leq (.lit 0) (.var 89)) (.need (.cmp .leq (.lit 0) (.var 90)) (.need (.cmp .leq (.lit 0) (.plus (.var 90) (.var 89))) (.need (.cmp .lss (.plus (.var 90) (.var 89)) (.dlen (.var 85))) (.need (.cmp .leq (.lit 0) (.var 72)) (.need (.cmp .lss (.var 72) (.var 2)) (.need (.cmp .lss (.var 72) (.dlen (.var 87))) (.need (.cmp .lss (.var 89) (.var 5)) (.need (.cmp .lss (.var 89) (.dlen (.var 7))) (.both (.pre 4 o_solve89_1 (.both (.fresh 93 (.fresh 94 (.post 4 0 o_solve89_1 93 (.back 2 70 (sg 1000 [bg 1018 94,bv 1017 87,bv 1015 85,bv 1014 84,bv 1013 83,bv 1008 78,bv 1007 77,bv 1006 76,bg 1005 75,bv 1003 93,bt 1019 (.arith .add .i64 (.var 89) (.lit 1)),bv 1022 92,bv 1021 91,bv 1020 90,bg 1012 82,bv 1002 72,bg 1016 86,bg 1011 81,bg 1004 74,bg 1010 80]))))) .top)) .top))))))))))
 (.back 1 43 (sg 1000 [bg 1018 88,bv 1017 87,bv 1015 85,bv 1014 84,bv 1013 83,bg 1012 82,bv 1008 78,bv 1007 77,bv 1006 76,bg 1005 75,bv 1003 73,bt 1002 (.arith .add .i64 (.var 72) (.lit 1)),bg 1016 86,bg 1011 81,bg 1004 74,bg 1010 80])))))))))))))))))))))))))))))))))) .top)))))))))
 (.both (.pack [.cells 53 160 [(.vint .i64 (.var 3)),(.vint .i64 (.var 2)),(.vslice 48 (.lit 0) (.var 49) (.var 50) 1)],.cells 47 160 [(.vint .i64 (.var 3)),(.vint .i64 (.var 2)),(.vslice 48 (.lit 0) (.var 49) (.var 50) 1)],.cells 54 160 [(.vint .i64 (.var 2)),(.vint .i64 (.var 2)),(.vslice 55 (.lit 0) (.var 56) (.var 57) 1)],.arr 55 5 [CK.int .u8] (.var 58) (.var 57),.abs 61 2] 62 (.ret 0 (sg 10 [bv 17 51,bg 16 62,bv 15 60,bv 14 46,bv 13 50,bv 12 49,bg 11 48,bg 10 59]))) .top))))))))))))))))))))))))))))))))) .top)))))))) .top))))))))))))))))))))))))))) .top)))
theorem o_solve89_eq:treeOf ⟨Tryd.prog,solve89C,[genKC,selGC,invGC,row75C,addToT],[solve89A,solve89B,solve89D 45]⟩ 100000 Tryd.f121 = o_solve89:=by kernel_rfl
theorem solve89_of (hd:∀ c ∈ ([genKC,selGC,invGC,row75C,addToT]:List Ctr),c.ok Tryd.prog) (h:∀ ρ:Env,ρ.good→(solve89C).pre ρ→o_solve89.den ⟨Tryd.prog,solve89C,[genKC,selGC,invGC,row75C,addToT],[solve89A,solve89B,solve89D 45]⟩ ρ):(solve89C).ok Tryd.prog :=
 ok_of_tree Tryd.func121 (fun a w=>Tryd.call121 a w) hd 100000 (fun ρ hg hp=>by rw [o_solve89_eq]; exact h ρ hg hp)
end Go.Proofs

set_option linter.unusedSimpArgs false
set_option linter.unusedVariables false
namespace Go.Proofs
open Go Go.Eng
variable {k total len e e':Int} {n i:Nat} {I I':Nat→Int} {L L':Nat→Nat}
theorem ok_zero:okTo total len I L 0:=fun j hj=>by omega
theorem ok_step (h:okTo total len I L i) (h1:0 ≤ I i∧I i < total) (h2:∀ j,j < i→I j ≠ I i) (h3:¬ (len < 0∧8192 < L i)) (h4:(L i:Int) = wantL len L):okTo total len I L (i + 1):=fun j hj=>by
 by_cases hji:j = i
 ·subst hji
  exact ⟨h1,h2,fun h=>by omega,h4⟩
 ·exact h j (by omega)
theorem bad_ok (hi:i < n) (h:okTo total len I L n) (hb:badAt total len I L i e):False:=by
 obtain ⟨a,b,c,d⟩:=h i hi
 rcases hb with ⟨h1,_⟩ | ⟨_,⟨j,h1,h2⟩,_⟩ | ⟨_,_,⟨h1,h2⟩,_⟩ | ⟨_,_,_,h1,_⟩
 ·exact h1 a
 ·exact b j h1 h2
 ·have:=c h1; omega
 ·exact h1 d
theorem bad_eq (h:badAt total len I L i e) (h':badAt total len I L i e'):e = e':=by
 rcases h with ⟨a,b⟩ | ⟨a,⟨j,b1,b2⟩,c⟩ | ⟨a,b,c,d⟩ | ⟨a,b,c,d,f⟩ <;> rcases h' with ⟨a',b'⟩ | ⟨a',⟨j',b1',b2'⟩,c'⟩ | ⟨a',b',c',d'⟩ | ⟨a',b',c',d',f'⟩ <;>
  first | omega | exact (a a').elim | exact (a' a).elim | exact (b' _ b1 b2).elim | exact (b _ b1' b2').elim | exact (c' c).elim | exact (c c').elim
theorem chk_eq (h:chkP k total len n I L e) (h':chkP k total len n I L e'):e = e':=by
 rcases h with ⟨i,hi,ho,hb⟩ | ⟨ho,hk⟩ <;> rcases h' with ⟨j,hj,ho',hb'⟩ | ⟨ho',hk'⟩
 ·rcases Nat.lt_trichotomy i j with h | h | h
  ·exact (bad_ok h ho' hb).elim
  ·subst h; exact bad_eq hb hb'
  ·exact (bad_ok h ho hb').elim
 ·exact (bad_ok hi ho' hb).elim
 ·exact (bad_ok hj ho hb').elim
 ·omega
theorem chk_ok (h:chkP k total len n I L 0):okTo total len I L n∧k ≤ (n:Int):=by
 rcases h with ⟨i,hi,ho,hb⟩ | ⟨ho,⟨_,h⟩ | ⟨h,_⟩⟩
 ·rcases hb with ⟨_,h⟩ | ⟨_,_,h⟩ | ⟨_,_,_,h⟩ | ⟨_,_,_,_,h⟩ <;> omega
 ·omega
 ·exact ⟨ho,h⟩
theorem idx_get {D:Rows'} {m j:Nat} (hj:j < m):(idxL D m).getD j 0 = pcI D j:=by
 unfold idxL
 rw [List.getD_eq_getElem?_getD,List.getElem?_map,List.getElem?_range hj]; rfl
theorem idx_len {D:Rows'} {m:Nat}:(idxL D m).length = m:=by simp [idxL]
theorem nodup_map {f:Nat→Int}:∀ {m:Nat},(∀ j,j < m→∀ j',j' < j→f j' ≠ f j)→((List.range m).map f).Nodup:=fun {m} h=>by
 rw [List.nodup_iff_pairwise_ne,List.pairwise_map]
 refine List.Pairwise.imp_of_mem (R:=fun a b=>a < b) (fun {a b} ha hb hlt=>?_) List.pairwise_lt_range
 exact h b (List.mem_range.1 hb) a hlt
theorem choose_of_ok {D:Rows'} {L:Nat→Nat} {m:Nat} (h:okTo total len (pcI D) L n) (hm:m ≤ n):chooseOk m total.toNat (idxL D m):=by
 refine ⟨idx_len,nodup_map fun j hj j' hj'=>(h j (by omega)).2.1 j' hj',fun x hx=>?_⟩
 obtain ⟨j,hj,rfl⟩:=List.mem_map.1 hx
 have:=(h j (by rw [List.mem_range] at hj; omega)).1
 exact ⟨this.1,by omega⟩
end Go.Proofs

set_option linter.unusedSimpArgs false
set_option linter.unusedVariables false
namespace Go.Proofs
open Go Go.Eng
set_option maxRecDepth 100000
theorem pc_atN {h:Hp} {D:Rows'} {n j:Int} (hp:pcOk h D n.toNat) (h0:0 ≤ j) (h1:j < n):j < (D.length:Int)∧cellI D j 0 = pcI D j.toNat∧∃ d,Rd h kB (cellV D j 1) d∧allB d∧pcD h D j.toNat = bI d∧pcN h D j.toNat = d.length:=by
 obtain ⟨a,b,d,c,e,f⟩:=pc_atI hp h0 h1
 exact ⟨a,b,d,c,e,f,by rw [pcN,f,bI_len]⟩
theorem seenI_zero {I:Nat→Int}:seenI [List.replicate 255 (.bool false)] I 0:=by
 refine ⟨⟨_,rfl,List.length_replicate ..⟩,fun x h0 h1=>⟨fun h=>?_,fun ⟨j,hj,_⟩=>by omega⟩⟩
 exfalso
 have h2:cellXB [List.replicate 255 (Value.bool false)] x.toNat = false:=by
  unfold cellXB
  rw [List.headD_cons,List.getElem?_replicate,if_pos (by omega)]; rfl
 rw [h2] at h; cases h
theorem seenI_step {s:Rows'} {I:Nat→Int} {i:Nat} (h:seenI s I i) (h0:0 ≤ I i) (h1:I i < 255):seenI (putX s (I i).toNat (.bool true)) I (i + 1):=by
 obtain ⟨⟨row,rfl,hr⟩,h2⟩:=h
 refine ⟨⟨_,rfl,by rw [List.length_set]; exact hr⟩,fun x x0 x1=>?_⟩
 have hc:cellXB (putX [row] (I i).toNat (.bool true)) x.toNat = if x = I i then true else cellXB [row] x.toNat:=by
  unfold cellXB putX
  rw [List.headD_cons,List.headD_cons,List.getElem?_set]
  by_cases hxe:x = I i
  ·rw [if_pos (by rw [hxe]),if_pos (by omega),if_pos hxe]; rfl
  ·rw [if_neg (fun e=>hxe (by omega)),if_neg hxe]
 rw [hc]
 by_cases hxe:x = I i
 ·rw [if_pos hxe]
  exact ⟨fun _=>⟨i,by omega,hxe.symm⟩,fun _=>rfl⟩
 ·rw [if_neg hxe,h2 x x0 x1]
  constructor
  ·rintro ⟨j,hj,he⟩; exact ⟨j,by omega,he⟩
  ·rintro ⟨j,hj,he⟩
   refine ⟨j,?_,he⟩
   by_cases hji:j = i
   ·exact (hxe (by rw [← he,hji])).elim
   ·omega
theorem check88_ok:check88C.ok Tryd.prog:=check88_of (by simp) fun ρ hg hp=>by
 obtain ⟨p1,p2,p3,hpc⟩:=hp
 simp (config:={ maxSteps:=4000000 }) [o_check88,check88C,chkOf,check88I,okR]
 refine ⟨p2,⟨p2,ok_zero,seenI_zero⟩,fun i _ s _ i0 i1 ho hs=>⟨fun hi=>?_,fun hi=>?_⟩⟩
 ·obtain ⟨hl,hI,d,hr,_,_,hL⟩:=pc_atN hpc i0 hi
  have bad:∀ e,badAt (ρ 1).i (ρ 2).i (pcI (ρ 6).d) (pcN (ρ 8).h (ρ 6).d) i.i.toNat e→chkP (ρ 0).i (ρ 1).i (ρ 2).i (ρ 4).i.toNat (pcI (ρ 6).d) (pcN (ρ 8).h (ρ 6).d) e:=fun e hb=>.inl ⟨i.i.toNat,by omega,ho,hb⟩
  rw [hI]
  refine ⟨i0,by omega,fun h=>bad _ (.inl ⟨by omega,rfl⟩),fun h0=>⟨fun h=>bad _ (.inl ⟨by omega,rfl⟩),fun h1=>?_⟩⟩
  have hsx:=hs.2 _ h0 (by omega)
  refine ⟨h0,by omega,by obtain ⟨⟨row,e,_⟩,_⟩:=hs; rw [e]; exact Nat.one_pos,fun hx=>bad _ (.inr (.inl ⟨⟨h0,h1⟩,hsx.1 hx,rfl⟩)),fun hx=>?_⟩
  have hno:∀ j,j < i.i.toNat→pcI (ρ 6).d j ≠ pcI (ρ 6).d i.i.toNat:=fun j hj he=>by
   rw [hsx.2 ⟨j,hj,he⟩] at hx; cases hx
  have next:¬ ((ρ 2).i < 0∧8192 < pcN (ρ 8).h (ρ 6).d i.i.toNat)→(pcN (ρ 8).h (ρ 6).d i.i.toNat:Int) = wantL (ρ 2).i (pcN (ρ 8).h (ρ 6).d) →
    (0 ≤ arithOf .add .i64 i.i 1∧arithOf .add .i64 i.i 1 ≤ (ρ 4).i∧okTo (ρ 1).i (ρ 2).i (pcI (ρ 6).d) (pcN (ρ 8).h (ρ 6).d) (arithOf .add .i64 i.i 1).toNat∧seenI (putX s.d (pcI (ρ 6).d i.i.toNat).toNat (.bool true)) (pcI (ρ 6).d) (arithOf .add .i64 i.i 1).toNat)∧max ((ρ 4).i - arithOf .add .i64 i.i 1) 0 < (ρ 4).i - i.i:=fun h3 h4=>by
   rw [add64 (by omega) (by omega),show (i.i + 1).toNat = i.i.toNat + 1 by omega]
   exact ⟨⟨by omega,by omega,ok_step ho ⟨h0,h1⟩ hno h3 h4,seenI_step hs h0 (by omega)⟩,by omega⟩
  refine ⟨fun hneg=>⟨d,hr,fun h=>bad _ (.inr (.inr (.inl ⟨⟨h0,h1⟩,hno,⟨hneg,by omega⟩,rfl⟩))),fun h=>?_⟩,fun hpos=>⟨d,hr,fun h=>bad _ (.inr (.inr (.inr ⟨⟨h0,h1⟩,hno,fun h=>by omega,?_,rfl⟩))),fun h=>next (fun h=>by omega) ?_⟩⟩
  ·obtain ⟨hl0,_,d0,hr0,_,_,hL0⟩:=pc_atN hpc (j:=0) (by omega) (by omega)
   have hw:wantL (ρ 2).i (pcN (ρ 8).h (ρ 6).d) = (d0.length:Int):=by
    unfold wantL
    rw [if_pos hneg]
    exact congrArg Nat.cast hL0
   refine ⟨by omega,by omega,d0,hr0,d,hr,fun hne=>bad _ (.inr (.inr (.inr ⟨⟨h0,h1⟩,hno,fun h=>by omega,?_,rfl⟩))),fun he=>next (fun h=>by omega) ?_⟩
   ·rw [hw,hL]; exact hne
   ·rw [hw,hL]; exact he
  ·unfold wantL
   rw [if_neg (by omega),hL]; exact h
  ·unfold wantL
   rw [if_neg (by omega),hL]; exact h
 ·rw [show i.i.toNat = (ρ 4).i.toNat by omega] at ho
  exact ⟨fun h=>.inr ⟨ho,.inl ⟨by omega,rfl⟩⟩,fun h=>.inr ⟨ho,.inr ⟨by omega,rfl⟩⟩⟩
theorem rdB_L {h:Hp} {v:Value} (hb:rdB h v):∃ d,Rd h kB v d∧allB d∧rdL h v = bI d:=by
 obtain ⟨d,hr,hB⟩:=hb
 exact ⟨d,hr,hB,rdL_eq hr⟩
theorem tabTo_zero {h:Hp} {v:Value} {g:List Int→List Int} (hg:∀ l,bytesL l→g l = l):tabTo h h v g:=fun vs n M i ht hi hv =>
 tab_congr ht (fun _ _=>rfl) fun j hj=>by
  by_cases hji:j = i
  ·rw [if_pos hji,hji,hg _ (tab_bytes ht hi)]
  ·rw [if_neg hji]
theorem tabTo_at {h h':Hp} {v:Value} {g:List Int→List Int} {l:Nat} (ht:tabHas h v l) (hT:tabTo h h' v g) (hg:∀ x,(g x).length = x.length):∃ d,Rd h' kB v d∧allB d∧l ≤ d.length:=by
 obtain ⟨vs,n,M,i,ht,hi,hv,hl⟩:=ht
 obtain ⟨d,hr,hd,hB⟩:=tab_at (hT vs n M i ht hi hv) hi
 rw [hv] at hr
 rw [if_pos rfl] at hd
 exact ⟨d,hr,hB,by rw [← bI_len,hd,hg]; exact hl⟩
theorem tabTo_step {h h1 h2:Hp} {v:Value} {s:List Int} {w:Int} {k:Nat} {r:Option Addr} {d:Rows'} {cap:Nat} {x:Int} (hT:tabTo h h1 v fun l=>addToL l 0 (seg s 0 k) w) (hP:Put h1 h2 r kB d k [.int .u8 x]) (hv:v = .slice (addrOf r 0) d.length cap) (hr:Rd h1 kB v d) (hk:k < d.length) (hks:k < s.length)
  (hx:x = xorB (cellI d k 0) (mulF w (s.getD k 0))):tabTo h h2 v fun l=>addToL l 0 (seg s 0 (k + 1)) w:=fun vs n M i ht hi hvi=>by
 have t:=hT vs n M i ht hi hvi
 have hri:Rd h1 kB (vs i) d:=by rw [hvi]; exact hr
 obtain ⟨d',r',e',_⟩:=tab_at t hi
 obtain rfl:=Rd_unique r' hri
 rw [if_pos rfl] at e'
 have hlen:d'.length = (M i).length:=by rw [← bI_len,e',addToL_len]
 have hc:(M i)[0 + k]? = some (cellI d' k 0):=by
  have h0:=bI_get (d:=d') (i:=(k:Int)) (by omega) (by omega)
  rw [Int.toNat_natCast,e',addToL_out (by right; rw [seg_len (by omega)]; omega)] at h0
  rw [Nat.zero_add]; exact h0
 have hy:s[0 + k]? = some (s.getD k 0):=by
  rw [Nat.zero_add,List.getElem?_eq_getElem hks,List.getD_eq_getElem?_getD,List.getElem?_eq_getElem hks]; rfl
 refine tab_congr (tab_put t hi hP (by rw [hvi]; exact hv) hri hk (by rw [hx]; exact xorB_range)) (fun _ _=>rfl) fun j _=>?_
 by_cases hji:j = i
 ·subst hji
  rw [if_pos rfl,if_pos rfl,if_pos rfl,hx]
  show addToL (M j) 0 (seg s 0 (k + 1)) w = (addToL (M j) 0 (seg s 0 k) w).set k _
  have h:=addToL_step (i:=k) (c:=w) hc hy
  simp only [Nat.zero_add] at h
  exact h
 ·rw [if_neg hji,if_neg hji,if_neg hji]
theorem addToT_ok:addToT.ok Tryd.prog:=addToT_of (by simp [mul_ok]) fun ρ hg hp=>by
 obtain ⟨hf,hb,hl,hh,hw⟩:=hp
 simp (config:={ maxSteps:=4000000 }) [o_addToT,addToT,addToTI,mulC]
 obtain ⟨s,hrs,hsB,hs⟩:=rdB_L hb
 have hsl:(rdL (ρ 6).h (ρ 3).v).length = s.length:=by rw [hs,bI_len]
 refine ⟨fun h0=>⟨hf,tabTo_zero fun l hl=>by rw [h0]; exact addToL_zero hl⟩,fun h0=>⟨s,hrs,fun u0 _ u1 _ e0 _=>⟨⟨hf,by rw [hsl],e0.symm,tabTo_zero fun l hl=>by rw [show seg (rdL (ρ 6).h (ρ 3).v) 0 0 = [] by simp [seg],addToL_nil]⟩,?_⟩⟩⟩
 intro i _ f _ n _ H _ v _ hf i0 i1 hn hv hT
 have hlen:∀ (k:Nat) (x:List Int),(addToL x 0 (seg (rdL (ρ 6).h (ρ 3).v) 0 k) (ρ 4).i).length = x.length:=fun k x=>addToL_len
 refine ⟨fun hi=>⟨s,by rw [hv]; exact hrs,fun u2 _ u3 _ e1 _=>⟨i0,by omega,?_⟩⟩,fun hi=>⟨hf,?_⟩⟩
 ·obtain ⟨d,hrd,hdB,hld⟩:=tabTo_at hh hT (hlen _)
  have hsb:=allB_get hsB i0 (by omega:i.i < s.length)
  rw [add64 (x:=i.i) (by omega) (by omega)]
  have hsi:(rdL (ρ 6).h (ρ 3).v).getD i.i.toNat 0 = cellI s i.i 0:=by rw [hs,cell_getD i0 (by omega)]
  have core:∀ (a b m H':U),(ρ 2).v = .slice (addrOf a.r 0) d.length b.i.toNat→m.i = mulF (ρ 4).i (cellI s i.i 0)→Put H.h H'.h a.r kB d i.i.toNat [.int .u8 (arithOf .xor .u8 (cellI d i.i 0) m.i)] →
    tabTo (ρ 5).h H'.h (ρ 2).v fun l=>addToL l 0 (seg (rdL (ρ 6).h (ρ 3).v) 0 (i.i + 1).toNat) (ρ 4).i:=fun a b m H' ea hm hP=>by
   rw [show (i.i + 1).toNat = i.i.toNat + 1 by omega]
   exact tabTo_step hT hP ea hrd (by omega) (by omega) (by rw [hsi,hm,Int.toNat_of_nonneg i0]; rfl)
  refine ⟨⟨d,hrd,fun a _ b _ ea _=>⟨by omega,⟨hf,hw.1,hw.2,hsb⟩,fun m _ f' _ hf' hm H' _ hP=>?_⟩⟩,⟨hf,hw.1,hw.2,hsb⟩,fun m _ f' _ hf' hm=>⟨d,hrd,fun a _ b _ ea _=>⟨by omega,fun H' _ hP=>?_⟩⟩⟩
  all_goals exact ⟨⟨hf',by omega,by omega,hn,by rw [← e1]; exact hv,core a b m H' ea hm hP⟩,by omega⟩
 ·have:seg (rdL (ρ 6).h (ρ 3).v) 0 i.i.toNat = rdL (ρ 6).h (ρ 3).v:=by
   unfold seg
   rw [List.drop_zero,List.take_of_length_le (by omega)]
  rw [this] at hT
  exact hT
end Go.Proofs

set_option linter.unusedSimpArgs false
set_option linter.unusedVariables false
namespace Go.Proofs
open Go Go.Eng
def byF (r:F) (y:Nat→F):Nat→F:=fun l=>(if l = 0 then 0 else y (l - 1)) ^^^ fmul r (y l)
theorem pval_one {y:Nat→F} {x:F}:pval 1 y x = y 0:=by
 show (0:F) ^^^ fmul (y 0) (fpow x 0) = y 0
 rw [zero_xor',show fpow x 0 = 1 from rfl,fmul_one]
theorem byF_val' {r x:F} {y:Nat→F}:∀ n,pval (n + 1) (byF r y) x = fmul (x ^^^ r) (pval n y x) ^^^ fmul (fmul r (y n)) (fpow x n)
 | 0=>by rw [pval_one,byF,if_pos rfl,zero_xor',show pval 0 y x = 0 from rfl,fmul_zero,zero_xor',show fpow x 0 = 1 from rfl,fmul_one]
 | n + 1=>by
  have ih:=byF_val' (r:=r) (x:=x) (y:=y) n
  have h1:pval (n + 2) (byF r y) x = pval (n + 1) (byF r y) x ^^^ fmul (byF r y (n + 1)) (fpow x (n + 1)):=rfl
  have h2:pval (n + 1) y x = pval n y x ^^^ fmul (y n) (fpow x n):=rfl
  rw [h1,ih,h2,byF,if_neg (by omega),Nat.add_sub_cancel,xor_fmul,fmul_xor (x:=y n)]
  have h3:fmul (x ^^^ r) (fmul (y n) (fpow x n)) = fmul (y n) (fpow x (n + 1)) ^^^ fmul (fmul r (y n)) (fpow x n):=by
   rw [fmul_xor,fpow]
   congr 1
   ·rw [← fmul_assoc,fmul_comm (x:=x),fmul_assoc]
    try rw [fmul_comm (x:=x)]
   ·rw [fmul_assoc]
  rw [h3]
  generalize fmul (x ^^^ r) (pval n y x) = a
  generalize fmul (fmul r (y n)) (fpow x n) = b
  generalize fmul (y n) (fpow x (n + 1)) = c
  generalize fmul (fmul r (y (n + 1))) (fpow x (n + 1)) = d
  rw [BitVec.xor_assoc,BitVec.xor_assoc,BitVec.xor_assoc]
  congr 1
  rw [← BitVec.xor_assoc,← BitVec.xor_assoc,BitVec.xor_comm b c]
theorem byF_val {r x:F} {y:Nat→F} {n:Nat} (h:y n = 0):pval (n + 1) (byF r y) x = fmul (x ^^^ r) (pval n y x):=by
 rw [byF_val',h,fmul_zero,zero_fmul,xor_zero']
theorem pval_more {y:Nat→F} {x:F} {n:Nat} (h:∀ l,n ≤ l→y l = 0):∀ m,pval (n + m) y x = pval n y x
 | 0=>rfl
 | m + 1=>by
  show pval (n + m) y x ^^^ fmul (y (n + m)) (fpow x (n + m)) = _
  rw [pval_more h m,h _ (by omega),zero_fmul,xor_zero']
theorem pval_xor {y z:Nat→F} {x:F} {n:Nat}:pval n (fun l=>y l ^^^ z l) x = pval n y x ^^^ pval n z x:=by
 simp only [pval]
 rw [← fsum_xor]
 exact fsum_congr fun j _=>fmul_xor
theorem pval_mul {y:Nat→F} {x c:F} {n:Nat}:pval n (fun l=>fmul c (y l)) x = fmul c (pval n y x):=by
 simp only [pval]
 rw [← fsum_mul]
 exact fsum_congr fun j _=>fmul_assoc
def ddF (xs ys:Nat→F):Nat→Nat→F
 | s,0=>ys s
 | s,j + 1=>fmul (ddF xs ys (s + 1) j ^^^ ddF xs ys s j) (finv (xs (s + j + 1) ^^^ xs s))
theorem newton_top {n:Nat} {xs ys:Nat→F} (hd:distinct n xs):∀ j s,s + j < n→∃ y:Nat→F,(∀ l,j < l→y l = 0)∧(∀ i,i ≤ j→pval (j + 1) y (xs (s + i)) = ys (s + i))∧y j = ddF xs ys s j
 | 0,s,hs=>⟨fun l=>if l = 0 then ys s else 0,fun l hl=>if_neg (by omega),fun i hi=>by
   obtain rfl:i = 0:=by omega
   rw [pval_one,if_pos rfl,Nat.add_zero],rfl⟩
 | j + 1,s,hs=>by
  obtain ⟨y1,a1,b1,c1⟩:=newton_top (ys:=ys) hd j (s + 1) (by omega)
  obtain ⟨y0,a0,b0,c0⟩:=newton_top (ys:=ys) hd j s (by omega)
  have hne:xs (s + j + 1) ^^^ xs s ≠ 0:=fun h=>by have:=hd _ _ (by omega) (by omega) (xor_eq_zero.1 h); omega
  let w:F:=finv (xs (s + j + 1) ^^^ xs s)
  have hv:∀ x,pval (j + 2) (fun l=>fmul w (byF (xs s) y1 l ^^^ byF (xs (s + j + 1)) y0 l)) x = fmul w (fmul (x ^^^ xs s) (pval (j + 1) y1 x) ^^^ fmul (x ^^^ xs (s + j + 1)) (pval (j + 1) y0 x)):=fun x=>by
   rw [pval_mul,pval_xor,byF_val (a1 _ (by omega)),byF_val (a0 _ (by omega))]
  refine ⟨fun l=>fmul w (byF (xs s) y1 l ^^^ byF (xs (s + j + 1)) y0 l),fun l hl=>?_,fun i hi=>?_,?_⟩
  ·simp only [byF]
   rw [if_neg (by omega),if_neg (by omega),a1 l (by omega),a0 l (by omega),a1 (l - 1) (by omega),a0 (l - 1) (by omega),fmul_zero,fmul_zero,xor_self',fmul_zero]
  ·rw [hv]
   have hw:∀ z,fmul w (fmul (xs (s + j + 1) ^^^ xs s) z) = z:=fun z=>by
    rw [← fmul_assoc,fmul_comm (x:=w),fmul_finv hne,one_fmul]
   by_cases h0:i = 0
   ·subst h0
    have hb0:=b0 0 (by omega)
    simp only [Nat.add_zero] at hb0
    rw [Nat.add_zero,xor_self',zero_fmul,zero_xor',hb0,BitVec.xor_comm,hw]
   ·by_cases h1:i = j + 1
    ·subst h1
     have:=b1 j (Nat.le_refl _)
     rw [show s + 1 + j = s + (j + 1) by omega] at this
     rw [this,← Nat.add_assoc,xor_self',zero_fmul,xor_zero',hw]
    ·have h2:=b1 (i - 1) (by omega)
     rw [show s + 1 + (i - 1) = s + i by omega] at h2
     rw [h2,b0 i (by omega),← fmul_xor,xor_swap,xor_self',zero_xor',BitVec.xor_comm,hw]
  ·simp only [byF]
   rw [if_neg (by omega),if_neg (by omega),a1 (j + 1) (by omega),a0 (j + 1) (by omega),fmul_zero,fmul_zero,xor_zero',xor_zero',Nat.add_sub_cancel,c1,c0,fmul_comm]
   rfl
def monF (xs:Nat→F):Nat→Nat→F
 | 0=>fun l=>if l = 0 then 1 else 0
 | m + 1=>byF (xs m) (monF xs m)
theorem mon_facts {xs:Nat→F}:∀ m,(∀ l,m < l→monF xs m l = 0)∧monF xs m m = 1∧∀ x,pval (m + 1) (monF xs m) x = fprod (fun u=>x ^^^ xs u) m
 | 0=>⟨fun l hl=>if_neg (by omega),rfl,fun x=>by rw [pval_one]; rfl⟩
 | m + 1=>by
  obtain ⟨h1,h2,h3⟩:=mon_facts (xs:=xs) m
  refine ⟨fun l hl=>?_,?_,fun x=>?_⟩
  ·simp only [monF,byF]
   rw [if_neg (by omega),h1 (l - 1) (by omega),h1 l (by omega),fmul_zero,xor_zero']
  ·simp only [monF,byF]
   rw [if_neg (by omega),Nat.add_sub_cancel,h2,h1 (m + 1) (by omega),fmul_zero,xor_zero']
  ·rw [monF,byF_val (h1 _ (by omega)),h3,fprod,fmul_comm]
def newtF (xs ys:Nat→F) (x:F) (m:Nat):F:=fsum (fun t=>fmul (ddF xs ys 0 t) (fprod (fun u=>x ^^^ xs u) t)) m
theorem newton_at {n:Nat} {xs ys:Nat→F} (hd:distinct n xs):∀ m,m < n→∃ y:Nat→F,(∀ l,m < l→y l = 0)∧(∀ i,i ≤ m→pval (m + 1) y (xs i) = ys i)∧∀ x,pval (m + 1) y x = newtF xs ys x (m + 1)
 | 0,hm=>by
  obtain ⟨y,a,b,c⟩:=newton_top (ys:=ys) hd 0 0 (by omega)
  refine ⟨y,a,fun i hi=>by have:=b i hi; simp only [Nat.zero_add] at this ⊢; exact this,fun x=>?_⟩
  rw [pval_one,c]
  show ys 0 = (0:F) ^^^ fmul (ys 0) 1
  rw [zero_xor',fmul_one]
 | m + 1,hm=>by
  obtain ⟨y0,a0,b0,c0⟩:=newton_at (ys:=ys) hd m (by omega)
  obtain ⟨y,a,b,c⟩:=newton_top (ys:=ys) hd (m + 1) 0 (by omega)
  obtain ⟨p1,p2,p3⟩:=mon_facts (xs:=xs) (m + 1)
  refine ⟨y,a,fun i hi=>by have:=b i hi; rwa [Nat.zero_add] at this,fun x=>?_⟩
  let R:Nat→F:=fun l=>(y l ^^^ y0 l) ^^^ fmul (ddF xs ys 0 (m + 1)) (monF xs (m + 1) l)
  have hRv:∀ x,pval (m + 2) R x = (pval (m + 2) y x ^^^ pval (m + 1) y0 x) ^^^ fmul (ddF xs ys 0 (m + 1)) (fprod (fun u=>x ^^^ xs u) (m + 1)):=fun x=>by
   rw [← p3,← pval_mul,← pval_more (y:=y0) (n:=m + 1) (fun l hl=>a0 l (by omega)) 1,← pval_xor,← pval_xor]
  have hRt:R (m + 1) = 0:=by
   simp only [R]
   rw [c,a0 (m + 1) (by omega),p2,fmul_one,xor_zero',xor_self']
  have hRe:∀ x,pval (m + 1) R x = pval (m + 2) R x:=fun x=>by
   show _ = pval (m + 1) R x ^^^ fmul (R (m + 1)) (fpow x (m + 1))
   rw [hRt,zero_fmul,xor_zero']
  have h0:=pval_roots (n:=m + 1) (y:=R) (xs:=xs) (fun i j hi hj=>hd i j (by omega) (by omega)) fun i hi=>by
   rw [hRe,hRv,b0 i (by omega)]
   have:=b i (by omega)
   rw [Nat.zero_add] at this
   rw [this,xor_self',zero_xor',fprod_zero (k:=i) hi xor_self',fmul_zero]
  have hz:pval (m + 1) R x = 0:=fsum_zero fun l hl=>by rw [h0 l hl,zero_fmul]
  rw [hRe,hRv] at hz
  have h1:newtF xs ys x (m + 2) = newtF xs ys x (m + 1) ^^^ fmul (ddF xs ys 0 (m + 1)) (fprod (fun u=>x ^^^ xs u) (m + 1)):=rfl
  rw [h1,← c0 x]
  have h2:=xor_eq_zero.1 hz
  rw [← h2,← BitVec.xor_assoc,BitVec.xor_comm,← BitVec.xor_assoc,xor_self',zero_xor']
end Go.Proofs

set_option linter.unusedSimpArgs false
set_option linter.unusedVariables false
namespace Go.Proofs
open Go Go.Eng
theorem mixN_facts {f:Nat→List Int} {w:List Int} {l:Nat} (hw:bytesL w):∀ k,(∀ j,j < k→(f j).length = l∧bytesL (f j))→(mixN f w l k).length = l∧bytesL (mixN f w l k)∧∀ c,c < l→toF ((mixN f w l k).getD c 0) = fsum (fun m=>fmul (toF (w.getD m 0)) (toF ((f m).getD c 0))) k
 | 0,_=>⟨by simp [mixN],fun x hx=>by rw [mixN] at hx; rw [List.eq_of_mem_replicate hx]; exact ⟨by omega,by omega⟩,fun c hc=>by
   rw [mixN,List.getD_eq_getElem?_getD,List.getElem?_replicate,if_pos hc]; rfl⟩
 | k + 1,h=>by
  obtain ⟨h1,h2,h3⟩:=mixN_facts hw k fun j hj=>h j (by omega)
  obtain ⟨f1,f2⟩:=h k (by omega)
  have hsl:seg (f k) 0 l = f k:=by rw [← f1]; simp [seg]
  rw [mixN,hsl]
  refine ⟨by rw [addToL_len,h1],addToL_bytes h2,fun c hc=>?_⟩
  rw [List.getD_eq_getElem?_getD,addToL_get,List.getElem?_eq_getElem (by omega),Option.map_some,Option.getD_some,if_pos ⟨by omega,by omega⟩,Nat.sub_zero,toF_xorB,toF_mulF (bytesL_get hw _) (bytesL_get f2 _),fsum,← h3 c hc,List.getD_eq_getElem?_getD (l:=mixN f w l k),List.getElem?_eq_getElem (by omega),Option.getD_some]
theorem mix_eq {f g:Nat→List Int} {w v:List Int} {l k:Nat} (hw:bytesL w) (hv:bytesL v) (hf:∀ j,j < k→(f j).length = l∧bytesL (f j)) (hg:∀ j,j < k→(g j).length = l∧bytesL (g j))
  (h:∀ c,c < l→fsum (fun m=>fmul (toF (w.getD m 0)) (toF ((f m).getD c 0))) k = fsum (fun m=>fmul (toF (v.getD m 0)) (toF ((g m).getD c 0))) k):mixN f w l k = mixN g v l k:=by
 obtain ⟨a1,a2,a3⟩:=mixN_facts hw k hf
 obtain ⟨b1,b2,b3⟩:=mixN_facts hv k hg
 refine list_ext_getD (by omega) fun c hc=>toF_inj (bytesL_get a2 c) (bytesL_get b2 c) ?_
 rw [a3 c (by omega),b3 c (by omega),h c (by omega)]
theorem wgt_at {rs:List Int} {x:Int} {j:Nat} (hj:j < rs.length):toF ((wgtL rs x).getD j 0) = lagF rs.length (fun m=>toF (rs.getD m 0)) (toF x) j:=by
 unfold wgtL
 rw [List.getD_eq_getElem?_getD,List.getElem?_map,List.getElem?_range hj,Option.map_some,Option.getD_some,toF_ofF]
theorem wgt_byte {xs:List Int} {x:Int}:bytesL (wgtL xs x):=fun y hy=>by
 obtain ⟨m,_,rfl⟩:=List.mem_map.1 hy
 exact ofF_isB
variable {k total:Nat} {rs:List Int}
theorem chosen_xs (hc:chooseOk k total rs) {j:Nat} (hj:j < k):toF (rs.getD j 0) = xsF (rs.getD j 0).toNat:=by
 have h1:=hc.1
 have h2:=hc.2.2 (rs.getD j 0) (getD_mem (by omega))
 unfold xsF
 rw [Int.toNat_of_nonneg h2.1]
theorem chosen_dist (hc:chooseOk k total rs) (ht:total ≤ 255):distinct k fun m=>toF (rs.getD m 0):=fun i j hi hj he=>by
 refine chosen_distinct hc ht i j hi hj ?_
 simp only [chosen_xs hc hi,chosen_xs hc hj] at he
 exact he
theorem poly_thru {xs v:Nat→F} (h1:1 ≤ k) (hd:distinct k xs):∃ y:Nat→F,(∀ i,i < k→pval k y (xs i) = v i)∧∀ x,pval k y x = fsum (fun j=>fmul (lagF k xs x j) (v j)) k:=by
 obtain ⟨y,_,hy,_⟩:=newton_at (ys:=v) hd (k - 1) (by omega)
 rw [show k - 1 + 1 = k by omega] at hy
 refine ⟨y,fun i hi=>hy i (by omega),fun x=>?_⟩
 rw [lagrange hd]
 exact fsum_congr fun j hj=>by rw [hy j (by omega)]
theorem inv_apply (hc:chooseOk k total rs) (h1:1 ≤ k) (hk:k ≤ total) (ht:total ≤ 255) (v:Nat→F) {i:Nat} (hi:i < k) :
    fsum (fun j=>fmul (matL k (invL total k rs) i j) (v j)) k = fsum (fun j=>fmul (lagF k (fun m=>toF (rs.getD m 0)) (xsF i) j) (v j)) k:=by
  obtain ⟨y,hy,hL⟩:=poly_thru (v:=v) h1 (chosen_dist hc ht)
  obtain ⟨g1,g2,_,g4⟩:=gen_facts h1 hk ht
  have hlen:=sel_len' hc g1
  have hr:=rows_gen hc h1 hk ht
  obtain ⟨t2,he⟩:=inv_ech hlen (sel_bytes g2)
  rw [hr] at he
  obtain ⟨m1,_⟩:=inv_mul he
  have hS:∀ j,j < k→∀ m,m < k→matL k (selL (genL k total) k rs) j m = lagF k xsF (toF (rs.getD j 0)) m:=fun j hj m hm=>by
    have hrj:=hc.2.2 (rs.getD j 0) (getD_mem (by rw [hc.1]; exact hj))
    unfold matL
    rw [sel_get g1 hc.2.2 (by rw [hc.1]; exact hj) hm,chosen_xs hc hj,← g4 (rs.getD j 0).toNat m (by omega) hm]
    rfl
  have hx:distinct k xsF:=xs_distinct (by omega)
  rw [← hL]
  calc fsum (fun j=>fmul (matL k (invL total k rs) i j) (v j)) k
      = fsum (fun j=>fsum (fun m=>fmul (fmul (matL k (invL total k rs) i j) (matL k (selL (genL k total) k rs) j m)) (pval k y (xsF m))) k) k:=by
        refine fsum_congr fun j hj=>?_
        rw [← hy j hj,lagrange hx (x:=toF (rs.getD j 0)),← fsum_mul]
        exact fsum_congr fun m hm=>by rw [hS j hj m hm,fmul_assoc]
    _ = fsum (fun m=>fmul (del m i) (pval k y (xsF m))) k:=by
        rw [fsum_swap]
        refine fsum_congr fun m hm=>?_
        rw [fsum_mul',del_symm]
        congr 1
        exact m1 i m hi hm
    _ = pval k y (xsF i):=fsum_del (f:=fun m=>pval k y (xsF m)) hi
theorem seg_row {m:List Int} {i j:Nat} (hj:j < k):toF ((seg m (i * k) k).getD j 0) = matL k m i j:=by
 unfold matL seg
 rw [List.getD_eq_getElem?_getD,List.getElem?_take,if_pos hj,List.getElem?_drop,List.getD_eq_getElem?_getD]
theorem inv_bytes (hc:chooseOk k total rs) (h1:1 ≤ k) (hk:k ≤ total) (ht:total ≤ 255):(invL total k rs).length = k * k∧bytesL (invL total k rs):=by
 obtain ⟨g1,g2,_,_⟩:=gen_facts h1 hk ht
 obtain ⟨t2,_⟩:=inv_ech (sel_len' hc g1) (sel_bytes g2)
 exact ⟨t2.lb,t2.bb⟩
theorem seg_byte {l:List Int} {o n:Nat} (h:bytesL l):bytesL (seg l o n):=fun x hx=>h x (List.mem_of_mem_drop (List.mem_of_mem_take hx))
theorem col_val (hc:chooseOk k total rs) (h1:1 ≤ k) (hk:k ≤ total) (ht:total ≤ 255) {f:Nat→List Int} {l i:Nat} (hf:∀ j,j < k→(f j).length = l∧bytesL (f j)) (hi:i < k) :
  mixN f (seg (invL total k rs) (i * k) k) l k = mixN f (wgtL rs (i:Int)) l k:=by
 refine mix_eq (seg_byte (inv_bytes hc h1 hk ht).2) wgt_byte hf hf fun c hcl=>?_
 rw [fsum_congr fun m hm=>by rw [seg_row hm],inv_apply hc h1 hk ht _ hi]
 exact fsum_congr fun m hm=>by rw [wgt_at (by rw [hc.1]; exact hm),hc.1]; rfl
theorem comb_val (hc:chooseOk k total rs) (h1:1 ≤ k) (hk:k ≤ total) (ht:total ≤ 255) {f:Nat→List Int} {l r:Nat} (hf:∀ j,j < k→(f j).length = l∧bytesL (f j)) (hr:r < total) {g:Nat→List Int} (hg:∀ i,i < k→g i = mixN f (wgtL rs (i:Int)) l k) :
  mixN g (seg (genL k total) (r * k) k) l k = mixN f (wgtL rs (r:Int)) l k:=by
 obtain ⟨g1,g2,_,g4⟩:=gen_facts h1 hk ht
 have hgf:∀ i,i < k→(g i).length = l∧bytesL (g i):=fun i hi=>by
  obtain ⟨a,b,_⟩:=mixN_facts (wgt_byte (xs:=rs) (x:=(i:Int))) k hf
  rw [hg i hi]; exact ⟨a,b⟩
 refine mix_eq (seg_byte g2) wgt_byte hgf hf fun c hcl=>?_
 obtain ⟨y,hy,hL⟩:=poly_thru (v:=fun j=>toF ((f j).getD c 0)) h1 (chosen_dist hc ht)
 have hx:distinct k xsF:=xs_distinct (by omega)
 have hv:∀ x:Int,fsum (fun m=>fmul (toF ((wgtL rs x).getD m 0)) (toF ((f m).getD c 0))) k = pval k y (toF x):=fun x=>by
  rw [hL]
  exact fsum_congr fun m hm=>by rw [wgt_at (by rw [hc.1]; exact hm),hc.1]
 rw [hv,show toF ((r:Nat):Int) = xsF r from rfl,lagrange hx]
 refine fsum_congr fun m hm=>?_
 rw [seg_row hm,g4 r m hr hm,hg m hm,(mixN_facts wgt_byte k hf).2.2 c hcl,hv]
 rfl
end Go.Proofs

set_option linter.unusedSimpArgs false
set_option linter.unusedVariables false
namespace Go.Proofs
open Go Go.Eng
set_option maxRecDepth 100000
theorem col_at {h:Hp} {D:Rows'} {j:Int} (hb:rdB h (tvs D j.toNat)) (j0:0 ≤ j):∃ d,Rd h kB (cellV D j 0) d∧allB d∧colF h D j.toNat = bI d:=by
 rw [tvs_at j0] at hb
 obtain ⟨d,hr,hB,he⟩:=rdB_L hb
 exact ⟨d,hr,hB,by rw [colF,tvs_at j0,he]⟩
set_option maxHeartbeats 1000000 in
theorem combine91_ok:combine91C.ok Tryd.prog:=combine91_of (by simp [addTo_ok]) fun ρ hg hp=>by
 obtain ⟨hf,k1,k2,kd,hr1,h9,w0,w1,wB,hcol,l9⟩:=hp
 simp (config:={ maxSteps:=4000000 }) [o_combine91,combine91C,combine91I,addToC]
 obtain ⟨d0,hrd0,hdB0,hc0⟩:=col_at (hcol 0 (by omega)).1 (j:=0) (by omega)
 have hc0:colF (ρ 13).h (ρ 5).d 0 = bI d0:=hc0
 have hl0:(colF (ρ 13).h (ρ 5).d 0).length = d0.length:=by rw [hc0,bI_len]
 refine ⟨by omega,by omega,d0,hrd0,by omega,by omega,⟨hf,by omega,hl0.symm,allB_rep,by rw [bI_rep,hl0]; rfl⟩,fun n _ d _ i _ f _ hf' i0 i1 hn hdl hB hd=>⟨fun hi=>?_,fun hi=>⟨hf',hn,hdl,hB,by rw [hd,show i.i.toNat = (ρ 3).i.toNat by omega]⟩⟩⟩
 obtain ⟨e,hre,heB,hce⟩:=col_at (hcol i.i.toNat (by omega)).1 (j:=i.i) i0
 have hle:e.length = d0.length:=by
  have:=(hcol i.i.toNat (by omega)).2
  rw [hce,bI_len,hl0] at this
  exact this
 have hcb:=allB_get wB (i:=(ρ 8).i + i.i) (by omega) (by omega)
 rw [add64 (x:=i.i) (by omega) (by omega)]
 refine ⟨i0,w0,by omega,by omega,by omega,by omega,e,hre,⟨hf',⟨by omega,by omega,by omega,by unfold Go.Eng.big; omega⟩,⟨by omega,by omega,by omega,by unfold Go.Eng.big; omega⟩,by omega,hB,heB,hcb⟩,fun f2 _ d2 _ hf2 hl2 hB2 he2=>⟨⟨hf2,by omega,by omega,by omega,by omega,hB2,?_⟩,by omega⟩⟩
 have hsg:seg (bI e) 0 e.length = seg (colF (ρ 13).h (ρ 5).d i.i.toNat) 0 (colF (ρ 13).h (ρ 5).d 0).length:=by rw [hce,hl0,hle]
 have hwt:(seg (bI (ρ 11).d) (ρ 8).i.toNat (ρ 3).i.toNat).getD i.i.toNat 0 = cellI (ρ 11).d ((ρ 8).i + i.i) 0:=by
  rw [seg_getD (by omega),← cell_getD (by omega) (by omega),Int.toNat_add w0 i0]
 rw [he2,hd,hsg,show (i.i + 1).toNat = i.i.toNat + 1 by omega,mixN,hwt]
end Go.Proofs

set_option linter.unusedSimpArgs false
set_option linter.unusedVariables false
namespace Go.Proofs
open Go Go.Eng
set_option maxRecDepth 100000
theorem cellI_put {d:Rows'} {i j x:Int} {k:IntKind} (i0:0 ≤ i) (i1:i < d.length) (j0:0 ≤ j):cellI (putD d i 0 [.int k x]) j 0 = if j = i then x else cellI d j 0:=by
 unfold cellI cellV putD
 rw [List.getElem?_set]
 by_cases h:j = i
 ·subst h
  rw [if_pos rfl,if_pos (by omega),if_pos rfl]
  simp [splice,vInt]
 ·rw [if_neg (by omega),if_neg h]
set_option maxHeartbeats 4000000 in
theorem solve89_ok:solve89C.ok Tryd.prog:=solve89_of (by simp [genK_ok,selG_ok,invG_ok,row75_ok,addToT_ok]) fun ρ hg hp=>by
 obtain ⟨hf,hsz,hkn,hn2,hpc,hch,h8,hLeq⟩:=hp
 obtain ⟨k1,k2,k3⟩:=sizesB_iff.1 hsz
 have s1:∀ {x:Int},-1 ≤ x→x ≤ 1000→arithOf .add .i64 x 1 = x + 1:=fun h1 h2=>add64 (by omega) (by omega)
 simp (config:={ maxSteps:=4000000 }) [o_solve89,solve89C,solve89A,solve89B,solve89D,solW,solR,genW,genKC,gen35C,selGC,sel62C,invGC,inverse55C,row75C,addToT]
 intro n10 _
 refine ⟨⟨hf,hsz⟩,fun g _ lg _ cg _ f1 _ dg _ ab _ hf1 _ hMg _ hGg u7 _=>⟨by omega,by omega,fun u8 _=>⟨⟨hf1,⟨hMg,hGg⟩,by omega,fun j h1 h2=>by omega⟩,?_⟩⟩⟩
 clear hMg hGg hf1
 intro _ _ R _ i _ f _ _ _ _ _ lg _ cg _ dg _ _ _ _ _ hf1 hMg hGg i0 i1 hRl hR
 refine ⟨fun hi=>?_,fun hi=>?_⟩
 ·obtain ⟨hl,_⟩:=pc_atN hpc i0 (by omega)
  rw [s1 (by omega) (by omega)]
  refine ⟨i0,by omega,hl,by omega,⟨hf1,⟨hMg,hGg⟩,by omega,by omega,by rw [putD_len]; exact hRl,fun j j0 j1=>?_⟩,by omega⟩
  rw [cellI_put i0 (by omega) j0]
  by_cases hji:j = i.i
  ·rw [if_pos hji,hji]
  ·rw [if_neg hji]; exact hR j j0 (by omega)
 have hidx:iI R.d = idxL (ρ 7).d (ρ 2).i.toNat:=by
  refine list_ext_getD (by rw [iI_len,idx_len]; exact hRl) fun j hj=>?_
  rw [iI_len] at hj
  rw [idx_get (by omega)]
  have h1:=iI_get (d:=R.d) (i:=(j:Int)) (by omega) (by omega)
  rw [Int.toNat_natCast] at h1
  rw [h1,hR _ (by omega) (by omega)]
  rfl
 have hMg':=hMg
 obtain ⟨⟨g1,g2,g3,g4,g5,g6,g7,g8⟩,g9⟩:=hMg'
 have hb:=mul_bound (x:=(ρ 2).i) (y:=(ρ 2).i) (by omega) (show (ρ 2).i ≤ 255 by omega) (by omega) (show (ρ 2).i ≤ 255 by omega)
 have hrk:=rows_gen hch (by omega) (by omega) (by omega)
 refine ⟨⟨⟨by omega,g6,g7,g8,by omega,by omega⟩,selBad_not ⟨⟨by omega,g2,k1,by omega,g5⟩,k1,by omega⟩ fun x hx=>by
  rw [hidx] at hx
  have:=hch.2.2 x hx
  omega⟩,fun sr _ ls _ cs _ ds _ _ hMs hLs hSs u24 _=>?_⟩
 obtain ⟨s2,s3,s4,s5,s6,s7,s8,s9⟩:=hMs
 have hte:(bI ds.d).take ls.i.toNat = bI ds.d:=List.take_of_length_le (by rw [bI_len]; omega)
 have hS:bI ds.d = selL (genL (ρ 2).i.toNat (ρ 3).i.toNat) (ρ 2).i.toNat (idxL (ρ 7).d (ρ 2).i.toNat):=by rw [hSs,hGg,hidx]
 rw [hte,hS]
 refine ⟨⟨⟨hf1,by omega,s7,s8,s9⟩,⟨k1,by omega,k1,by omega,s6⟩,hrk⟩,fun iv _ li _ ci _ f2 _ di _ hf2 _ hMi _ hIi u30 _=>⟨by omega,fun u31 _ H _ _=>⟨⟨⟨hf2,⟨hMg,hGg⟩,hMi,hIi,by omega⟩,⟨fun j hj=>by omega,fun i j hi=>by omega⟩⟩,?_⟩⟩⟩
 clear hMg hGg hf1 hf2 hMi hIi hSs hS hte hLs s2 s3 s4 s5 s6 s7 s8 s9 g1 g2 g3 g4 g5 g6 g7 g8 g9 hidx hR hRl hi i0 i1
 have hINV:=inv_bytes hch (by omega:1 ≤ (ρ 2).i.toNat) (by omega) (by omega)
 intro _ _ _ _ i _ f _ _ _ _ _ lg _ cg _ dg _ _ _ _ _ _ _ _ _ li _ ci _ di _ _ _ C _ H _ hf1 hMg hGg hMi hIi hCl hCr i0 i1 ht
 refine ⟨fun hi=>?_,fun hi u52 _ hst=>?_⟩
 ·obtain ⟨hl0,_,d0,hrd0,_,_,hN0⟩:=pc_atN hpc (j:=0) (by omega) (by omega)
  have hN0:pcN (ρ 9).h (ρ 7).d 0 = d0.length:=hN0
  refine ⟨by omega,by omega,d0,.inr hrd0,fun u0 _ u1 _=>⟨by omega,fun nr _=>⟨i0,by omega,⟨i0,hi,hMi.1⟩,fun o _ n _ c _ ho hn hc=>⟨by omega,fun H' _ hst=>⟨⟨⟨hf1,⟨hMg,hGg⟩,hMi,hIi,by rw [putD_len]; exact hCl,rows_put hCr i0 (by omega),i0,i1⟩,hi,ho,hn,by omega,?_⟩,?_⟩⟩⟩⟩⟩
  ·obtain ⟨hx,hy,hdis,lx,ly,dx,dy⟩:=star_two (l1:=[]) hst (y:=SH.abs 61 2) (by simp)
   have hrd:=arr_Rd (n:=d0.length) (k:=d0.length) dx (Hp.le_refl _) (by simp) (by simp)
   have hrd:Rd hx kB (.slice (addrOf nr.r 0) d0.length d0.length) (List.replicate d0.length [.int .u8 0]):=by simpa [kB] using hrd
   have hab:Hp.le H.h hy∧Hp.free H.h:=by simpa [SH.den] using dy
   refine tab_new ht (Hp.le_trans hab.1 ly) hrd lx (disj_le hdis hab.1) allB_rep (fun j hj=>by rw [tvs_put hCr i0 (by omega),if_neg (by omega)]) (by rw [tvs_put hCr i0 (by omega),if_pos rfl]) (fun j hj=>if_neg (by omega)) ?_
   rw [if_pos rfl,bI_rep,hN0]; rfl
  clear hMg hGg hf1 hMi hIi hCl hCr ht
  intro i' _ f _ lg _ cg _ dg _ li _ ci _ di _ C _ H _ j _ o _ n _ hf1 hMg hGg hMi hIi hCl hCr i0' i1' hi' hii ho hn j0 j1 ht
  have hbo:=mul_bound (x:=i'.i) (y:=(ρ 2).i) i0' (by omega) (by omega) (show (ρ 2).i ≤ 255 by omega)
  have hMi':=hMi
  obtain ⟨⟨m1,m2,m3,m4,m5,m6,m7,m8⟩,m9⟩:=hMi'
  refine ⟨fun hj=>?_,fun hj=>?_⟩
  ·obtain ⟨hlj,_,d,hrd,hdB,hdD,hdN⟩:=pc_atN hpc j0 (show j.i < (ρ 5).i by omega)
   have hlen:d.length = pcN (ρ 9).h (ρ 7).d 0:=by rw [← hdN]; exact hLeq _ (by omega)
   have hrl:rdL (ρ 9).h (cellV (ρ 7).d j.i 1) = bI d:=rdL_eq hrd
   have hltG:i'.i * (ρ 2).i + j.i < (ρ 2).i * (ρ 2).i:=by
    have:=Int.mul_le_mul_of_nonneg_right (show i'.i + 1 ≤ (ρ 2).i by omega) (show 0 ≤ (ρ 2).i by omega)
    rw [Int.add_mul,Int.one_mul] at this; omega
   have hcb:=allB_get m8 (i:=o.i + j.i) (by omega) (by omega)
   rw [s1 (by omega) (by omega),hrl]
   refine ⟨j0,by omega,by omega,by omega,i0',hi',by omega,by omega,hlj,⟨hf1,⟨d,hrd,hdB⟩,by rw [bI_len]; omega,⟨tvs C.d,_,_,i'.i.toNat,ht,by omega,tvs_at i0',?_⟩,hcb⟩,fun f' _ H' _ hf' hT=>⟨⟨⟨hf',⟨hMg,hGg⟩,hMi,hIi,hCl,hCr,i0',i1'⟩,hi',hii,ho,hn,by omega,by omega,?_⟩,by omega⟩⟩
   ·simp only [if_pos]
    rw [bI_len,mixN_len]; omega
   ·refine tab_congr (hT (tvs C.d) _ _ i'.i.toNat ht (by omega) (tvs_at i0')) (fun _ _=>rfl) fun r hr=>?_
    by_cases hri:r = i'.i.toNat
    ·subst hri
     rw [if_pos rfl,if_pos rfl]
     show _ = addToL _ 0 _ _
     rw [if_pos rfl,show (j.i + 1).toNat = j.i.toNat + 1 by omega,mixN]
     have e1:seg (pcD (ρ 9).h (ρ 7).d j.i.toNat) 0 (pcN (ρ 9).h (ρ 7).d 0) = bI d:=by
      rw [hdD,← hlen,← bI_len (d:=d)]; simp [seg]
     have e2:(seg (invL (ρ 3).i.toNat (ρ 2).i.toNat (idxL (ρ 7).d (ρ 2).i.toNat)) (i'.i.toNat * (ρ 2).i.toNat) (ρ 2).i.toNat).getD j.i.toNat 0 = cellI di.d (o.i + j.i) 0:=by
      rw [seg_getD (by omega),← hIi,← cell_getD (by omega) (by omega),ho,Int.toNat_add hbo.1 j0,Int.toNat_mul i0' (by omega)]
     rw [e1,e2]
    ·rw [if_neg hri,if_neg hri,if_neg hri]
  ·rw [s1 (by omega) (by omega),show (i'.i + 1).toNat = i'.i.toNat + 1 by omega]
   refine ⟨⟨⟨hf1,⟨hMg,hGg⟩,hMi,hIi,hCl,hCr,by omega,by omega⟩,tab_congr ht (fun _ _=>rfl) fun r hr=>?_⟩,by omega⟩
   by_cases hri:r = i'.i.toNat
   ·subst hri
    rw [if_pos rfl,show j.i.toNat = (ρ 2).i.toNat by omega]; rfl
   ·rw [if_neg hri]
 ·obtain ⟨hb2,lb2,db2⟩:=star_mem_abs hst (n:=61) (t:=2) (by simp)
  rw [show i.i.toNat = (ρ 2).i.toNat by omega] at ht
  exact ⟨hf1,hCl,hCr,tab_mono ht (Hp.le_trans (by simpa using db2) lb2),hMg,hGg⟩
end Go.Proofs

set_option linter.unusedSimpArgs false
set_option linter.unusedVariables false
set_option maxRecDepth 100000
namespace Go.Proofs
open Go Go.Eng

@[simp] def o_rebuild71_1:Sg:=sg 0 [bg 13 20,bv 12 17,bv 11 21,bv 6 2,bv 5 19,bv 1 18,bv 10 25,bv 9 24,bv 8 23,bg 7 15,bv 4 2,bv 3 2,bg 2 14,bg 0 0]
def o_rebuild71:Out:=(.fresh 11 (.br (.and (.cmp .eql (.dlen (.var 1)) (.lit 0)) (.isnil 0))
 (.ret 0 (sg 11 [bv 12 1,bt 11 (.lit 1)]))
 (.pre 0 (sg 0 [bv 1 3,bv 0 2]) (.both (.fresh 12 (.post 0 0 (sg 0 [bv 1 3,bv 0 2]) 12 (.br (.not (.var 12))
 (.ret 0 (sg 11 [bv 12 1,bt 11 (.lit 2)]))
 (.br (.cmp .lss (.var 7) (.lit 0))
 (.ret 0 (sg 11 [bv 12 1,bt 11 (.lit 2)]))
 (.br (.cmp .geq (.var 7) (.var 3))
 (.ret 0 (sg 11 [bv 12 1,bt 11 (.lit 2)]))
 (.pre 1 (sg 0 [bg 8 10,bv 7 9,bv 6 8,bv 5 6,bv 4 5,bg 3 4,bt 2 (.lit (-1)),bv 1 3,bv 0 2]) (.both (.fresh 13 (.post 1 0 (sg 0 [bg 8 10,bv 7 9,bv 6 8,bv 5 6,bv 4 5,bg 3 4,bt 2 (.lit (-1)),bv 1 3,bv 0 2]) 13 (.br (.cmp .neq (.var 13) (.lit 0))
 (.ret 0 (sg 11 [bv 12 1,bv 11 13]))
 (.pre 2 (sg 0 [bg 9 10,bv 8 9,bv 7 8,bv 1 1,bv 6 6,bv 5 5,bg 4 4,bv 3 3,bv 2 2,bg 0 0]) (.both (.fresh 14 (.fresh 15 (.fresh 16 (.fresh 17 (.fresh 18 (.fresh 19 (.fresh 20 (.fresh 21 (.post 2 0 (sg 0 [bg 9 10,bv 8 9,bv 7 8,bv 1 1,bv 6 6,bv 5 5,bg 4 4,bv 3 3,bv 2 2,bg 0 0]) 14 (.fresh 22 (.pre 3 (sg 0 [bv 6 17,bv 5 21,bv 7 7,bv 4 17,bv 3 16,bg 2 15,bv 1 2,bv 0 3]) (.both (.fresh 23 (.fresh 24 (.fresh 25 (.post 3 0 (sg 0 [bv 6 17,bv 5 21,bv 7 7,bv 4 17,bv 3 16,bg 2 15,bv 1 2,bv 0 3]) 23 (.pre 4 o_rebuild71_1 (.both (.fresh 26 (.fresh 27 (.fresh 28 (.fresh 29 (.fresh 30 (.post 4 0 o_rebuild71_1 26 (.ret 1 (sg 11 [bv 15 30,bv 14 29,bv 13 28,bv 12 27,bg 11 26])))))))) .top)))))) .top)))))))))))) .top))))) .top))))))) .top))))
theorem o_rebuild71_eq:treeOf ⟨Tryd.prog,rebuild71C,[sizes74C,check88C,solve89C,row75C,combine91C],[]⟩ 100000 Tryd.f100 = o_rebuild71:=by kernel_rfl
theorem rebuild71_of (hd:∀ c ∈ ([sizes74C,check88C,solve89C,row75C,combine91C]:List Ctr),c.ok Tryd.prog) (h:∀ ρ:Env,ρ.good→(rebuild71C).pre ρ→o_rebuild71.den ⟨Tryd.prog,rebuild71C,[sizes74C,check88C,solve89C,row75C,combine91C],[]⟩ ρ):(rebuild71C).ok Tryd.prog :=
 ok_of_tree Tryd.func100 (fun a w=>Tryd.call100 a w) hd 100000 (fun ρ hg hp=>by rw [o_rebuild71_eq]; exact h ρ hg hp)
end Go.Proofs

set_option linter.unusedSimpArgs false
set_option linter.unusedVariables false
namespace Go.Proofs
open Go Go.Eng
set_option maxRecDepth 100000
theorem field_some {d:Rows'} (h:fieldD d):d ≠ []:=(fieldD_ne h).1
structure PcIn (h:Hp) (D:Rows') (k total n:Int):Prop where
 k1:1 ≤ k
 k2:k ≤ total
 k3:total ≤ 255
 kn:k ≤ n
 sol:solPre h D k total n
 idx:∀ j,j < n.toNat→0 ≤ pcI D j∧pcI D j < total
 len:∀ j,j < n.toNat→pcN h D j = pcN h D 0
 fs:∀ j,j < n.toNat→(pcD h D j).length = pcN h D 0∧bytesL (pcD h D j)
theorem pcIn {h:Hp} {D:Rows'} {k total n:Int} (hs:sizesB k total = true) (hp:pcPre h D n) (hc:chkH h D k total (-1) n 0):PcIn h D k total n:=by
 obtain ⟨k1,k2,k3⟩:=sizesB_iff.1 hs
 obtain ⟨n0,n1,hpc⟩:=hp
 obtain ⟨ho,hk⟩:=chk_ok hc
 have hw:wantL (-1) (pcN h D) = (pcN h D 0:Int):=if_pos (by omega)
 have hL:∀ j,j < n.toNat→pcN h D j = pcN h D 0:=fun j hj=>by
  have:=(ho j hj).2.2.2
  rw [hw] at this; omega
 exact ⟨k1,k2,k3,by omega,⟨hs,by omega,n1,hpc,choose_of_ok ho (by omega),(ho 0 (by omega)).2.2.1 (by omega),fun j hj=>hL j (by omega)⟩,fun j hj=>(ho j hj).1,hL,fun j hj=>by
  obtain ⟨v,d,_,_,_,hB,hd⟩:=pc_at hpc hj
  exact ⟨hL j hj,by rw [hd]; exact allB_list hB⟩⟩
variable {h:Hp} {D:Rows'} {k total n:Int}
theorem PcIn.f (p:PcIn h D k total n):∀ j,j < k.toNat→(pcD h D j).length = pcN h D 0∧bytesL (pcD h D j):=fun j hj=>p.fs j (by have:=p.kn; omega)
theorem PcIn.cols (p:PcIn h D k total n) {hc:Hp} {C:Rows'} (ht:tabV hc (tvs C) k.toNat (solM h D total.toNat k.toNat)) :
  (∀ j,j < k.toNat→rdB hc (tvs C j)∧(colF hc C j).length = (colF hc C 0).length)∧(colF hc C 0).length = pcN h D 0∧∀ r:Int,0 ≤ r→r < total→mixN (colF hc C) (seg (genL k.toNat total.toNat) (r.toNat * k.toNat) k.toNat) (colF hc C 0).length k.toNat = valLr h D k.toNat r:=by
 have h1:=p.k1
 have h2:=p.k2
 have h3:=p.k3
 have hch:=p.sol.2.2.2.2.1
 have hcol:∀ j,j < k.toNat→rdB hc (tvs C j)∧colF hc C j = solM h D total.toNat k.toNat j:=fun j hj=>by
  obtain ⟨d,hr,hd,hB⟩:=tab_at ht hj
  exact ⟨⟨d,hr,hB⟩,by rw [colF,rdL_eq hr,hd]⟩
 have hl:∀ j,j < k.toNat→(colF hc C j).length = pcN h D 0:=fun j hj=>by
  rw [(hcol j hj).2,solM,mixN_len]
 refine ⟨fun j hj=>⟨(hcol j hj).1,by rw [hl j hj,hl 0 (by omega)]⟩,hl 0 (by omega),fun r r0 r1=>?_⟩
 rw [hl 0 (by omega),comb_val hch (by omega) (by omega) (by omega) (f:=pcD h D) p.f (by omega) (r:=r.toNat) (fun i hi=>by
  rw [(hcol i hi).2,solM,col_val hch (by omega) (by omega) (by omega) p.f hi]),Int.toNat_of_nonneg r0]
 rfl
theorem PcIn.value (p:PcIn h D k total n):(∀ j:Nat,(j:Int) < k→0 ≤ pcI D j∧pcI D j < 256)∧(idxL D k.toNat).Nodup∧pcN h D 0 ≤ 9000∧(∀ j:Nat,(j:Int) < k→pcN h D j = pcN h D 0)∧pcOk h D k.toNat:=by
 have h1:=p.k1
 have h2:=p.k2
 have h3:=p.k3
 have h4:=p.kn
 have h5:=p.sol.2.2.2.2.2.1
 refine ⟨fun j hj=>?_,p.sol.2.2.2.2.1.2.1,by omega,fun j hj=>p.len j (by omega),fun j hj=>p.sol.2.2.2.1 j (by omega)⟩
 have:=p.idx j (by omega)
 omega
set_option maxHeartbeats 1000000 in
theorem rebuild71_ok:rebuild71C.ok Tryd.prog:=rebuild71_of (by simp [sizes74_ok,check88_ok,solve89_ok,row75_ok,combine91_ok]) fun ρ hg hp=>by
 obtain ⟨hf,hpre⟩:=hp
 have hpre':=hpre
 obtain ⟨n0,n1,hpc⟩:=hpre'
 simp (config:={ maxSteps:=4000000 }) [o_rebuild71,rebuild71C,sizes74C,check88C,chkOf,solve89C,genW,row75C,combine91C]
 refine ⟨fun h=>(field_some hf h).elim,fun _ b _ hb=>⟨fun h=>⟨hf,.inl ⟨.inl (by rw [← hb,h]),rfl⟩⟩,fun h=>⟨fun hi=>⟨hf,.inl ⟨.inr (.inl hi),rfl⟩⟩,fun i0=>⟨fun hi=>⟨hf,.inl ⟨.inr (.inr hi),rfl⟩⟩,fun i1=>?_⟩⟩⟩⟩
 have hs:sizesB (ρ 2).i (ρ 3).i = true:=by rw [← hb,h]
 obtain ⟨k1,k2,k3⟩:=sizesB_iff.1 hs
 refine ⟨⟨k3,n0,n1,hpc⟩,fun e _ he=>⟨fun hne=>⟨hf,.inr ⟨hs,i0,i1,he,hne⟩⟩,fun he0=>?_⟩⟩
 rw [he0] at he
 have P:PcIn (ρ 10).h (ρ 8).d (ρ 2).i (ρ 3).i (ρ 5).i:=pcIn hs hpre he
 refine ⟨⟨hf,P.sol⟩,fun lg _ cg _ f1 _ C _ H _ dg _ hf1 hCl hCr ht hMg hGg=>⟨⟨i0,i1,hMg.1⟩,fun o _ m _ c _ ho hm hc=>?_⟩⟩
 obtain ⟨c1,c2,c3⟩:=P.cols ht
 obtain ⟨⟨g1,g2,g3,g4,g5,g6,g7,g8⟩,g9⟩:=hMg
 have hbo:=mul_bound (x:=(ρ 7).i) (y:=(ρ 2).i) (a:=255) i0 (by omega) (by omega) (show (ρ 2).i ≤ 255 by omega)
 have hrow:=Int.mul_le_mul_of_nonneg_right (show (ρ 7).i + 1 ≤ (ρ 3).i by omega) (show 0 ≤ (ρ 2).i by omega)
 rw [Int.add_mul,Int.one_mul] at hrow
 have h8:=P.sol.2.2.2.2.2.1
 refine ⟨⟨hf1,k1,by omega,by omega,hCr,hm,by omega,by omega,g8,fun j hj=>c1 j (by omega),by omega⟩,fun n _ f2 _ d _ hf2 hn hl hB hd=>⟨hf2,⟨hs,i0,i1,he⟩,hn,by omega,hB,?_⟩⟩
 rw [hd,hGg,ho,Int.toNat_mul i0 (by omega),c3 _ i0 i1]
end Go.Proofs

set_option linter.unusedSimpArgs false
set_option linter.unusedVariables false
namespace Go.Proofs
open Go Go.Eng
set_option maxRecDepth 100000
variable {h h':Hp} {D D':Rows'} {k total n index len e e':Int} {b b':Bool}
end Go.Proofs

set_option linter.unusedSimpArgs false
set_option linter.unusedVariables false
namespace Go.Proofs
open Go Go.Eng
theorem catN_len {f:Nat→List Int} {l:Nat}:∀ {n:Nat},(∀ j,j < n→(f j).length = l)→(catN f n).length = n * l
 | 0,_=>by simp [catN]
 | n + 1,h=>by
  rw [catN,List.length_append,catN_len fun j hj=>h j (by omega),h n (by omega),Nat.add_mul,Nat.one_mul]
theorem catN_le {f:Nat→List Int} {l:Nat}:∀ {n:Nat},(∀ j,j < n→(f j).length ≤ l)→(catN f n).length ≤ n * l
 | 0,_=>by simp [catN]
 | n + 1,h=>by
  have h1:=catN_le (n:=n) fun j hj=>h j (by omega)
  have h2:=h n (by omega)
  rw [catN,List.length_append,Nat.add_mul,Nat.one_mul]; omega
theorem catN_congr {f g:Nat→List Int}:∀ {n:Nat},(∀ j,j < n→f j = g j)→catN f n = catN g n
 | 0,_=>rfl
 | n + 1,h=>by rw [catN,catN,catN_congr fun j hj=>h j (by omega),h n (by omega)]
theorem pcInD {h:Hp} {D:Rows'} {k total n size:Int} (hp:pcPre h D n) (hd:decK h D k total size n):PcIn h D k total n∧pcN h D 0 = pieceLen k.toNat size.toNat:=by
 obtain ⟨hs,s0,s1,hc⟩:=hd
 obtain ⟨k1,k2,k3⟩:=sizesB_iff.1 hs
 obtain ⟨n0,n1,hpc⟩:=hp
 obtain ⟨ho,hk⟩:=chk_ok hc
 have hw:wantL (plI k size) (pcN h D) = plI k size:=if_neg (by unfold plI; omega)
 have hL:∀ j,j < n.toNat→pcN h D j = pieceLen k.toNat size.toNat:=fun j hj=>by
  have:=(ho j hj).2.2.2
  rw [hw] at this; unfold plI at this; omega
 have hpl:=pieceLen_le (k:=k.toNat) (n:=size.toNat) (by omega)
 have h0:=hL 0 (by omega)
 refine ⟨⟨k1,k2,k3,by omega,⟨hs,by omega,n1,hpc,choose_of_ok ho (by omega),by omega,fun j hj=>by rw [hL j (by omega),h0]⟩,fun j hj=>(ho j hj).1,fun j hj=>by rw [hL j hj,h0],fun j hj=>?_⟩,h0⟩
 obtain ⟨v,d,_,_,_,hB,hd⟩:=pc_at hpc hj
 exact ⟨by rw [h0,← hL j hj]; rfl,by rw [hd]; exact allB_list hB⟩
theorem val_len {h:Hp} {D:Rows'} {k:Nat} {x:Int}:(valLr h D k x).length = pcN h D 0:=mixN_len _
theorem PcIn.cat {h:Hp} {D:Rows'} {k total n:Int} (p:PcIn h D k total n) {hc:Hp} {C:Rows'} (ht:tabV hc (tvs C) k.toNat (solM h D total.toNat k.toNat)) :
  (∀ j,j < k.toNat→rdB hc (tvs C j)∧(colF hc C j).length = pcN h D 0)∧catN (colF hc C) k.toNat = decL h D k.toNat∧(decL h D k.toNat).length = k.toNat * pcN h D 0:=by
 have h1:=p.k1
 have h2:=p.k2
 have h3:=p.k3
 have hch:=p.sol.2.2.2.2.1
 have hcol:∀ j,j < k.toNat→rdB hc (tvs C j)∧colF hc C j = valLr h D k.toNat (j:Int):=fun j hj=>by
  obtain ⟨d,hr,hd,hB⟩:=tab_at ht hj
  refine ⟨⟨d,hr,hB⟩,?_⟩
  rw [colF,rdL_eq hr,hd,solM,col_val hch (by omega) (by omega) (by omega) p.f hj]
  rfl
 refine ⟨fun j hj=>⟨(hcol j hj).1,by rw [(hcol j hj).2,val_len]⟩,catN_congr fun j hj=>(hcol j hj).2,catN_len fun j hj=>val_len⟩
end Go.Proofs

set_option linter.unusedSimpArgs false
set_option linter.unusedVariables false
namespace Go.Proofs
open Go Go.Eng
theorem chkE_zero {k n t s l i:Int} {D:List (List Int)} {m:List Int} (h:chkE k n t s l D i m = 0):manOk k n t s l = true∧0 ≤ i∧i < t∧(m.length:Int) = plenI k s∧sha (pieceIn i ++ m) = D.getD i.toNat []:=by
 unfold chkE at h
 by_cases h1:manOk k n t s l = false
 ·rw [if_pos h1] at h; omega
 rw [if_neg h1] at h
 by_cases h2:i < 0∨t ≤ i
 ·rw [if_pos h2] at h; omega
 rw [if_neg h2] at h
 by_cases h3:(m.length:Int) ≠ plenI k s
 ·rw [if_pos h3] at h; omega
 rw [if_neg h3] at h
 by_cases h4:sha (pieceIn i ++ m) ≠ D.getD i.toNat []
 ·rw [if_pos h4] at h; omega
 exact ⟨by simpa using h1,by omega,by omega,by omega,by simpa using h4⟩
theorem manOk_iff {k n t s l:Int}:manOk k n t s l = true↔1 ≤ k∧k ≤ n∧n ≤ t∧t ≤ 255∧0 ≤ s∧s ≤ 8192∧l = t:=by
 simp [manOk,sizes3,and_assoc]
theorem plenI_eq {k s:Int} (hk:1 ≤ k) (hs:0 ≤ s):plenI k s = plI k s:=by
 obtain ⟨k,rfl⟩:=Int.eq_ofNat_of_zero_le (show 0 ≤ k by omega)
 obtain ⟨s,rfl⟩:=Int.eq_ofNat_of_zero_le hs
 have e:((s:Int) + (k:Int) - 1) = ((s + k - 1:Nat):Int):=by omega
 unfold plenI plI pieceLen
 rw [e,Int.ofNat_tdiv]
 simp
theorem chks_order {k n t s l:Int} {D:List (List Int)} {h:Hp} {P:Rows'} (hc:chksP (chkF k n t s l D h P) (pcI P) P.length k 0) (hm:manOk k n t s l = true) (len:Int) (hl:len = -1∨len = plI k s) :
  okTo t len (pcI P) (pcN h P) P.length∧k ≤ (P.length:Int)∧∀ j,j < P.length→(pcN h P j:Int) = plI k s:=by
 obtain ⟨k1,k2,k3,k4,s0,s1,_⟩:=manOk_iff.1 hm
 obtain ⟨h1,h2⟩:=chks_zero hc
 have hp:plenI k s = plI k s:=plenI_eq (by omega) s0
 have hL:∀ j,j < P.length→(pcN h P j:Int) = plI k s:=fun j hj=>by
  rw [← hp]; exact (chkE_zero (h1 j hj).1).2.2.2.1
 have hs:plI k s ≤ 8192:=by
  have:=pieceLen_le (k:=k.toNat) (n:=s.toNat) (by omega)
  unfold plI; omega
 have hpos:0 ≤ plI k s:=by unfold plI; omega
 have h0:=hL 0 (by omega)
 have hw:wantL len (pcN h P) = plI k s:=by
  unfold wantL
  by_cases hn:len < 0
  ·rw [if_pos hn,h0]
  ·rw [if_neg hn]; omega
 refine ⟨fun j hj=>⟨⟨(chkE_zero (h1 j hj).1).2.1,(chkE_zero (h1 j hj).1).2.2.1⟩,(h1 j hj).2,fun _=>by have:=hL j hj; omega,by rw [hw,hL j hj]⟩,h2,hL⟩
theorem sizesB_of {k n t s l:Int} (hm:manOk k n t s l = true):sizesB k t = true:=by
 obtain ⟨k1,k2,k3,k4,s0,s1,_⟩:=manOk_iff.1 hm
 exact sizesB_iff.2 ⟨k1,by omega,k4⟩
theorem chks_reb {k n t s l x m:Int} {D:List (List Int)} {h:Hp} {P:Rows'} (hc:chksP (chkF k n t s l D h P) (pcI P) P.length k 0) (hm:manOk k n t s l = true) (hn:m = P.length) (h0:0 ≤ x) (h1:x < t):rebK h P k t m x:=by
 subst hn
 obtain ⟨a,b,_⟩:=chks_order hc hm (-1) (.inl rfl)
 exact ⟨sizesB_of hm,h0,h1,.inr ⟨a,.inr ⟨by simpa using b,rfl⟩⟩⟩
theorem chks_dec {k n t s l m:Int} {D:List (List Int)} {h:Hp} {P:Rows'} (hc:chksP (chkF k n t s l D h P) (pcI P) P.length k 0) (hm:manOk k n t s l = true) (hn:m = P.length):decK h P k t s m:=by
 subst hn
 obtain ⟨a,b,_⟩:=chks_order hc hm (plI k s) (.inr rfl)
 obtain ⟨k1,k2,k3,k4,s0,s1,_⟩:=manOk_iff.1 hm
 exact ⟨sizesB_of hm,s0,s1,.inr ⟨a,.inr ⟨by simpa using b,rfl⟩⟩⟩
theorem reb_bad {h:Hp} {D:Rows'} {k t n x e:Int} (a:rebK h D k t n x) (b:rebE h D k t n x e):False:=by
 obtain ⟨a1,a2,a3,a4⟩:=a
 rcases b with ⟨b1,_⟩ | ⟨_,_,_,b4,b5⟩
 ·rcases b1 with b1 | b1 | b1
  ·rw [a1] at b1; cases b1
  ·omega
  ·omega
 ·exact b5 (chk_eq b4 a4)
theorem dec_bad {h:Hp} {D:Rows'} {k t s n e:Int} (a:decK h D k t s n) (b:decEr h D k t s n e):False:=by
 obtain ⟨a1,a2,a3,a4⟩:=a
 rcases b with ⟨b1,_⟩ | ⟨_,_,_,b4,b5⟩
 ·rcases b1 with b1 | b1 | b1
  ·rw [a1] at b1; cases b1
  ·omega
  ·omega
 ·exact b5 (chk_eq b4 a4)
end Go.Proofs

set_option linter.unusedSimpArgs false
set_option linter.unusedVariables false
set_option maxRecDepth 100000
namespace Go.Proofs
open Go Go.Eng

@[simp] def o_chks_1:Sg:=sg 0 [bv 17 17,bv 15 27,bv 14 28,bv 9 9,bv 8 8,bv 13 27,bt 12 (.dlen (.var 28)),bg 11 26,bt 10 (.icell (.var 13) (.var 24) 0),bv 7 7,bv 6 6,bg 5 5,bv 3 3,bv 2 2,bv 1 1,bv 0 0,bt 4 (r8 4),bg 16 16]
def o_chks:Out:=(.fresh 18 (.mop .new 19 (.need (.cmp .leq (.lit 0) (.var 11)) (.inv 0 21 (sg 1000 [bg 1000 19,bt 1003 (.lit 0),bv 1001 20,bg 1002 18]) (.fresh 21 (.fresh 22 (.fresh 23 (.fresh 24 (.hyp 0 21 (.br (.cmp .lss (.var 24) (.var 11))
 (.need (.cmp .leq (.lit 0) (.var 24)) (.need (.cmp .lss (.var 24) (.dlen (.var 13))) (.fresh 25 (.viewL (.vcell (.var 13) (.var 24) 1) [CK.int .u8] [15] 26 (.pre 0 o_chks_1 (.both (.fresh 29 (.post 0 0 o_chks_1 29 (.br (.cmp .neq (.var 29) (.lit 0))
 (.ret 0 (sg 18 [bv 18 29]))
 (.mop (.get (.var 22) [(.icell (.var 13) (.var 24) 0)] ⟨false,[.i64],false,[CK.bool],[(.vbool (.bl false))]⟩ [21]) 30 (.br (.c2 (.xbool 0) (.var 30) (.lit 0))
 (.ret 0 (sg 18 [bt 18 (.lit 7)]))
 (.mop (.put 21 (.var 22) [(.icell (.var 13) (.var 24) 0)] [(.vbool (.bl true))] ⟨false,[.i64],false,[CK.bool],[(.vbool (.bl false))]⟩) 31 (.back 0 21 (sg 1000 [bg 1000 31,bt 1003 (.arith .add .i64 (.var 24) (.lit 1)),bv 1001 22,bg 1002 23])) .top)) .top)))) .top))))))
 (.br (.cmp .lss (.var 11) (.var 0))
 (.ret 0 (sg 18 [bt 18 (.lit 12)]))
 (.ret 0 (sg 18 [bt 18 (.lit 0)]))))))))))) .top))
theorem o_chks_eq:treeOf ⟨Tryd.prog,chksC,[checkPC],[chksI]⟩ 100000 Tryd.f99 = o_chks:=by kernel_rfl
theorem chks_of (hd:∀ c ∈ ([checkPC]:List Ctr),c.ok Tryd.prog) (h:∀ ρ:Env,ρ.good→(chksC).pre ρ→o_chks.den ⟨Tryd.prog,chksC,[checkPC],[chksI]⟩ ρ):(chksC).ok Tryd.prog :=
 ok_of_tree Tryd.func99 (fun a w=>Tryd.call99 a w) hd 100000 (fun ρ hg hp=>by rw [o_chks_eq]; exact h ρ hg hp)
@[simp] def o_asm_4:Sg:=sg 0 [bg 10 17,bv 9 16,bv 8 15,bv 1 1,bv 7 14,bv 6 13,bg 5 12,bv 4 5,bv 3 4,bv 2 2,bg 0 0]
@[simp] def o_asm_3:Sg:=sg 0 [bv 7 19,bt 5 (.lit 0),bt 4 .dnil,bt 3 (.lit 0),bt 2 (.lit 0),bt 1 (.lit 0),(0,.nil),bg 6 18]
@[simp] def o_asm_2:Out:=.ret 0 (sg 20 [bt 22 (.lit 0),bt 23 .dnil,bv 25 24,bt 24 (.lit 20),bt 26 (.lit 0),bt 21 (.lit 0),(20,.nil)])
@[simp] def o_asm_1:Sg:=sg 0 [bv 17 19,bg 15 17,bv 14 16,bv 13 15,bv 9 11,bv 8 10,bv 12 14,bv 11 13,bg 10 12,bv 7 9,bv 6 8,bg 5 7,bv 3 5,bv 2 4,bv 1 3,bv 0 2,bt 4 (r8 6),bg 16 18]
def o_asm:Out:=(.fresh 20 (.br (.and (.cmp .eql (.dlen (.var 1)) (.lit 0)) (.isnil 0))
 (.ret 0 (sg 20 [bt 22 (.lit 0),bt 23 .dnil,bv 25 1,bt 24 (.lit 1),bt 26 (.lit 0),bt 21 (.lit 0),(20,.nil)]))
 (.pre 0 (sg 0 [bv 9 11,bv 8 10,bv 7 9,bv 6 8,bg 5 7,bv 3 5,bv 2 4,bv 1 3,bv 0 2,bt 4 (r8 6)]) (.both (.fresh 21 (.post 0 0 (sg 0 [bv 9 11,bv 8 10,bv 7 9,bv 6 8,bg 5 7,bv 3 5,bv 2 4,bv 1 3,bv 0 2,bt 4 (r8 6)]) 21 (.br (.cmp .neq (.var 21) (.lit 0))
 (.ret 0 (sg 20 [bt 22 (.lit 0),bt 23 .dnil,bv 25 1,bv 24 21,bt 26 (.lit 0),bt 21 (.lit 0),(20,.nil)]))
 (.pre 1 o_asm_1 (.both (.fresh 22 (.post 1 0 o_asm_1 22 (.br (.cmp .neq (.var 22) (.lit 0))
 (.ret 0 (sg 20 [bt 22 (.lit 0),bt 23 .dnil,bv 25 1,bv 24 22,bt 26 (.lit 0),bt 21 (.lit 0),(20,.nil)]))
 (.pre 2 o_asm_4 (.both (.fresh 23 (.fresh 24 (.post 2 0 o_asm_4 23 (.br (.cmp .neq (.var 23) (.lit 0))
 (.ret 0 (sg 20 [bt 22 (.lit 0),bt 23 .dnil,bv 25 24,bv 24 23,bt 26 (.lit 0),bt 21 (.lit 0),(20,.nil)]))
 (.both (.pre 3 o_asm_3 (.both (.fresh 25 (.post 3 0 o_asm_3 25 (.br (.not (.c2 .req (r8 25) (r8 6)))
 o_asm_2
 (.ret 0 (sg 20 [bt 22 (.lit 0),bt 23 .dnil,bv 25 24,bt 24 (.lit 0),bt 26 (.lit 0),bt 21 (.lit 0),(20,.nil)]))))) .top)) .top))))) (.both (.fresh 23 (.fresh 24 (.fresh 25 (.fresh 26 (.post 2 1 o_asm_4 23 (.both (.know (.cmp .leq (.dlen (.var 25)) (.var 26)) (.pre 3 (sg 0 [bv 7 19,bv 5 26,bv 4 25,bv 3 5,bv 2 5,bt 1 (.lit 0),bg 0 23,bg 6 18]) (.both (.fresh 27 (.post 3 0 (sg 0 [bv 7 19,bv 5 26,bv 4 25,bv 3 5,bv 2 5,bt 1 (.lit 0),bg 0 23,bg 6 18]) 27 (.br (.not (.c2 .req (r8 27) (r8 6)))
 o_asm_2
 (.ret 0 (sg 20 [bv 22 26,bv 23 25,bv 25 24,bt 24 (.lit 0),bv 26 5,bv 21 5,bg 20 23]))))) .top))) .top)))))) .top)))))) .top))))) .top))))
theorem o_asm_eq:treeOf ⟨Tryd.prog,asmC,[checkMC,chksC,decode69C,sha256C],[]⟩ 100000 Tryd.f70 = o_asm:=by kernel_rfl
theorem asm_of (hd:∀ c ∈ ([checkMC,chksC,decode69C,sha256C]:List Ctr),c.ok Tryd.prog) (h:∀ ρ:Env,ρ.good→(asmC).pre ρ→o_asm.den ⟨Tryd.prog,asmC,[checkMC,chksC,decode69C,sha256C],[]⟩ ρ):(asmC).ok Tryd.prog :=
 ok_of_tree Tryd.func70 (fun a w=>Tryd.call70 a w) hd 100000 (fun ρ hg hp=>by rw [o_asm_eq]; exact h ρ hg hp)
@[simp] def o_reg_5:Sg:=sg 0 [bg 10 17,bv 9 16,bv 8 15,bv 1 1,bv 7 20,bv 6 14,bv 5 13,bg 4 12,bv 3 4,bv 2 2,bg 0 0]
@[simp] def o_reg_4:Out:=.ret 0 (sg 21 [bt 25 .dnil,bv 27 1,bt 26 (.lit 2),bt 24 (.lit 0),bt 23 (.lit 0),(22,.nil),bt 21 (.lit 0)])
@[simp] def o_reg_3:Sg:=sg 0 [bv 8 19,bt 6 (.lit 0),bt 5 .dnil,bt 4 (.lit 0),bt 3 (.lit 0),bt 2 (.lit 0),(1,.nil),bv 0 20,bg 7 18]
@[simp] def o_reg_2:Sg:=sg 0 [bv 17 19,bg 15 17,bv 14 16,bv 13 15,bv 9 11,bv 8 10,bv 12 14,bv 11 13,bg 10 12,bv 7 9,bv 6 8,bg 5 7,bv 3 5,bv 2 4,bv 1 3,bv 0 2,bt 4 (r8 6),bg 16 18]
@[simp] def o_reg_1:T:=.rcons (i8 10 20 0) (.rcons (i8 10 20 1) (.rcons (i8 10 20 2) (.rcons (i8 10 20 3) (.rcons (i8 10 20 4) (.rcons (i8 10 20 5) (.rcons (i8 10 20 6) (.rcons (i8 10 20 7) (.rcons (i8 10 20 8) (.rcons (i8 10 20 9) (.rcons (i8 10 20 10) (.rcons (i8 10 20 11) (.rcons (i8 10 20 12) (.rcons (i8 10 20 13) (.rcons (i8 10 20 14) (.rcons (i8 10 20 15) (.rcons (i8 10 20 16) (.rcons (i8 10 20 17) (.rcons (i8 10 20 18) (.rcons (i8 10 20 19) (.rcons (i8 10 20 20) (.rcons (i8 10 20 21) (.rcons (i8 10 20 22) (.rcons (i8 10 20 23) (.rcons (i8 10 20 24) (.rcons (i8 10 20 25) (.rcons (i8 10 20 26) (.rcons (i8 10 20 27) (.rcons (i8 10 20 28) (.rcons (i8 10 20 29) (.rcons (i8 10 20 30) (.rcons (i8 10 20 31) .rnil)))))))))))))))))))))))))))))))
def o_reg:Out:=(.fresh 21 (.fresh 22 (.br (.and (.cmp .eql (.dlen (.var 1)) (.lit 0)) (.isnil 0))
 (.ret 0 (sg 21 [bt 25 .dnil,bv 27 1,bt 26 (.lit 1),bt 24 (.lit 0),bt 23 (.lit 0),(22,.nil),bt 21 (.lit 0)]))
 (.pre 0 (sg 0 [bv 9 11,bv 8 10,bv 7 9,bv 6 8,bg 5 7,bv 3 5,bv 2 4,bv 1 3,bv 0 2,bt 4 (r8 6)]) (.both (.fresh 23 (.post 0 0 (sg 0 [bv 9 11,bv 8 10,bv 7 9,bv 6 8,bg 5 7,bv 3 5,bv 2 4,bv 1 3,bv 0 2,bt 4 (r8 6)]) 23 (.br (.cmp .neq (.var 23) (.lit 0))
 (.ret 0 (sg 21 [bt 25 .dnil,bv 27 1,bv 26 23,bt 24 (.lit 0),bt 23 (.lit 0),(22,.nil),bt 21 (.lit 0)]))
 (.br (.cmp .lss (.var 20) (.lit 0))
 o_reg_4
 (.br (.cmp .geq (.var 20) (.var 4))
 o_reg_4
 (.pre 1 o_reg_2 (.both (.fresh 24 (.post 1 0 o_reg_2 24 (.br (.cmp .neq (.var 24) (.lit 0))
 (.ret 0 (sg 21 [bt 25 .dnil,bv 27 1,bv 26 24,bt 24 (.lit 0),bt 23 (.lit 0),(22,.nil),bt 21 (.lit 0)]))
 (.pre 2 o_reg_5 (.both (.fresh 25 (.fresh 26 (.post 2 0 o_reg_5 25 (.fresh 27 (.br (.cmp .neq (.var 25) (.lit 0))
 (.ret 0 (sg 21 [bt 25 .dnil,bv 27 26,bv 26 25,bt 24 (.lit 0),bt 23 (.lit 0),(22,.nil),bt 21 (.lit 0)]))
 (.need (.cmp .leq (.lit 0) (.var 20)) (.need (.cmp .lss (.var 20) (.var 8)) (.need (.cmp .lss (.var 20) (.dlen (.var 10))) (.both (.pre 3 o_reg_3 (.both (.fresh 28 (.post 3 0 o_reg_3 28 (.br (.not (.c2 .req (r8 28) o_reg_1))
 (.ret 0 (sg 21 [bt 25 .dnil,bv 27 26,bt 26 (.lit 20),bt 24 (.lit 0),bt 23 (.lit 0),(22,.nil),bt 21 (.lit 0)]))
 (.ret 0 (sg 21 [bt 25 .dnil,bv 27 26,bt 26 (.lit 0),bt 24 (.lit 0),bt 23 (.lit 0),(22,.nil),bt 21 (.lit 0)]))))) .top)) .top))))))))) (.both (.fresh 25 (.fresh 26 (.fresh 27 (.fresh 28 (.fresh 29 (.post 2 1 o_reg_5 25 (.fresh 30 (.need (.cmp .leq (.lit 0) (.var 20)) (.need (.cmp .lss (.var 20) (.var 8)) (.need (.cmp .lss (.var 20) (.dlen (.var 10))) (.both (.know (.cmp .leq (.dlen (.var 29)) (.var 27)) (.pre 3 (sg 0 [bv 8 19,bv 6 27,bv 5 29,bv 4 27,bv 3 26,bt 2 (.lit 0),bg 1 25,bv 0 20,bg 7 18]) (.both (.fresh 31 (.post 3 0 (sg 0 [bv 8 19,bv 6 27,bv 5 29,bv 4 27,bv 3 26,bt 2 (.lit 0),bg 1 25,bv 0 20,bg 7 18]) 31 (.br (.not (.c2 .req (r8 31) o_reg_1))
 (.ret 0 (sg 21 [bt 25 .dnil,bv 27 28,bt 26 (.lit 20),bt 24 (.lit 0),bt 23 (.lit 0),(22,.nil),bt 21 (.lit 0)]))
 (.ret 0 (sg 21 [bv 25 29,bv 27 28,bt 26 (.lit 0),bv 24 27,bv 23 26,bg 22 25,bv 21 20]))))) .top))) .top))))))))))) .top)))))) .top))))))) .top)))))
theorem o_reg_eq:treeOf ⟨Tryd.prog,regC,[checkMC,chksC,rebuild71C,pieceDgC],[]⟩ 100000 Tryd.f67 = o_reg:=by kernel_rfl
theorem reg_of (hd:∀ c ∈ ([checkMC,chksC,rebuild71C,pieceDgC]:List Ctr),c.ok Tryd.prog) (h:∀ ρ:Env,ρ.good→(regC).pre ρ→o_reg.den ⟨Tryd.prog,regC,[checkMC,chksC,rebuild71C,pieceDgC],[]⟩ ρ):(regC).ok Tryd.prog :=
 ok_of_tree Tryd.func67 (fun a w=>Tryd.call67 a w) hd 100000 (fun ρ hg hp=>by rw [o_reg_eq]; exact h ρ hg hp)
end Go.Proofs

set_option linter.unusedSimpArgs false
set_option linter.unusedVariables false
set_option maxRecDepth 100000
namespace Go.Proofs
open Go Go.Eng

def o_grow98:Out:=(.br (.cmp .lss (.var 0) (.lit 0))
 (.stuck 15 0 0)
 (.br (.cmp .gtr (.arith .sub .i64 (.var 0) (.lit 0)) (.lit 0))
 (.need (.cmp .leq (.lit 0) (.arith .sub .i64 (.var 0) (.lit 0))) (.need (.cmp .leq (.tims (.lit 1) (.arith .sub .i64 (.var 0) (.lit 0))) (.lit 140737488355328)) (.fresh 1 (.fresh 2 (.know (.cmp .leq (.dlen (.drep (.arith .sub .i64 (.var 0) (.lit 0)) (.rcons (.vint .u8 (.lit 0)) .rnil))) (.var 2)) (.need (.cmp .leq (.lit 0) (.var 2)) (.ret 0 (sg 1 [bt 2 (.drep (.arith .sub .i64 (.var 0) (.lit 0)) (.rcons (.vint .u8 (.lit 0)) .rnil)),bv 3 2,bg 1 1]))))))))
 (.ret 0 (sg 1 [bt 2 .dnil,bt 3 (.lit 0),(1,.nil)]))))
theorem o_grow98_eq:treeOf ⟨Tryd.prog,grow98C,[],[]⟩ 100000 Tryd.f135 = o_grow98:=by kernel_rfl
theorem grow98_of (hd:∀ c ∈ ([]:List Ctr),c.ok Tryd.prog) (h:∀ ρ:Env,ρ.good→(grow98C).pre ρ→o_grow98.den ⟨Tryd.prog,grow98C,[],[]⟩ ρ):(grow98C).ok Tryd.prog :=
 ok_of_tree Tryd.func135 (fun a w=>Tryd.call135 a w) hd 100000 (fun ρ hg hp=>by rw [o_grow98_eq]; exact h ρ hg hp)
def o_concat92:Out:=(.need (.cmp .leq (.lit 0) (.var 1)) (.inv 0 6 (sg 1000 [bt 1000 (.lit 0),bt 1001 (.lit 0)]) (.fresh 6 (.fresh 7 (.hyp 0 6 (.br (.cmp .lss (.var 6) (.var 1))
 (.need (.cmp .leq (.lit 0) (.var 6)) (.need (.cmp .lss (.var 6) (.dlen (.var 3))) (.view (.vcell (.var 3) (.var 6) 0) [CK.int .u8] [5] 8 (.br (.cmp .lss (.arith .add .i64 (.var 7) (.dlen (.var 10))) (.lit 0))
 (.stuck 15 0 0)
 (.back 0 6 (sg 1000 [bt 1000 (.arith .add .i64 (.var 6) (.lit 1)),bt 1001 (.arith .add .i64 (.var 7) (.dlen (.var 10)))]))))))
 (.pre 0 (sg 0 [bv 0 7]) (.both (.fresh 8 (.fresh 9 (.fresh 10 (.post 0 0 (sg 0 [bv 0 7]) 8 (.inv 1 11 (sg 1000 [bv 1003 9,bt 1004 (.lit 0),bv 1002 10,bt 1001 (.lit 0),bg 1000 8]) (.fresh 11 (.fresh 12 (.fresh 13 (.fresh 14 (.fresh 15 (.hyp 1 11 (.br (.cmp .lss (.var 15) (.var 1))
 (.need (.cmp .leq (.lit 0) (.var 15)) (.need (.cmp .lss (.var 15) (.dlen (.var 3))) (.view (.vcell (.var 3) (.var 15) 0) [CK.int .u8] [5] 16 (.need (.cmp .eql (.var 12) (.dlen (.dtake (.var 14) (.var 12)))) (.need (.cmp .leq (.tims (.lit 1) (.plus (.var 12) (.dlen (.var 18)))) (.lit 140737488355328)) (.fresh 19 (.fresh 20 (.back 1 11 (sg 1000 [bt 1003 (.dapp (.dtake (.var 14) (.var 12)) (.var 18)),bt 1004 (.arith .add .i64 (.var 15) (.lit 1)),bv 1002 20,bt 1001 (.plus (.var 12) (.dlen (.var 18))),bg 1000 19])))))))))
 (.ret 0 (sg 6 [bv 9 14,bv 8 13,bv 7 12,bg 6 11])))))))))))))) .top))))))))
theorem o_concat92_eq:treeOf ⟨Tryd.prog,concat92C,[grow98C],[concat92I,concat92J]⟩ 100000 Tryd.f125 = o_concat92:=by kernel_rfl
theorem concat92_of (hd:∀ c ∈ ([grow98C]:List Ctr),c.ok Tryd.prog) (h:∀ ρ:Env,ρ.good→(concat92C).pre ρ→o_concat92.den ⟨Tryd.prog,concat92C,[grow98C],[concat92I,concat92J]⟩ ρ):(concat92C).ok Tryd.prog :=
 ok_of_tree Tryd.func125 (fun a w=>Tryd.call125 a w) hd 100000 (fun ρ hg hp=>by rw [o_concat92_eq]; exact h ρ hg hp)
def o_decode69:Out:=(.br (.and (.cmp .eql (.dlen (.var 1)) (.lit 0)) (.isnil 0))
 (.ret 0 (sg 11 [bv 12 1,bt 11 (.lit 1)]))
 (.pre 0 (sg 0 [bv 1 3,bv 0 2]) (.both (.fresh 11 (.post 0 0 (sg 0 [bv 1 3,bv 0 2]) 11 (.br (.not (.var 11))
 (.ret 0 (sg 11 [bv 12 1,bt 11 (.lit 2)]))
 (.br (.cmp .lss (.var 4) (.lit 0))
 (.ret 0 (sg 11 [bv 12 1,bt 11 (.lit 2)]))
 (.br (.cmp .gtr (.var 4) (.lit 8192))
 (.ret 0 (sg 11 [bv 12 1,bt 11 (.lit 2)]))
 (.pre 1 (sg 0 [bv 1 4,bv 0 2]) (.both (.fresh 12 (.fresh 13 (.post 1 0 (sg 0 [bv 1 4,bv 0 2]) 12 (.pre 2 (sg 0 [bg 8 10,bv 7 9,bv 6 8,bv 5 7,bv 4 6,bg 3 5,bv 2 12,bv 1 3,bv 0 2]) (.both (.fresh 14 (.post 2 0 (sg 0 [bg 8 10,bv 7 9,bv 6 8,bv 5 7,bv 4 6,bg 3 5,bv 2 12,bv 1 3,bv 0 2]) 14 (.br (.cmp .neq (.var 14) (.lit 0))
 (.ret 0 (sg 11 [bv 12 1,bv 11 14]))
 (.pre 3 (sg 0 [bg 9 10,bv 8 9,bv 7 8,bv 1 1,bv 6 7,bv 5 6,bg 4 5,bv 3 3,bv 2 2,bg 0 0]) (.both (.fresh 15 (.fresh 16 (.fresh 17 (.fresh 18 (.fresh 19 (.fresh 20 (.fresh 21 (.fresh 22 (.post 3 0 (sg 0 [bg 9 10,bv 8 9,bv 7 8,bv 1 1,bv 6 7,bv 5 6,bg 4 5,bv 3 3,bv 2 2,bg 0 0]) 15 (.fresh 23 (.pre 4 (sg 0 [bg 5 21,bv 4 2,bv 3 20,bv 2 2,bv 1 2,bg 0 15]) (.both (.fresh 24 (.fresh 25 (.fresh 26 (.fresh 27 (.post 4 0 (sg 0 [bg 5 21,bv 4 2,bv 3 20,bv 2 2,bv 1 2,bg 0 15]) 24 (.know (.cmp .leq (.dlen (.var 27)) (.var 26)) (.need (.cmp .leq (.lit 0) (.var 25)) (.need (.cmp .leq (.lit 0) (.var 26)) (.need (.cmp .leq (.lit 0) (.var 4)) (.need (.cmp .leq (.var 4) (.var 26)) (.ret 1 (sg 11 [bv 14 26,bv 13 27,bv 12 19,bg 11 24])))))))))))) .top)))))))))))) .top))))) .top))))) .top))))))) .top)))
theorem o_decode69_eq:treeOf ⟨Tryd.prog,decode69C,[sizes74C,piece26C,check88C,solve89C,concat92C],[]⟩ 100000 Tryd.f103 = o_decode69:=by kernel_rfl
theorem decode69_of (hd:∀ c ∈ ([sizes74C,piece26C,check88C,solve89C,concat92C]:List Ctr),c.ok Tryd.prog) (h:∀ ρ:Env,ρ.good→(decode69C).pre ρ→o_decode69.den ⟨Tryd.prog,decode69C,[sizes74C,piece26C,check88C,solve89C,concat92C],[]⟩ ρ):(decode69C).ok Tryd.prog :=
 ok_of_tree Tryd.func103 (fun a w=>Tryd.call103 a w) hd 100000 (fun ρ hg hp=>by rw [o_decode69_eq]; exact h ρ hg hp)
end Go.Proofs
