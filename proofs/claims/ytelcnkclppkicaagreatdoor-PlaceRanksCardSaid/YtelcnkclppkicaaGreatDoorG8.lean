/- Texts WD, CN, CO, YB, ZSq, YC, CP, W4, WC, YD, YE, YG, YK, W5, W6, YM, YR, CQ, CR, YS, W7, YU, YV, YW, CS, W9, V3, VT, VZ, VW, CT, CW, V4, VM, VU, WF, VV, WA, WE, VX, VY, WG, WH, WI, WN, CV, CX, WO, WQ, CY, E13, E14, FD, FE, FF, FG, PA, PB, PC, PD, PE, PF, PG, PH, PI, PJ, PK, PL, PM, PN, PO, PP, PQ, PR, P0, PS, PT, PU. -/
import Derived.Test.YtelcnkclppkicaaGreatDoorG5
import Derived.Test.YtelcnkclppkicaaGreatDoorG4
import Derived.Test.YtelcnkclppkicaaGreatDoorG7
import Derived.Test.YtelcnkclppkicaaGreatDoorProg
import Derived.Test.YtelcnkclppkicaaGreatDoorG6
import Derived.WalkKit
import Derived.ProofKit
import Derived.OpenShut
import Derived.Carry
import Derived.SizedLaws
import Derived.WalkCall
import Derived.Laws.Externs
import Derived.Lib.Bytealg
import Derived.Lib.BytesEntry
set_option linter.unusedSimpArgs false
set_option linter.unusedVariables false
namespace Go.Proofs
open Go Go.Eng
theorem allB_of {d:Rows'} (h:bytesL (bI d)):allB d:=fun row hr=>h (rowI row 0) (List.mem_map.2 ⟨row,hr,rfl⟩)
theorem bytesOf_eq {d:Rows'}:bytesOf d = (bI d).map fun x=>UInt8.ofNat x.toNat:=by
 simp only [bytesOf,bI,List.map_map]
 exact List.map_congr_left fun r hr=>rfl
end Go.Proofs

set_option linter.unusedSimpArgs false
set_option linter.unusedVariables false
namespace Go.Proofs
open Go Go.Eng
set_option maxRecDepth 20000
theorem manHead_len {k n t s:Int} {o:List Int} (h:o.length = 32):(manHead k n t s o).length = 39:=by simp [manHead,beL_len,h]
theorem id_ok:idC.ok Tryz.prog:=id_of (by simp [encMan_ok,sha256_ok]) fun ρ hg hp=>by
 obtain ⟨⟨hl,hO,hD⟩,hGr,hGd⟩:=hp
 simp (config:={ maxSteps:=2000000 }) [o_id,idC,idAlts,encManC,sha256C,manV,manT,cellsT,gOk,manO,manB,bytesIn]
 refine ⟨⟨by omega,hl,hO,hD⟩,fun l _ c _ d _ hok hl2 hB hd=>?_⟩
 have hd:bI d.d = manHead (ρ 0).i (ρ 1).i (ρ 2).i (ρ 3).i (rowL (ρ 4).d 32) ++ (dgs (ρ 8).d).flatten:=hd
 have hb:=hok
 simp [manOk,sizes3] at hb
 have hlen:=congrArg List.length hd
 rw [List.length_append,flat_len dgs_32,dgs_len,bI_len,manHead_len rowL_len] at hlen
 refine fun hc=>⟨⟨⟨by omega,by omega,by omega,by omega,hB⟩,hGr,hGd⟩,fun x _ hx=>⟨hok,?_⟩⟩
 have hx:rowL x.d 32 = sha (manHead (ρ 0).i (ρ 1).i (ρ 2).i (ρ 3).i (rowL (ρ 4).d 32) ++ (dgs (ρ 8).d).flatten):=by
  rw [hx,segB,hd.symm]
  simp only [Int.toNat_zero,List.drop_zero]
  rw [List.take_of_length_le (by rw [bI_len]; omega)]
 exact hx
end Go.Proofs

set_option linter.unusedSimpArgs false
set_option linter.unusedVariables false
set_option maxRecDepth 100000
namespace Go.Proofs
open Go Go.Eng

def o_checkP:Out:=(.fresh 18 (.fresh 19 (.pre 0 (sg 0 [bv 9 9,bv 8 8,bv 7 7,bv 6 6,bg 5 5,bv 3 3,bv 2 2,bv 1 1,bv 0 0,bt 4 (r8 4)]) (.both (.fresh 20 (.post 0 0 (sg 0 [bv 9 9,bv 8 8,bv 7 7,bv 6 6,bg 5 5,bv 3 3,bv 2 2,bv 1 1,bv 0 0,bt 4 (r8 4)]) 20 (.br (.cmp .neq (.var 20) (.lit 0))
 (.ret 0 (sg 18 [bv 18 20]))
 (.br (.cmp .lss (.var 10) (.lit 0))
 (.ret 0 (sg 18 [bt 18 (.lit 2)]))
 (.br (.cmp .geq (.var 10) (.var 2))
 (.ret 0 (sg 18 [bt 18 (.lit 2)]))
 (.pre 1 (sg 0 [bv 1 3,bv 0 0]) (.both (.fresh 21 (.fresh 22 (.post 1 0 (sg 0 [bv 1 3,bv 0 0]) 21 (.need (.cmp .leq (.lit 0) (.var 12)) (.br (.cmp .neq (.var 12) (.var 21))
 (.ret 0 (sg 18 [bt 18 (.lit 10)]))
 (.need (.cmp .leq (.lit 0) (.var 10)) (.need (.cmp .lss (.var 10) (.var 6)) (.need (.cmp .lss (.var 10) (.dlen (.var 8))) (.both (.pre 2 (sg 0 [bv 8 17,bv 6 15,bv 5 14,bv 4 13,bv 3 12,bt 2 (.lit 0),bg 1 11,bv 0 10,bg 7 16]) (.both (.fresh 23 (.post 2 0 (sg 0 [bv 8 17,bv 6 15,bv 5 14,bv 4 13,bv 3 12,bt 2 (.lit 0),bg 1 11,bv 0 10,bg 7 16]) 23 (.br (.not (.c2 .req (r8 23) (.rcons (i8 8 10 0) (.rcons (i8 8 10 1) (.rcons (i8 8 10 2) (.rcons (i8 8 10 3) (.rcons (i8 8 10 4) (.rcons (i8 8 10 5) (.rcons (i8 8 10 6) (.rcons (i8 8 10 7) (.rcons (i8 8 10 8) (.rcons (i8 8 10 9) (.rcons (i8 8 10 10) (.rcons (i8 8 10 11) (.rcons (i8 8 10 12) (.rcons (i8 8 10 13) (.rcons (i8 8 10 14) (.rcons (i8 8 10 15) (.rcons (i8 8 10 16) (.rcons (i8 8 10 17) (.rcons (i8 8 10 18) (.rcons (i8 8 10 19) (.rcons (i8 8 10 20) (.rcons (i8 8 10 21) (.rcons (i8 8 10 22) (.rcons (i8 8 10 23) (.rcons (i8 8 10 24) (.rcons (i8 8 10 25) (.rcons (i8 8 10 26) (.rcons (i8 8 10 27) (.rcons (i8 8 10 28) (.rcons (i8 8 10 29) (.rcons (i8 8 10 30) (.rcons (i8 8 10 31) .rnil))))))))))))))))))))))))))))))))))
 (.ret 0 (sg 18 [bt 18 (.lit 20)]))
 (.ret 0 (sg 18 [bt 18 (.lit 0)]))))) .top)) .top))))))))) .top))))))) .top))))
theorem o_checkP_eq:treeOf ⟨Tryz.prog,checkPC,[checkMC,piece26C,pieceDgC],[]⟩ 100000 Tryz.f60 = o_checkP:=by kernel_rfl
theorem checkP_of (hd:∀ c ∈ ([checkMC,piece26C,pieceDgC]:List Ctr),c.ok Tryz.prog) (h:∀ ρ:Env,ρ.good→(checkPC).pre ρ→o_checkP.den ⟨Tryz.prog,checkPC,[checkMC,piece26C,pieceDgC],[]⟩ ρ):(checkPC).ok Tryz.prog :=
 ok_of_tree Tryz.func60 (fun a w=>Tryz.call60 a w) hd 100000 (fun ρ hg hp=>by rw [o_checkP_eq]; exact h ρ hg hp)
end Go.Proofs

set_option linter.unusedSimpArgs false
set_option linter.unusedVariables false
set_option maxRecDepth 100000
namespace Go.Proofs
open Go Go.Eng

end Go.Proofs

set_option linter.unusedSimpArgs false
set_option linter.unusedVariables false
namespace Go.Proofs
open Go Go.Eng
end Go.Proofs

set_option linter.unusedSimpArgs false
set_option linter.unusedVariables false
namespace Go.Proofs
open Go Go.Eng

end Go.Proofs

set_option linter.unusedSimpArgs false
set_option linter.unusedVariables false
namespace Go.Proofs
open Go Go.Eng
set_option maxRecDepth 20000
theorem chkE_bad {k n t s l i:Int} {D:List (List Int)} {m:List Int} (h:manOk k n t s l = false):2 = chkE k n t s l D i m:=by rw [chkE,if_pos h]
theorem chkE_arg {k n t s l i:Int} {D:List (List Int)} {m:List Int} (h:manOk k n t s l = true) (hi:i < 0∨t ≤ i):2 = chkE k n t s l D i m:=by rw [chkE,if_neg (by rw [h]; decide),if_pos hi]
theorem chkE_len {k n t s l i:Int} {D:List (List Int)} {m:List Int} (h:manOk k n t s l = true) (h0:0 ≤ i) (h1:i < t) (hl:(m.length:Int) ≠ plenI k s):10 = chkE k n t s l D i m:=by rw [chkE,if_neg (by rw [h]; decide),if_neg (by omega),if_pos hl]
theorem chkE_sum {k n t s l i:Int} {D:List (List Int)} {m:List Int} (h:manOk k n t s l = true) (h0:0 ≤ i) (h1:i < t) (hl:(m.length:Int) = plenI k s) (hs:sha (pieceIn i ++ m) ≠ D.getD i.toNat []):20 = chkE k n t s l D i m:=by rw [chkE,if_neg (by rw [h]; decide),if_neg (by omega),if_neg (fun h=>h hl),if_pos hs]
theorem chkE_ok {k n t s l i:Int} {D:List (List Int)} {m:List Int} (h:manOk k n t s l = true) (h0:0 ≤ i) (h1:i < t) (hl:(m.length:Int) = plenI k s) (hs:sha (pieceIn i ++ m) = D.getD i.toNat []):0 = chkE k n t s l D i m:=by rw [chkE,if_neg (by rw [h]; decide),if_neg (by omega),if_neg (fun h=>h hl),if_neg (fun h=>h hs)]
theorem man_notBad {k n t s l:Int} (h:manOk k n t s l = true):¬ pieceBad k s:=by
 simp [manOk,sizes3] at h
 unfold pieceBad; omega
set_option maxHeartbeats 1000000 in
theorem checkP_ok:checkPC.ok Tryz.prog:=checkP_of (by simp [checkM_ok,piece26_ok,pieceDg_ok]) fun ρ hg hp=>by
 obtain ⟨⟨i0,i3,hl,hD,hpl,hpc,hp1,hB⟩,hGr,hGd⟩:=hp
 simp only [Nat.reduceAdd] at hpl hpc hp1 hB
 simp (config:={ maxSteps:=4000000,contextual:=true }) [o_checkP,checkPC,chkAlts,checkMC,piece26C,pieceDgC,manV,manT,cellsT,gOk,hGr,hGd,hB,hD,hl,hpl]
 refine fun u _ hu=>⟨chkE_bad,fun hok=>⟨fun h0=>chkE_arg hok (.inl h0),fun h0=>⟨fun ht=>chkE_arg hok (.inr ht),fun ht l _ e _ _ hgood=>?_⟩⟩⟩
 have hlen:=(hgood (man_notBad hok)).1
 have hml:(bI (ρ 14).d).length = (ρ 14).d.length:=bI_len
 have htl:(ρ 2).i = (ρ 8).d.length:=by simp [manOk] at hok; omega
 have hrow:rowI8 (ρ 8).d (ρ 10).i = (dgs (ρ 8).d).getD (ρ 10).i.toNat []:=rowI8_dgs h0 (by omega)
 refine ⟨fun hne=>chkE_len hok h0 ht (by rw [hml,plenI,← hlen]; exact hne),fun heq=>⟨by omega,⟨by omega,by omega,by omega⟩,fun x _ hx=>?_⟩⟩
 rw [segB_all heq.symm,hrow]
 exact ⟨fun hn=>chkE_sum hok h0 ht (by rw [hml,plenI,← hlen]; exact heq) hn,fun he=>chkE_ok hok h0 ht (by rw [hml,plenI,← hlen]; exact heq) he⟩
end Go.Proofs

set_option linter.unusedSimpArgs false
set_option linter.unusedVariables false
namespace Go.Proofs
open Go Go.Eng

theorem pieceLen_ge' {k n:Nat} (hk:0 < k):n ≤ k * pieceLen k n:=by
 unfold pieceLen
 have h1:=Nat.div_add_mod (n + k - 1) k
 have h2:=Nat.mod_lt (n + k - 1) hk
 omega
theorem ident_len {n:Nat}:(identTo n n).length = n * n:=by simp [identTo]
theorem ident_get {n i:Nat} (hi:i < n * n):(identTo n n).getD i 0 = if i / n = i % n then 1 else 0:=by
 have hn:0 < n:=by
  cases n with
  | zero=>simp at hi
  | succ n=>omega
 rw [List.getD_eq_getElem?_getD,identTo,List.getElem?_map,List.getElem?_range hi]
 simp only [Option.map_some,Option.getD_some]
 have:i / n < n:=Nat.div_lt_of_lt_mul hi
 by_cases h:i / n = i % n
 ·rw [if_pos ⟨h,this⟩,if_pos h]
 ·rw [if_neg (fun hh=>h hh.1),if_neg h]
theorem divmod_cell {i n j:Nat} (hj:j < n):(i * n + j) / n = i∧(i * n + j) % n = j:=by
 have hn:0 < n:=by omega
 constructor
 ·rw [Nat.mul_comm,Nat.mul_add_div hn,Nat.div_eq_of_lt hj,Nat.add_zero]
 ·rw [Nat.mul_comm,Nat.mul_add_mod,Nat.mod_eq_of_lt hj]
theorem ident_bytes {n:Nat}:bytesL (identTo n n):=fun x hx=>by
 simp only [identTo,List.mem_map] at hx
 obtain ⟨i,_,rfl⟩:=hx
 split <;> exact ⟨by omega,by omega⟩
theorem ident_mat {n i j:Nat} (hi:i < n) (hj:j < n):matL n (identTo n n) i j = del i j:=by
 obtain ⟨h1,h2⟩:=divmod_cell (i:=i) hj
 rw [matL,ident_get (cell_lt hi hj),h1,h2,del]
 split <;> rfl
theorem vander_len {r c:Nat}:(vanderL r c).length = r * c:=by simp [vanderL,fillTo]
theorem vander_get {r c i j:Nat} (hi:i < r) (hj:j < c):(vanderL r c).getD (i * c + j) 0 = powF (i:Int) (j:Int):=by
 obtain ⟨h1,h2⟩:=divmod_cell (i:=i) hj
 have hlt:=cell_lt hi hj
 rw [List.getD_eq_getElem?_getD,vanderL,fillTo,List.getElem?_map,List.getElem?_range hlt]
 simp only [Option.map_some,Option.getD_some]
 rw [if_pos hlt,vanderF,h1,h2]
def xsF (m:Nat):F:=toF (m:Int)
theorem vander_mat {r c i j:Nat} (hr:r ≤ 256) (hi:i < r) (hj:j < c) (hc:c < 9223372036854775808):matL c (vanderL r c) i j = fpow (xsF i) j:=by
 rw [matL,vander_get hi hj,powF_F ⟨by omega,by omega⟩ (by omega),toF_ofF,Int.toNat_natCast]; rfl
theorem vander_bytes {r c:Nat} (hr:r ≤ 256) (hc:c < 9223372036854775808):bytesL (vanderL r c):=fun x hx=>by
 simp only [vanderL,fillTo,List.mem_map,List.mem_range] at hx
 obtain ⟨i,hi,rfl⟩:=hx
 rw [if_pos hi]
 have hc0:0 < c:=by
  cases c with
  | zero=>simp at hi
  | succ c=>omega
 have h1:i / c < r:=Nat.div_lt_of_lt_mul (by rwa [Nat.mul_comm] at hi)
 have h2:=Nat.mod_lt i hc0
 have h3:((i / c:Nat):Int) < 256:=by omega
 exact powF_isB ⟨Int.natCast_nonneg _,h3⟩ (by omega)
theorem xs_distinct {n:Nat} (hn:n ≤ 256):distinct n xsF:=fun i j hi hj h=>by
 have:=toF_inj (x:=(i:Int)) (y:=(j:Int)) ⟨by omega,by omega⟩ ⟨by omega,by omega⟩ h
 omega
theorem take_bytes {l:List Int} {n:Nat} (h:bytesL l):bytesL (l.take n):=fun x hx=>h x (List.mem_of_mem_take hx)
theorem take_mat {l:List Int} {n c i j:Nat} (hi:i < n) (hj:j < c):matL c (l.take (n * c)) i j = matL c l i j:=by
 have hlt:=cell_lt hi hj
 rw [matL,matL,List.getD_eq_getElem?_getD,List.getD_eq_getElem?_getD,List.getElem?_take,if_pos hlt]

theorem aug_right {ca cb:Nat} {a b:List Int} {i j:Nat}:augL ca cb a b i (ca + j) = matL cb b i j:=by
 rw [augL,if_neg (by omega),show ca + j - ca = j by omega]
theorem inv_mul {n:Nat} {a A B:List Int} (h:Ech n (n + n) (augL n n a (identTo n n)) (augL n n A B) n n) :
  (∀ i j,i < n→j < n→fsum (fun l=>fmul (matL n B i l) (matL n a l j)) n = del i j)∧∀ i j,i < n→j < n→fsum (fun l=>fmul (matL n a i l) (matL n B l j)) n = del i j:=by
 refine ⟨fun i j hi hj=>?_,fun i j hi hj=>?_⟩
 ·obtain ⟨x,hx⟩:=h.same.to i hi
  have hxB:∀ l,l < n→x l = matL n B i l:=fun l hl=>by
   have h1:=hx (n + l) (by omega)
   rw [aug_right,fsum_congr fun m hm=>by rw [aug_right,ident_mat hm hl],fsum_del' (f:=x) hl] at h1
   exact h1.symm
  have h2:=hx j (by omega)
  rw [ech_full h i hi j hj,fsum_congr fun m hm=>by rw [hxB m hm,aug_left hj]] at h2
  exact h2.symm
 ·obtain ⟨x,hx⟩:=h.same.back i hi
  have hxa:∀ l,l < n→x l = matL n a i l:=fun l hl=>by
   have h1:=hx l (by omega)
   rw [aug_left hl,fsum_congr fun m hm=>by rw [ech_full h m hm l hl],fsum_del' (f:=x) hl] at h1
   exact h1.symm
  have h2:=hx (n + j) (by omega)
  rw [aug_right,ident_mat hi hj,fsum_congr fun m hm=>by rw [hxa m hm,aug_right]] at h2
  exact h2.symm
theorem two_ident {n:Nat} {m:List Int} (hl:m.length = n * n) (hb:bytesL m):Two n n n m (identTo n n):=⟨hl,ident_len,hb,ident_bytes⟩
theorem inv_ech {n:Nat} {m:List Int} (hl:m.length = n * n) (hb:bytesL m):Two n n n (invE m n).1 (invE m n).2.1∧Ech n (n + n) (augL n n m (identTo n n)) (augL n n (invE m n).1 (invE m n).2.1) n (invE m n).2.2 :=
 elim_ech (two_ident hl hb) n (Nat.le_refl _)
theorem inv_rank {n:Nat} {m:List Int} (hl:m.length = n * n) (hb:bytesL m) (h:∀ y:Nat→F,(∀ i,i < n→fsum (fun j=>fmul (matL n m i j) (y j)) n = 0)→∀ j,j < n→y j = 0):(invE m n).2.2 = n:=by
 obtain ⟨_,he⟩:=inv_ech hl hb
 refine Classical.byContradiction fun hne=>?_
 have hlt:(invE m n).2.2 < n:=by have:=he.le; omega
 obtain ⟨y,⟨c,hc,hyc⟩,hy⟩:=ech_null he (by omega) hlt
 exact hyc (h y (fun i hi=>by rw [← hy i hi]; exact fsum_congr fun j hj=>by rw [aug_left hj]; rfl) c hc)

theorem top_len {k total:Nat} (h:k ≤ total):((vanderL total k).take (k * k)).length = k * k:=by
 rw [List.length_take,vander_len]
 exact Nat.min_eq_left (Nat.mul_le_mul_right k h)
theorem top_mat {k total i j:Nat} (hk:k ≤ total) (ht:total ≤ 255) (hi:i < k) (hj:j < k):matL k ((vanderL total k).take (k * k)) i j = fpow (xsF i) j:=by
 rw [take_mat hi hj,vander_mat (by omega) (by omega) hj (by omega)]
theorem top_bytes {k total:Nat} (hk:k ≤ total) (ht:total ≤ 255):bytesL ((vanderL total k).take (k * k)):=take_bytes (vander_bytes (by omega) (by omega))
theorem top_rank {k total:Nat} (hk:k ≤ total) (ht:total ≤ 255):(topE k total).2.2 = k :=
 inv_rank (top_len hk) (top_bytes hk ht) fun y hy=>vander_inj (xs_distinct (by omega)) fun i hi=>by
  rw [← hy i hi]
  exact fsum_congr fun j hj=>by rw [top_mat hk ht hi hj]
theorem top_ech {k total:Nat} (hk:k ≤ total) (ht:total ≤ 255):Two k k k (topE k total).1 (topE k total).2.1∧Ech k (k + k) (augL k k ((vanderL total k).take (k * k)) (identTo k k)) (augL k k (topE k total).1 (topE k total).2.1) k k:=by
 have h:=inv_ech (top_len hk) (top_bytes hk ht)
 have hr:=top_rank hk ht
 unfold topE at hr ⊢
 rw [hr] at h
 exact h

theorem prodN_facts {a b:List Int} {ra ca cb:Nat} (hb:b.length = ca * cb) (ha:bytesL a) (hbb:bytesL b) (hca:0 < ca):∀ t,t ≤ ra * ca→(prodN a b ra ca cb t).length = ra * cb∧bytesL (prodN a b ra ca cb t) ∧
  ∀ i j,i < ra→j < cb→matL cb (prodN a b ra ca cb t) i j = fsum (fun l=>if i * ca + l < t then fmul (matL ca a i l) (matL cb b l j) else 0) ca
 | 0,_=>⟨by simp [prodN],fun x hx=>by rw [prodN] at hx; rw [List.eq_of_mem_replicate hx]; exact ⟨by omega,by omega⟩,fun i j hi hj=>by
   rw [fsum_zero fun l _=>if_neg (by omega),matL,prodN,List.getD_eq_getElem?_getD,List.getElem?_replicate,if_pos (cell_lt hi hj)]; rfl⟩
 | t + 1,ht=>by
  obtain ⟨h1,h2,h3⟩:=prodN_facts (ra:=ra) hb ha hbb hca t (by omega)
  have hti:t / ca < ra:=Nat.div_lt_of_lt_mul (by rw [Nat.mul_comm]; omega)
  have htl:=Nat.mod_lt t hca
  have htd:=Nat.div_add_mod t ca
  rw [prodN]
  refine ⟨by rw [addToL_len,h1],addToL_bytes h2,fun i j hi hj=>?_⟩
  have hlt:=cell_lt hi hj
  have hsl:(seg b (t % ca * cb) cb).length = cb:=seg_len (by rw [hb]; exact row_le htl)
  have hL:matL cb (addToL (prodN a b ra ca cb t) (t / ca * cb) (seg b (t % ca * cb) cb) (a.getD t 0)) i j = if i = t / ca then matL cb (prodN a b ra ca cb t) i j ^^^ fmul (toF (a.getD t 0)) (matL cb b (t % ca) j) else matL cb (prodN a b ra ca cb t) i j:=by
   unfold matL
   rw [List.getD_eq_getElem?_getD,addToL_get,List.getElem?_eq_getElem (by omega),Option.map_some,Option.getD_some,hsl]
   by_cases he:i = t / ca
   ·subst he
    rw [if_pos ⟨by omega,by omega⟩,if_pos rfl,show t / ca * cb + j - t / ca * cb = j by omega]
    have hs:(seg b (t % ca * cb) cb).getD j 0 = b.getD (t % ca * cb + j) 0:=by
     rw [List.getD_eq_getElem?_getD,seg_get,if_pos hj,List.getD_eq_getElem?_getD]
    rw [hs,toF_xorB,toF_mulF (bytesL_get ha _) (bytesL_get hbb _),List.getD_eq_getElem?_getD (l:=prodN a b ra ca cb t),List.getElem?_eq_getElem (by omega),Option.getD_some]
   ·rw [if_neg (fun h=>he ((row_in hj).1 h)),if_neg he,List.getD_eq_getElem?_getD,List.getElem?_eq_getElem (by omega),Option.getD_some]
  rw [hL,h3 i j hi hj]
  by_cases he:i = t / ca
  ·have hit:i * ca + t % ca = t:=by rw [he,Nat.mul_comm]; exact htd
   rw [if_pos he]
   have hat:toF (a.getD t 0) = matL ca a i (t % ca):=by rw [matL,hit]
   have h4:fmul (toF (a.getD t 0)) (matL cb b (t % ca) j) = fsum (fun l=>if l = t % ca then fmul (matL ca a i l) (matL cb b l j) else 0) ca:=by
    rw [fsum_one htl fun l _ hl=>if_neg hl,if_pos rfl,hat]
   rw [h4,← fsum_xor]
   refine fsum_congr fun l hl=>?_
   by_cases hlt:l = t % ca
   ·subst hlt; rw [if_neg (by omega),if_pos rfl,if_pos (by omega),zero_xor']
   ·rw [if_neg hlt,xor_zero']
    by_cases h5:i * ca + l < t
    ·rw [if_pos h5,if_pos (by omega)]
    ·rw [if_neg h5,if_neg (by omega)]
  ·rw [if_neg he]
   refine fsum_congr fun l hl=>?_
   have hne:i * ca + l ≠ t:=fun h=>he (by rw [← h]; exact (divmod_cell hl).1.symm)
   by_cases h5:i * ca + l < t
   ·rw [if_pos h5,if_pos (by omega)]
   ·rw [if_neg h5,if_neg (by omega)]
theorem prod_facts {a b:List Int} {ra ca cb:Nat} (hb:b.length = ca * cb) (ha:bytesL a) (hbb:bytesL b) (hca:0 < ca):(prodL a b ra ca cb).length = ra * cb∧bytesL (prodL a b ra ca cb) ∧
  ∀ i j,i < ra→j < cb→matL cb (prodL a b ra ca cb) i j = fsum (fun l=>fmul (matL ca a i l) (matL cb b l j)) ca:=by
 obtain ⟨h1,h2,h3⟩:=prodN_facts (ra:=ra) hb ha hbb hca (ra * ca) (Nat.le_refl _)
 refine ⟨h1,h2,fun i j hi hj=>?_⟩
 rw [prodL,h3 i j hi hj]
 exact fsum_congr fun l hl=>if_pos (cell_lt hi hl)

theorem gen_facts {k total:Nat} (h1:1 ≤ k) (hk:k ≤ total) (ht:total ≤ 255):(genL k total).length = total * k∧bytesL (genL k total) ∧
  (∀ i j,i < total→j < k→matL k (genL k total) i j = fsum (fun l=>fmul (fpow (xsF i) l) (matL k (topE k total).2.1 l j)) k) ∧
  ∀ i j,i < total→j < k→matL k (genL k total) i j = lagF k xsF (xsF i) j:=by
 obtain ⟨t2,he⟩:=top_ech hk ht
 obtain ⟨p1,p2,p3⟩:=prod_facts (ra:=total) t2.lb (vander_bytes (r:=total) (c:=k) (by omega) (by omega)) t2.bb (by omega)
 have hg:∀ i j,i < total→j < k→matL k (genL k total) i j = fsum (fun l=>fmul (fpow (xsF i) l) (matL k (topE k total).2.1 l j)) k:=fun i j hi hj=>by
  rw [genL,p3 i j hi hj]
  exact fsum_congr fun l hl=>by rw [vander_mat (by omega) hi hl (by omega)]
 refine ⟨p1,p2,hg,fun i j hi hj=>?_⟩
 obtain ⟨_,m2⟩:=inv_mul he
 have hp:∀ x,pval k (fun l=>matL k (topE k total).2.1 l j) x = fsum (fun l=>fmul (fpow x l) (matL k (topE k total).2.1 l j)) k:=fun x=>fsum_congr fun l _=>fmul_comm
 rw [hg i j hi hj,← hp,lagrange (xs_distinct (n:=k) (by omega))]
 rw [fsum_congr (g:=fun m=>fmul (lagF k xsF (xsF i) m) (del m j)) fun m hm=>?_,fsum_del' hj]
 rw [hp,← m2 m j hm hj]
 congr 1
 exact fsum_congr fun l hl=>by rw [top_mat hk ht hm hl]
theorem pieceN_facts {g full:List Int} {k l i:Nat} (hg:bytesL g) (hf:bytesL full) (hl:full.length = k * l):∀ j,j ≤ k→(pieceN g full k l i j).length = l∧bytesL (pieceN g full k l i j) ∧
  ∀ c,c < l→toF ((pieceN g full k l i j).getD c 0) = fsum (fun m=>fmul (matL k g i m) (toF (full.getD (m * l + c) 0))) j
 | 0,_=>⟨by simp [pieceN],fun x hx=>by rw [pieceN] at hx; rw [List.eq_of_mem_replicate hx]; exact ⟨by omega,by omega⟩,fun c hc=>by
   rw [pieceN,List.getD_eq_getElem?_getD,List.getElem?_replicate,if_pos hc]; rfl⟩
 | j + 1,hj=>by
  obtain ⟨h1,h2,h3⟩:=pieceN_facts hg hf hl (i:=i) j (by omega)
  have hsl:(seg full (j * l) l).length = l:=seg_len (by rw [hl]; exact row_le (by omega))
  rw [pieceN]
  refine ⟨by rw [addToL_len,h1],addToL_bytes h2,fun c hc=>?_⟩
  rw [List.getD_eq_getElem?_getD,addToL_get,List.getElem?_eq_getElem (by omega),Option.map_some,Option.getD_some,hsl,if_pos ⟨by omega,by omega⟩,Nat.sub_zero]
  have hs:(seg full (j * l) l).getD c 0 = full.getD (j * l + c) 0:=by
   rw [List.getD_eq_getElem?_getD,seg_get,if_pos hc,List.getD_eq_getElem?_getD]
  rw [hs,toF_xorB,toF_mulF (bytesL_get hg _) (bytesL_get hf _),fsum,← h3 c hc,List.getD_eq_getElem?_getD (l:=pieceN g full k l i j),List.getElem?_eq_getElem (by omega),Option.getD_some]
  rfl
theorem full_facts {data:List Int} {n:Nat} (hb:bytesL data) (hn:data.length ≤ n):(fullL data n).length = n∧bytesL (fullL data n):=by
 refine ⟨by simp [fullL]; omega,fun x hx=>?_⟩
 rcases List.mem_append.1 hx with hx | hx
 ·exact hb x hx
 ·rw [List.eq_of_mem_replicate hx]; exact ⟨by omega,by omega⟩
theorem full_get {data:List Int} {n i:Nat}:(fullL data n).getD i 0 = data.getD i 0:=by
 rw [List.getD_eq_getElem?_getD,List.getD_eq_getElem?_getD,fullL]
 by_cases h:i < data.length
 ·rw [List.getElem?_append_left h]
 ·rw [List.getElem?_append_right (by omega),List.getElem?_eq_none (l:=data) (by omega),List.getElem?_replicate]
  split <;> rfl
theorem enc_facts {k total:Nat} {data:List Int} (h1:1 ≤ k) (hk:k ≤ total) (ht:total ≤ 255) (hb:bytesL data) (i:Nat):(encP k total data i).length = pieceLen k data.length∧bytesL (encP k total data i) ∧
  ∀ c,c < pieceLen k data.length→toF ((encP k total data i).getD c 0) = fsum (fun m=>fmul (matL k (genL k total) i m) (toF (data.getD (m * pieceLen k data.length + c) 0))) k:=by
 obtain ⟨g1,g2,_,_⟩:=gen_facts h1 hk ht
 obtain ⟨f1,f2⟩:=full_facts hb (n:=k * pieceLen k data.length) (pieceLen_ge' (by omega))
 obtain ⟨p1,p2,p3⟩:=pieceN_facts (i:=i) g2 f2 f1 k (Nat.le_refl _)
 refine ⟨p1,p2,fun c hc=>?_⟩
 rw [encP,p3 c hc]
 exact fsum_congr fun m _=>by rw [full_get]
end Go.Proofs

set_option linter.unusedSimpArgs false
set_option linter.unusedVariables false
namespace Go.Eng
open Go
end Go.Eng
namespace Go.Proofs
open Go Go.Eng
theorem list_ext_getD {a b:List Int} (hl:a.length = b.length) (h:∀ i,i < a.length→a.getD i 0 = b.getD i 0):a = b:=by
 apply List.ext_getElem hl
 intro i h1 h2
 have:=h i h1
 rwa [List.getD_eq_getElem?_getD,List.getElem?_eq_getElem h1,List.getD_eq_getElem?_getD,List.getElem?_eq_getElem h2] at this
end Go.Proofs

set_option linter.unusedSimpArgs false
set_option linter.unusedVariables false
namespace Go.Eng
open Go Go.Proofs

def selL (m:List Int) (cols:Nat) (rs:List Int):List Int:=rs.flatMap fun r=>seg m (r.toNat * cols) cols
def wgtL (xs:List Int) (x:Int):List Int:=(List.range xs.length).map fun i=>ofF (lagF xs.length (fun m=>toF (xs.getD m 0)) (toF x) i)
end Go.Eng

set_option linter.unusedSimpArgs false
set_option linter.unusedVariables false
set_option maxRecDepth 100000
namespace Go.Proofs
open Go Go.Eng

end Go.Proofs

set_option linter.unusedSimpArgs false
set_option linter.unusedVariables false
namespace Go.Proofs
open Go Go.Eng

end Go.Proofs

set_option linter.unusedSimpArgs false
set_option linter.unusedVariables false
namespace Go.Proofs
open Go Go.Eng
theorem selL_len {m:List Int} {c r:Nat} (hm:r * c ≤ m.length):∀ {rs:List Int},(∀ x ∈ rs,0 ≤ x∧x < (r:Int))→(selL m c rs).length = rs.length * c
 | [],_=>by simp [selL]
 | x :: rs,h=>by
  have ih:=selL_len hm (rs:=rs) fun y hy=>h y (List.mem_cons_of_mem _ hy)
  have hx:=h x (List.mem_cons_self ..)
  have:=row_le (ca:=c) (show x.toNat < r by omega)
  rw [selL,List.flatMap_cons,List.length_append,seg_len (by omega),show (rs.flatMap fun r=>seg m (r.toNat * c) c) = selL m c rs from rfl,ih,List.length_cons,Nat.add_mul]; omega
theorem getD_mem {l:List Int} {n:Nat} (h:n < l.length):l.getD n 0 ∈ l:=by
 rw [List.getD_eq_getElem?_getD,List.getElem?_eq_getElem h]; exact List.getElem_mem h
end Go.Proofs

set_option linter.unusedSimpArgs false
set_option linter.unusedVariables false
namespace Go.Eng
open Go Go.Proofs
def chooseOk (k total:Nat) (rs:List Int):Prop:=rs.length = k∧rs.Nodup∧∀ x ∈ rs,0 ≤ x∧x < (total:Int)
end Go.Eng
namespace Go.Proofs
open Go Go.Eng

theorem del_symm {i j:Nat}:del i j = del j i:=by
 unfold del
 by_cases hij:i = j
 ·rw [if_pos hij,if_pos hij.symm]
 ·rw [if_neg hij,if_neg (Ne.symm hij)]
theorem sel_get {m:List Int} {k R:Nat} (hm:m.length = R * k):∀ {rs:List Int},(∀ x ∈ rs,0 ≤ x∧x < (R:Int))→∀ {i j:Nat},i < rs.length→j < k→(selL m k rs).getD (i * k + j) 0 = m.getD ((rs.getD i 0).toNat * k + j) 0
 | [],_,i,j,hi,_=>by simp at hi
 | x :: rs,h,i,j,hi,hj=>by
  have hx:=h x (List.mem_cons_self ..)
  have hxk:x.toNat * k + k ≤ R * k:=by
   have h1:x.toNat + 1 ≤ R:=by omega
   have:=Nat.mul_le_mul_right k h1
   rw [Nat.add_mul] at this; omega
  have hsl:(seg m (x.toNat * k) k).length = k:=by rw [seg,List.length_take,List.length_drop]; omega
  rw [selL,List.flatMap_cons]
  cases i with
  | zero =>
   rw [Nat.zero_mul,Nat.zero_add,List.getD_eq_getElem?_getD,List.getElem?_append_left (by rw [hsl]; exact hj),seg,List.getElem?_take,if_pos hj,List.getElem?_drop,← List.getD_eq_getElem?_getD]
   rfl
  | succ i =>
   have ih:=sel_get hm (rs:=rs) (fun y hy=>h y (List.mem_cons_of_mem _ hy)) (i:=i) (j:=j) (by simpa using hi) hj
   rw [List.getD_eq_getElem?_getD,List.getElem?_append_right (by rw [hsl,Nat.add_mul]; omega),hsl,show (i + 1) * k + j - k = i * k + j by rw [Nat.add_mul]; omega,← List.getD_eq_getElem?_getD]
   exact ih
theorem sel_bytes {m:List Int} {k:Nat} {rs:List Int} (h:bytesL m):bytesL (selL m k rs):=fun x hx=>by
 rw [selL,List.mem_flatMap] at hx
 obtain ⟨r,_,hx⟩:=hx
 exact h x (List.mem_of_mem_drop (List.mem_of_mem_take hx))
theorem chosen_distinct {k total:Nat} {rs:List Int} (h:chooseOk k total rs) (ht:total ≤ 255):distinct k fun i=>xsF (rs.getD i 0).toNat:=by
 obtain ⟨h1,h2,h3⟩:=h
 intro i j hi hj he
 have gi:rs.getD i 0 = rs[i]'(by omega):=by rw [List.getD_eq_getElem?_getD,List.getElem?_eq_getElem (by omega)]; rfl
 have gj:rs.getD j 0 = rs[j]'(by omega):=by rw [List.getD_eq_getElem?_getD,List.getElem?_eq_getElem (by omega)]; rfl
 have mi:=h3 _ (List.getElem_mem (l:=rs) (n:=i) (by omega))
 have mj:=h3 _ (List.getElem_mem (l:=rs) (n:=j) (by omega))
 simp only [gi,gj] at he
 have:=xs_distinct (n:=256) (Nat.le_refl _) _ _ (by omega) (by omega) he
 exact (List.getElem_inj (h₀:=by omega) (h₁:=by omega) h2).1 (by omega)
theorem sel_len' {m:List Int} {k total:Nat} {rs:List Int} (h:chooseOk k total rs) (hm:m.length = total * k):(selL m k rs).length = k * k:=by
 rw [selL_len (r:=total) (by omega) h.2.2,h.1]
theorem gen_inj {k total:Nat} {rs:List Int} (h:chooseOk k total rs) (h1:1 ≤ k) (hk:k ≤ total) (ht:total ≤ 255) {y:Nat→F}
  (hy:∀ i,i < k→fsum (fun j=>fmul (matL k (genL k total) (rs.getD i 0).toNat j) (y j)) k = 0):∀ j,j < k→y j = 0:=by
 obtain ⟨g1,g2,g3,_⟩:=gen_facts h1 hk ht
 obtain ⟨t2,he⟩:=top_ech hk ht
 obtain ⟨_,m2⟩:=inv_mul he
 have hz:∀ l,l < k→fsum (fun j=>fmul (matL k (topE k total).2.1 l j) (y j)) k = 0:=vander_inj (chosen_distinct h ht) fun i hi=>by
  rw [← hy i hi]
  have hx:=h.2.2 (rs.getD i 0) (by rw [List.getD_eq_getElem?_getD,List.getElem?_eq_getElem (by rw [h.1]; exact hi)]; exact List.getElem_mem _)
  have e2:fsum (fun j=>fmul (matL k (genL k total) (rs.getD i 0).toNat j) (y j)) k = fsum (fun j=>fsum (fun l=>fmul (fmul (fpow (xsF (rs.getD i 0).toNat) l) (matL k (topE k total).2.1 l j)) (y j)) k) k:=fsum_congr fun j hj=>by rw [g3 _ j (by omega) hj,fsum_mul']
  rw [e2,fsum_swap]
  refine fsum_congr fun l hl=>?_
  rw [← fsum_mul]
  exact fsum_congr fun j hj=>by rw [fmul_assoc]
 intro j hj
 have e1:y j = fsum (fun i=>fmul (y i) (del i j)) k:=(fsum_del' (f:=y) hj).symm
 rw [e1,fsum_congr (g:=fun i=>fsum (fun l=>fmul (matL k ((vanderL total k).take (k * k)) j l) (fmul (matL k (topE k total).2.1 l i) (y i))) k) fun i hi=>?_,fsum_swap]
 ·refine fsum_zero fun l hl=>?_
  rw [fsum_mul,hz l hl,fmul_zero]
 ·have:=m2 j i hj hi
  rw [show del i j = del j i from del_symm,← this,fmul_comm,← fsum_mul']
  exact fsum_congr fun l hl=>by rw [fmul_assoc]
theorem rows_gen {k total:Nat} {rs:List Int} (h:chooseOk k total rs) (h1:1 ≤ k) (hk:k ≤ total) (ht:total ≤ 255):(invE (selL (genL k total) k rs) k).2.2 = k:=by
 obtain ⟨g1,g2,_,_⟩:=gen_facts h1 hk ht
 refine inv_rank (sel_len' h g1) (sel_bytes g2) fun y hy=>gen_inj h h1 hk ht fun i hi=>?_
 rw [← hy i hi]
 refine fsum_congr fun j hj=>?_
 rw [matL,matL,sel_get g1 h.2.2 (by rw [h.1]; exact hi) hj]

end Go.Proofs

set_option linter.unusedSimpArgs false
set_option linter.unusedVariables false
namespace Go.Eng
open Go Go.Proofs
end Go.Eng
namespace Go.Proofs
open Go Go.Eng
theorem enc_pc {h:Hp} {D:Rows'} {n:Nat} {f:Nat→List Int} (he:encAt h D n f):pcOk h D n∧∀ j,j < n→pcI D j = j∧pcD h D j = f j:=by
 refine ⟨fun j hj=>?_,fun j hj=>?_⟩
 ·obtain ⟨v,d,e,hr,_,hb⟩:=he j hj
  exact ⟨_,v,d,e,hr,hb⟩
 ·obtain ⟨v,d,e,hr,hf,hb⟩:=he j hj
  refine ⟨by simp [pcI,cellI,cellV,e,vInt],?_⟩
  rw [pcD,show cellV D (j:Int) 1 = v by simp [cellV,e],rdL_eq hr,hf]
end Go.Proofs

set_option linter.unusedSimpArgs false
set_option linter.unusedVariables false
namespace Go.Eng
open Go Go.Proofs

def rangeI (n:Nat):List Int:=(List.range n).map fun (m:Nat)=>(m:Int)
end Go.Eng

set_option linter.unusedSimpArgs false
set_option linter.unusedVariables false
namespace Go.Eng
open Go Go.Proofs

def mixN (f:Nat→List Int) (w:List Int) (l:Nat):Nat→List Int
 | 0=>List.replicate l 0
 | j + 1=>addToL (mixN f w l j) 0 (seg (f j) 0 l) (w.getD j 0)
end Go.Eng

set_option linter.unusedSimpArgs false
set_option linter.unusedVariables false
namespace Go.Eng
open Go Go.Proofs
end Go.Eng

set_option linter.unusedSimpArgs false
set_option linter.unusedVariables false
set_option maxRecDepth 100000
namespace Go.Proofs
open Go Go.Eng

end Go.Proofs

set_option linter.unusedSimpArgs false
set_option linter.unusedVariables false
namespace Go.Eng
open Go Go.Proofs

end Go.Eng

set_option linter.unusedSimpArgs false
set_option linter.unusedVariables false
namespace Go.Proofs
open Go Go.Eng

theorem mixN_len {f:Nat→List Int} {w:List Int} {l:Nat}:∀ j,(mixN f w l j).length = l
 | 0=>by simp [mixN]
 | j + 1=>by rw [mixN,addToL_len,mixN_len j]
end Go.Proofs

set_option linter.unusedSimpArgs false
set_option linter.unusedVariables false
set_option maxRecDepth 100000
namespace Go.Proofs
open Go Go.Eng

end Go.Proofs

set_option linter.unusedSimpArgs false
set_option linter.unusedVariables false
namespace Go.Proofs
open Go Go.Eng
theorem range_nodup {n:Nat}:(rangeI n).Nodup:=List.pairwise_map.2 (List.nodup_range.imp fun h e=>h (by omega))
theorem range_mem {n:Nat} {x:Int} (h:x ∈ rangeI n):0 ≤ x∧x < n:=by
 obtain ⟨m,hm,rfl⟩:=List.mem_map.1 h
 have:=List.mem_range.1 hm
 omega
theorem chosen {o l:List Int} {n k:Nat} (h:(o ++ l).Perm (rangeI n)) (hk:o.length = k):o.length = k∧o.Nodup∧∀ x ∈ o,0 ≤ x∧x < (n:Int) :=
 ⟨hk,(List.nodup_append.1 (h.nodup_iff.2 range_nodup)).1,fun x hx=>range_mem (h.mem_iff.1 (List.mem_append_left _ hx))⟩
end Go.Proofs

set_option linter.unusedSimpArgs false
set_option linter.unusedVariables false
namespace Go.Proofs
open Go Go.Eng
end Go.Proofs

set_option linter.unusedSimpArgs false
set_option linter.unusedVariables false
namespace Go.Proofs
open Go Go.Eng
set_option maxRecDepth 20000
end Go.Proofs

set_option linter.unusedSimpArgs false
set_option linter.unusedVariables false
namespace Go.Eng
open Go Go.Proofs
def blk:Value→Option Nat
 | .slice (some a) _ _=>some a.block
 | _=>none
def tabV (h:Hp) (vs:Nat→Value) (n:Nat) (M:Nat→List Int):Prop :=
 (∀ j,j < n→∃ d,Rd h kB (vs j) d∧bI d = M j∧allB d)∧∀ i j,i < n→j < n→i ≠ j→M i ≠ []→M j ≠ []→blk (vs i) ≠ blk (vs j)
end Go.Eng
namespace Go.Proofs
open Go Go.Eng
theorem tab_at {h:Hp} {vs:Nat→Value} {n j:Nat} {M:Nat→List Int} (ht:tabV h vs n M) (hj:j < n):∃ d,Rd h kB (vs j) d∧bI d = M j∧allB d:=ht.1 j hj
end Go.Proofs

set_option linter.unusedSimpArgs false
set_option linter.unusedVariables false
namespace Go.Eng
open Go Go.Proofs
def tvs (D:Rows'):Nat→Value:=fun j=>cellV D j 0
end Go.Eng

set_option linter.unusedSimpArgs false
set_option linter.unusedVariables false
namespace Go.Eng
open Go Go.Proofs
noncomputable def pcN (h:Hp) (D:Rows') (j:Nat):Nat:=(pcD h D j).length
def rdB (h:Hp) (v:Value):Prop:=∃ d,Rd h kB v d∧allB d
noncomputable def idxL (D:Rows') (k:Nat):List Int:=(List.range k).map (pcI D)
noncomputable def colF (h:Hp) (D:Rows'):Nat→List Int:=fun j=>rdL h (tvs D j)
noncomputable def valLr (h:Hp) (D:Rows') (k:Nat) (x:Int):List Int:=mixN (pcD h D) (wgtL (idxL D k) x) (pcN h D 0) k
def invL (total k:Nat) (rs:List Int):List Int:=(invE (selL (genL k total) k rs) k).2.1
noncomputable def solM (h:Hp) (D:Rows') (total k:Nat) (i:Nat):List Int:=mixN (pcD h D) (seg (invL total k (idxL D k)) (i * k) k) (pcN h D 0) k
def solPre (h:Hp) (D:Rows') (k total n:Int):Prop:=sizesB k total = true∧k ≤ n∧n ≤ 17592186043904∧pcOk h D n.toNat∧chooseOk k.toNat total.toNat (idxL D k.toNat)∧pcN h D 0 ≤ 8192∧∀ j,j < k.toNat→pcN h D j = pcN h D 0
end Go.Eng

set_option linter.unusedSimpArgs false
set_option linter.unusedVariables false
namespace Go.Eng
open Go Go.Proofs
end Go.Eng

set_option linter.unusedSimpArgs false
set_option linter.unusedVariables false
namespace Go.Eng
open Go Go.Proofs
noncomputable def plI (k size:Int):Int:=(pieceLen k.toNat size.toNat:Int)
end Go.Eng

set_option linter.unusedSimpArgs false
set_option linter.unusedVariables false
namespace Go.Eng
open Go Go.Proofs
def manAt (r:Nat):SV:=.agg (manT r (r + 1) (r + 2) (r + 3) (r + 4) (r + 5) (r + 6) (r + 7))
end Go.Eng

set_option linter.unusedSimpArgs false
set_option linter.unusedVariables false
namespace Go.Proofs
open Go Go.Eng
section
variable {M:Bool} {C:Int→Prop} {x t:Int} {D O:List Int}
end
end Go.Proofs

set_option linter.unusedSimpArgs false
set_option linter.unusedVariables false
namespace Go.Proofs
open Go Go.Eng
variable {rows wide c rank:Nat} {T0:Mat} {M:Nat→List Int}
end Go.Proofs

set_option linter.unusedSimpArgs false
set_option linter.unusedVariables false
namespace Go.Proofs
open Go Go.Eng
end Go.Proofs

set_option linter.unusedSimpArgs false
set_option linter.unusedVariables false
set_option maxRecDepth 100000
namespace Go.Proofs
open Go Go.Eng

end Go.Proofs

set_option linter.unusedSimpArgs false
set_option linter.unusedVariables false
namespace Go.Proofs
open Go Go.Eng
variable {k total len e e':Int} {n i:Nat} {I I':Nat→Int} {L L':Nat→Nat}
end Go.Proofs

set_option linter.unusedSimpArgs false
set_option linter.unusedVariables false
namespace Go.Proofs
open Go Go.Eng
set_option maxRecDepth 100000
end Go.Proofs

set_option linter.unusedSimpArgs false
set_option linter.unusedVariables false
namespace Go.Proofs
open Go Go.Eng
def byF (r:F) (y:Nat→F):Nat→F:=fun l=>(if l = 0 then 0 else y (l - 1)) ^^^ fmul r (y l)
theorem pval_one {y:Nat→F} {x:F}:pval 1 y x = y 0:=by
 show (0:F) ^^^ fmul (y 0) (fpow x 0) = y 0
 rw [zero_xor',show fpow x 0 = 1 from rfl,fmul_one]
theorem byF_val' {r x:F} {y:Nat→F}:∀ n,pval (n + 1) (byF r y) x = fmul (x ^^^ r) (pval n y x) ^^^ fmul (fmul r (y n)) (fpow x n)
 | 0=>by rw [pval_one,byF,if_pos rfl,zero_xor',show pval 0 y x = 0 from rfl,fmul_zero,zero_xor',show fpow x 0 = 1 from rfl,fmul_one]
 | n + 1=>by
  have ih:=byF_val' (r:=r) (x:=x) (y:=y) n
  have h1:pval (n + 2) (byF r y) x = pval (n + 1) (byF r y) x ^^^ fmul (byF r y (n + 1)) (fpow x (n + 1)):=rfl
  have h2:pval (n + 1) y x = pval n y x ^^^ fmul (y n) (fpow x n):=rfl
  rw [h1,ih,h2,byF,if_neg (by omega),Nat.add_sub_cancel,xor_fmul,fmul_xor (x:=y n)]
  have h3:fmul (x ^^^ r) (fmul (y n) (fpow x n)) = fmul (y n) (fpow x (n + 1)) ^^^ fmul (fmul r (y n)) (fpow x n):=by
   rw [fmul_xor,fpow]
   congr 1
   ·rw [← fmul_assoc,fmul_comm (x:=x),fmul_assoc]
    try rw [fmul_comm (x:=x)]
   ·rw [fmul_assoc]
  rw [h3]
  generalize fmul (x ^^^ r) (pval n y x) = a
  generalize fmul (fmul r (y n)) (fpow x n) = b
  generalize fmul (y n) (fpow x (n + 1)) = c
  generalize fmul (fmul r (y (n + 1))) (fpow x (n + 1)) = d
  rw [BitVec.xor_assoc,BitVec.xor_assoc,BitVec.xor_assoc]
  congr 1
  rw [← BitVec.xor_assoc,← BitVec.xor_assoc,BitVec.xor_comm b c]
theorem byF_val {r x:F} {y:Nat→F} {n:Nat} (h:y n = 0):pval (n + 1) (byF r y) x = fmul (x ^^^ r) (pval n y x):=by
 rw [byF_val',h,fmul_zero,zero_fmul,xor_zero']
theorem pval_more {y:Nat→F} {x:F} {n:Nat} (h:∀ l,n ≤ l→y l = 0):∀ m,pval (n + m) y x = pval n y x
 | 0=>rfl
 | m + 1=>by
  show pval (n + m) y x ^^^ fmul (y (n + m)) (fpow x (n + m)) = _
  rw [pval_more h m,h _ (by omega),zero_fmul,xor_zero']
theorem pval_xor {y z:Nat→F} {x:F} {n:Nat}:pval n (fun l=>y l ^^^ z l) x = pval n y x ^^^ pval n z x:=by
 simp only [pval]
 rw [← fsum_xor]
 exact fsum_congr fun j _=>fmul_xor
theorem pval_mul {y:Nat→F} {x c:F} {n:Nat}:pval n (fun l=>fmul c (y l)) x = fmul c (pval n y x):=by
 simp only [pval]
 rw [← fsum_mul]
 exact fsum_congr fun j _=>fmul_assoc
def ddF (xs ys:Nat→F):Nat→Nat→F
 | s,0=>ys s
 | s,j + 1=>fmul (ddF xs ys (s + 1) j ^^^ ddF xs ys s j) (finv (xs (s + j + 1) ^^^ xs s))
theorem newton_top {n:Nat} {xs ys:Nat→F} (hd:distinct n xs):∀ j s,s + j < n→∃ y:Nat→F,(∀ l,j < l→y l = 0)∧(∀ i,i ≤ j→pval (j + 1) y (xs (s + i)) = ys (s + i))∧y j = ddF xs ys s j
 | 0,s,hs=>⟨fun l=>if l = 0 then ys s else 0,fun l hl=>if_neg (by omega),fun i hi=>by
   obtain rfl:i = 0:=by omega
   rw [pval_one,if_pos rfl,Nat.add_zero],rfl⟩
 | j + 1,s,hs=>by
  obtain ⟨y1,a1,b1,c1⟩:=newton_top (ys:=ys) hd j (s + 1) (by omega)
  obtain ⟨y0,a0,b0,c0⟩:=newton_top (ys:=ys) hd j s (by omega)
  have hne:xs (s + j + 1) ^^^ xs s ≠ 0:=fun h=>by have:=hd _ _ (by omega) (by omega) (xor_eq_zero.1 h); omega
  let w:F:=finv (xs (s + j + 1) ^^^ xs s)
  have hv:∀ x,pval (j + 2) (fun l=>fmul w (byF (xs s) y1 l ^^^ byF (xs (s + j + 1)) y0 l)) x = fmul w (fmul (x ^^^ xs s) (pval (j + 1) y1 x) ^^^ fmul (x ^^^ xs (s + j + 1)) (pval (j + 1) y0 x)):=fun x=>by
   rw [pval_mul,pval_xor,byF_val (a1 _ (by omega)),byF_val (a0 _ (by omega))]
  refine ⟨fun l=>fmul w (byF (xs s) y1 l ^^^ byF (xs (s + j + 1)) y0 l),fun l hl=>?_,fun i hi=>?_,?_⟩
  ·simp only [byF]
   rw [if_neg (by omega),if_neg (by omega),a1 l (by omega),a0 l (by omega),a1 (l - 1) (by omega),a0 (l - 1) (by omega),fmul_zero,fmul_zero,xor_self',fmul_zero]
  ·rw [hv]
   have hw:∀ z,fmul w (fmul (xs (s + j + 1) ^^^ xs s) z) = z:=fun z=>by
    rw [← fmul_assoc,fmul_comm (x:=w),fmul_finv hne,one_fmul]
   by_cases h0:i = 0
   ·subst h0
    have hb0:=b0 0 (by omega)
    simp only [Nat.add_zero] at hb0
    rw [Nat.add_zero,xor_self',zero_fmul,zero_xor',hb0,BitVec.xor_comm,hw]
   ·by_cases h1:i = j + 1
    ·subst h1
     have:=b1 j (Nat.le_refl _)
     rw [show s + 1 + j = s + (j + 1) by omega] at this
     rw [this,← Nat.add_assoc,xor_self',zero_fmul,xor_zero',hw]
    ·have h2:=b1 (i - 1) (by omega)
     rw [show s + 1 + (i - 1) = s + i by omega] at h2
     rw [h2,b0 i (by omega),← fmul_xor,xor_swap,xor_self',zero_xor',BitVec.xor_comm,hw]
  ·simp only [byF]
   rw [if_neg (by omega),if_neg (by omega),a1 (j + 1) (by omega),a0 (j + 1) (by omega),fmul_zero,fmul_zero,xor_zero',xor_zero',Nat.add_sub_cancel,c1,c0,fmul_comm]
   rfl
def monF (xs:Nat→F):Nat→Nat→F
 | 0=>fun l=>if l = 0 then 1 else 0
 | m + 1=>byF (xs m) (monF xs m)
theorem mon_facts {xs:Nat→F}:∀ m,(∀ l,m < l→monF xs m l = 0)∧monF xs m m = 1∧∀ x,pval (m + 1) (monF xs m) x = fprod (fun u=>x ^^^ xs u) m
 | 0=>⟨fun l hl=>if_neg (by omega),rfl,fun x=>by rw [pval_one]; rfl⟩
 | m + 1=>by
  obtain ⟨h1,h2,h3⟩:=mon_facts (xs:=xs) m
  refine ⟨fun l hl=>?_,?_,fun x=>?_⟩
  ·simp only [monF,byF]
   rw [if_neg (by omega),h1 (l - 1) (by omega),h1 l (by omega),fmul_zero,xor_zero']
  ·simp only [monF,byF]
   rw [if_neg (by omega),Nat.add_sub_cancel,h2,h1 (m + 1) (by omega),fmul_zero,xor_zero']
  ·rw [monF,byF_val (h1 _ (by omega)),h3,fprod,fmul_comm]
def newtF (xs ys:Nat→F) (x:F) (m:Nat):F:=fsum (fun t=>fmul (ddF xs ys 0 t) (fprod (fun u=>x ^^^ xs u) t)) m
theorem newton_at {n:Nat} {xs ys:Nat→F} (hd:distinct n xs):∀ m,m < n→∃ y:Nat→F,(∀ l,m < l→y l = 0)∧(∀ i,i ≤ m→pval (m + 1) y (xs i) = ys i)∧∀ x,pval (m + 1) y x = newtF xs ys x (m + 1)
 | 0,hm=>by
  obtain ⟨y,a,b,c⟩:=newton_top (ys:=ys) hd 0 0 (by omega)
  refine ⟨y,a,fun i hi=>by have:=b i hi; simp only [Nat.zero_add] at this ⊢; exact this,fun x=>?_⟩
  rw [pval_one,c]
  show ys 0 = (0:F) ^^^ fmul (ys 0) 1
  rw [zero_xor',fmul_one]
 | m + 1,hm=>by
  obtain ⟨y0,a0,b0,c0⟩:=newton_at (ys:=ys) hd m (by omega)
  obtain ⟨y,a,b,c⟩:=newton_top (ys:=ys) hd (m + 1) 0 (by omega)
  obtain ⟨p1,p2,p3⟩:=mon_facts (xs:=xs) (m + 1)
  refine ⟨y,a,fun i hi=>by have:=b i hi; rwa [Nat.zero_add] at this,fun x=>?_⟩
  let R:Nat→F:=fun l=>(y l ^^^ y0 l) ^^^ fmul (ddF xs ys 0 (m + 1)) (monF xs (m + 1) l)
  have hRv:∀ x,pval (m + 2) R x = (pval (m + 2) y x ^^^ pval (m + 1) y0 x) ^^^ fmul (ddF xs ys 0 (m + 1)) (fprod (fun u=>x ^^^ xs u) (m + 1)):=fun x=>by
   rw [← p3,← pval_mul,← pval_more (y:=y0) (n:=m + 1) (fun l hl=>a0 l (by omega)) 1,← pval_xor,← pval_xor]
  have hRt:R (m + 1) = 0:=by
   simp only [R]
   rw [c,a0 (m + 1) (by omega),p2,fmul_one,xor_zero',xor_self']
  have hRe:∀ x,pval (m + 1) R x = pval (m + 2) R x:=fun x=>by
   show _ = pval (m + 1) R x ^^^ fmul (R (m + 1)) (fpow x (m + 1))
   rw [hRt,zero_fmul,xor_zero']
  have h0:=pval_roots (n:=m + 1) (y:=R) (xs:=xs) (fun i j hi hj=>hd i j (by omega) (by omega)) fun i hi=>by
   rw [hRe,hRv,b0 i (by omega)]
   have:=b i (by omega)
   rw [Nat.zero_add] at this
   rw [this,xor_self',zero_xor',fprod_zero (k:=i) hi xor_self',fmul_zero]
  have hz:pval (m + 1) R x = 0:=fsum_zero fun l hl=>by rw [h0 l hl,zero_fmul]
  rw [hRe,hRv] at hz
  have h1:newtF xs ys x (m + 2) = newtF xs ys x (m + 1) ^^^ fmul (ddF xs ys 0 (m + 1)) (fprod (fun u=>x ^^^ xs u) (m + 1)):=rfl
  rw [h1,← c0 x]
  have h2:=xor_eq_zero.1 hz
  rw [← h2,← BitVec.xor_assoc,BitVec.xor_comm,← BitVec.xor_assoc,xor_self',zero_xor']
end Go.Proofs

set_option linter.unusedSimpArgs false
set_option linter.unusedVariables false
namespace Go.Proofs
open Go Go.Eng
theorem mixN_facts {f:Nat→List Int} {w:List Int} {l:Nat} (hw:bytesL w):∀ k,(∀ j,j < k→(f j).length = l∧bytesL (f j))→(mixN f w l k).length = l∧bytesL (mixN f w l k)∧∀ c,c < l→toF ((mixN f w l k).getD c 0) = fsum (fun m=>fmul (toF (w.getD m 0)) (toF ((f m).getD c 0))) k
 | 0,_=>⟨by simp [mixN],fun x hx=>by rw [mixN] at hx; rw [List.eq_of_mem_replicate hx]; exact ⟨by omega,by omega⟩,fun c hc=>by
   rw [mixN,List.getD_eq_getElem?_getD,List.getElem?_replicate,if_pos hc]; rfl⟩
 | k + 1,h=>by
  obtain ⟨h1,h2,h3⟩:=mixN_facts hw k fun j hj=>h j (by omega)
  obtain ⟨f1,f2⟩:=h k (by omega)
  have hsl:seg (f k) 0 l = f k:=by rw [← f1]; simp [seg]
  rw [mixN,hsl]
  refine ⟨by rw [addToL_len,h1],addToL_bytes h2,fun c hc=>?_⟩
  rw [List.getD_eq_getElem?_getD,addToL_get,List.getElem?_eq_getElem (by omega),Option.map_some,Option.getD_some,if_pos ⟨by omega,by omega⟩,Nat.sub_zero,toF_xorB,toF_mulF (bytesL_get hw _) (bytesL_get f2 _),fsum,← h3 c hc,List.getD_eq_getElem?_getD (l:=mixN f w l k),List.getElem?_eq_getElem (by omega),Option.getD_some]
theorem mix_eq {f g:Nat→List Int} {w v:List Int} {l k:Nat} (hw:bytesL w) (hv:bytesL v) (hf:∀ j,j < k→(f j).length = l∧bytesL (f j)) (hg:∀ j,j < k→(g j).length = l∧bytesL (g j))
  (h:∀ c,c < l→fsum (fun m=>fmul (toF (w.getD m 0)) (toF ((f m).getD c 0))) k = fsum (fun m=>fmul (toF (v.getD m 0)) (toF ((g m).getD c 0))) k):mixN f w l k = mixN g v l k:=by
 obtain ⟨a1,a2,a3⟩:=mixN_facts hw k hf
 obtain ⟨b1,b2,b3⟩:=mixN_facts hv k hg
 refine list_ext_getD (by omega) fun c hc=>toF_inj (bytesL_get a2 c) (bytesL_get b2 c) ?_
 rw [a3 c (by omega),b3 c (by omega),h c (by omega)]
theorem wgt_at {rs:List Int} {x:Int} {j:Nat} (hj:j < rs.length):toF ((wgtL rs x).getD j 0) = lagF rs.length (fun m=>toF (rs.getD m 0)) (toF x) j:=by
 unfold wgtL
 rw [List.getD_eq_getElem?_getD,List.getElem?_map,List.getElem?_range hj,Option.map_some,Option.getD_some,toF_ofF]
theorem wgt_byte {xs:List Int} {x:Int}:bytesL (wgtL xs x):=fun y hy=>by
 obtain ⟨m,_,rfl⟩:=List.mem_map.1 hy
 exact ofF_isB
variable {k total:Nat} {rs:List Int}
theorem chosen_xs (hc:chooseOk k total rs) {j:Nat} (hj:j < k):toF (rs.getD j 0) = xsF (rs.getD j 0).toNat:=by
 have h1:=hc.1
 have h2:=hc.2.2 (rs.getD j 0) (getD_mem (by omega))
 unfold xsF
 rw [Int.toNat_of_nonneg h2.1]
theorem chosen_dist (hc:chooseOk k total rs) (ht:total ≤ 255):distinct k fun m=>toF (rs.getD m 0):=fun i j hi hj he=>by
 refine chosen_distinct hc ht i j hi hj ?_
 simp only [chosen_xs hc hi,chosen_xs hc hj] at he
 exact he
theorem poly_thru {xs v:Nat→F} (h1:1 ≤ k) (hd:distinct k xs):∃ y:Nat→F,(∀ i,i < k→pval k y (xs i) = v i)∧∀ x,pval k y x = fsum (fun j=>fmul (lagF k xs x j) (v j)) k:=by
 obtain ⟨y,_,hy,_⟩:=newton_at (ys:=v) hd (k - 1) (by omega)
 rw [show k - 1 + 1 = k by omega] at hy
 refine ⟨y,fun i hi=>hy i (by omega),fun x=>?_⟩
 rw [lagrange hd]
 exact fsum_congr fun j hj=>by rw [hy j (by omega)]
theorem inv_apply (hc:chooseOk k total rs) (h1:1 ≤ k) (hk:k ≤ total) (ht:total ≤ 255) (v:Nat→F) {i:Nat} (hi:i < k) :
    fsum (fun j=>fmul (matL k (invL total k rs) i j) (v j)) k = fsum (fun j=>fmul (lagF k (fun m=>toF (rs.getD m 0)) (xsF i) j) (v j)) k:=by
  obtain ⟨y,hy,hL⟩:=poly_thru (v:=v) h1 (chosen_dist hc ht)
  obtain ⟨g1,g2,_,g4⟩:=gen_facts h1 hk ht
  have hlen:=sel_len' hc g1
  have hr:=rows_gen hc h1 hk ht
  obtain ⟨t2,he⟩:=inv_ech hlen (sel_bytes g2)
  rw [hr] at he
  obtain ⟨m1,_⟩:=inv_mul he
  have hS:∀ j,j < k→∀ m,m < k→matL k (selL (genL k total) k rs) j m = lagF k xsF (toF (rs.getD j 0)) m:=fun j hj m hm=>by
    have hrj:=hc.2.2 (rs.getD j 0) (getD_mem (by rw [hc.1]; exact hj))
    unfold matL
    rw [sel_get g1 hc.2.2 (by rw [hc.1]; exact hj) hm,chosen_xs hc hj,← g4 (rs.getD j 0).toNat m (by omega) hm]
    rfl
  have hx:distinct k xsF:=xs_distinct (by omega)
  rw [← hL]
  calc fsum (fun j=>fmul (matL k (invL total k rs) i j) (v j)) k
      = fsum (fun j=>fsum (fun m=>fmul (fmul (matL k (invL total k rs) i j) (matL k (selL (genL k total) k rs) j m)) (pval k y (xsF m))) k) k:=by
        refine fsum_congr fun j hj=>?_
        rw [← hy j hj,lagrange hx (x:=toF (rs.getD j 0)),← fsum_mul]
        exact fsum_congr fun m hm=>by rw [hS j hj m hm,fmul_assoc]
    _ = fsum (fun m=>fmul (del m i) (pval k y (xsF m))) k:=by
        rw [fsum_swap]
        refine fsum_congr fun m hm=>?_
        rw [fsum_mul',del_symm]
        congr 1
        exact m1 i m hi hm
    _ = pval k y (xsF i):=fsum_del (f:=fun m=>pval k y (xsF m)) hi
theorem seg_row {m:List Int} {i j:Nat} (hj:j < k):toF ((seg m (i * k) k).getD j 0) = matL k m i j:=by
 unfold matL seg
 rw [List.getD_eq_getElem?_getD,List.getElem?_take,if_pos hj,List.getElem?_drop,List.getD_eq_getElem?_getD]
theorem inv_bytes (hc:chooseOk k total rs) (h1:1 ≤ k) (hk:k ≤ total) (ht:total ≤ 255):(invL total k rs).length = k * k∧bytesL (invL total k rs):=by
 obtain ⟨g1,g2,_,_⟩:=gen_facts h1 hk ht
 obtain ⟨t2,_⟩:=inv_ech (sel_len' hc g1) (sel_bytes g2)
 exact ⟨t2.lb,t2.bb⟩
theorem seg_byte {l:List Int} {o n:Nat} (h:bytesL l):bytesL (seg l o n):=fun x hx=>h x (List.mem_of_mem_drop (List.mem_of_mem_take hx))
theorem col_val (hc:chooseOk k total rs) (h1:1 ≤ k) (hk:k ≤ total) (ht:total ≤ 255) {f:Nat→List Int} {l i:Nat} (hf:∀ j,j < k→(f j).length = l∧bytesL (f j)) (hi:i < k) :
  mixN f (seg (invL total k rs) (i * k) k) l k = mixN f (wgtL rs (i:Int)) l k:=by
 refine mix_eq (seg_byte (inv_bytes hc h1 hk ht).2) wgt_byte hf hf fun c hcl=>?_
 rw [fsum_congr fun m hm=>by rw [seg_row hm],inv_apply hc h1 hk ht _ hi]
 exact fsum_congr fun m hm=>by rw [wgt_at (by rw [hc.1]; exact hm),hc.1]; rfl
theorem comb_val (hc:chooseOk k total rs) (h1:1 ≤ k) (hk:k ≤ total) (ht:total ≤ 255) {f:Nat→List Int} {l r:Nat} (hf:∀ j,j < k→(f j).length = l∧bytesL (f j)) (hr:r < total) {g:Nat→List Int} (hg:∀ i,i < k→g i = mixN f (wgtL rs (i:Int)) l k) :
  mixN g (seg (genL k total) (r * k) k) l k = mixN f (wgtL rs (r:Int)) l k:=by
 obtain ⟨g1,g2,_,g4⟩:=gen_facts h1 hk ht
 have hgf:∀ i,i < k→(g i).length = l∧bytesL (g i):=fun i hi=>by
  obtain ⟨a,b,_⟩:=mixN_facts (wgt_byte (xs:=rs) (x:=(i:Int))) k hf
  rw [hg i hi]; exact ⟨a,b⟩
 refine mix_eq (seg_byte g2) wgt_byte hgf hf fun c hcl=>?_
 obtain ⟨y,hy,hL⟩:=poly_thru (v:=fun j=>toF ((f j).getD c 0)) h1 (chosen_dist hc ht)
 have hx:distinct k xsF:=xs_distinct (by omega)
 have hv:∀ x:Int,fsum (fun m=>fmul (toF ((wgtL rs x).getD m 0)) (toF ((f m).getD c 0))) k = pval k y (toF x):=fun x=>by
  rw [hL]
  exact fsum_congr fun m hm=>by rw [wgt_at (by rw [hc.1]; exact hm),hc.1]
 rw [hv,show toF ((r:Nat):Int) = xsF r from rfl,lagrange hx]
 refine fsum_congr fun m hm=>?_
 rw [seg_row hm,g4 r m hr hm,hg m hm,(mixN_facts wgt_byte k hf).2.2 c hcl,hv]
 rfl
end Go.Proofs

set_option linter.unusedSimpArgs false
set_option linter.unusedVariables false
namespace Go.Proofs
open Go Go.Eng
set_option maxRecDepth 100000
end Go.Proofs

set_option linter.unusedSimpArgs false
set_option linter.unusedVariables false
namespace Go.Proofs
open Go Go.Eng
set_option maxRecDepth 100000
end Go.Proofs

set_option linter.unusedSimpArgs false
set_option linter.unusedVariables false
set_option maxRecDepth 100000
namespace Go.Proofs
open Go Go.Eng

end Go.Proofs

set_option linter.unusedSimpArgs false
set_option linter.unusedVariables false
namespace Go.Proofs
open Go Go.Eng
set_option maxRecDepth 100000
structure PcIn (h:Hp) (D:Rows') (k total n:Int):Prop where
 k1:1 ≤ k
 k2:k ≤ total
 k3:total ≤ 255
 kn:k ≤ n
 sol:solPre h D k total n
 idx:∀ j,j < n.toNat→0 ≤ pcI D j∧pcI D j < total
 len:∀ j,j < n.toNat→pcN h D j = pcN h D 0
 fs:∀ j,j < n.toNat→(pcD h D j).length = pcN h D 0∧bytesL (pcD h D j)
variable {h:Hp} {D:Rows'} {k total n:Int}
theorem PcIn.f (p:PcIn h D k total n):∀ j,j < k.toNat→(pcD h D j).length = pcN h D 0∧bytesL (pcD h D j):=fun j hj=>p.fs j (by have:=p.kn; omega)
theorem PcIn.cols (p:PcIn h D k total n) {hc:Hp} {C:Rows'} (ht:tabV hc (tvs C) k.toNat (solM h D total.toNat k.toNat)) :
  (∀ j,j < k.toNat→rdB hc (tvs C j)∧(colF hc C j).length = (colF hc C 0).length)∧(colF hc C 0).length = pcN h D 0∧∀ r:Int,0 ≤ r→r < total→mixN (colF hc C) (seg (genL k.toNat total.toNat) (r.toNat * k.toNat) k.toNat) (colF hc C 0).length k.toNat = valLr h D k.toNat r:=by
 have h1:=p.k1
 have h2:=p.k2
 have h3:=p.k3
 have hch:=p.sol.2.2.2.2.1
 have hcol:∀ j,j < k.toNat→rdB hc (tvs C j)∧colF hc C j = solM h D total.toNat k.toNat j:=fun j hj=>by
  obtain ⟨d,hr,hd,hB⟩:=tab_at ht hj
  exact ⟨⟨d,hr,hB⟩,by rw [colF,rdL_eq hr,hd]⟩
 have hl:∀ j,j < k.toNat→(colF hc C j).length = pcN h D 0:=fun j hj=>by
  rw [(hcol j hj).2,solM,mixN_len]
 refine ⟨fun j hj=>⟨(hcol j hj).1,by rw [hl j hj,hl 0 (by omega)]⟩,hl 0 (by omega),fun r r0 r1=>?_⟩
 rw [hl 0 (by omega),comb_val hch (by omega) (by omega) (by omega) (f:=pcD h D) p.f (by omega) (r:=r.toNat) (fun i hi=>by
  rw [(hcol i hi).2,solM,col_val hch (by omega) (by omega) (by omega) p.f hi]),Int.toNat_of_nonneg r0]
 rfl
theorem PcIn.value (p:PcIn h D k total n):(∀ j:Nat,(j:Int) < k→0 ≤ pcI D j∧pcI D j < 256)∧(idxL D k.toNat).Nodup∧pcN h D 0 ≤ 9000∧(∀ j:Nat,(j:Int) < k→pcN h D j = pcN h D 0)∧pcOk h D k.toNat:=by
 have h1:=p.k1
 have h2:=p.k2
 have h3:=p.k3
 have h4:=p.kn
 have h5:=p.sol.2.2.2.2.2.1
 refine ⟨fun j hj=>?_,p.sol.2.2.2.2.1.2.1,by omega,fun j hj=>p.len j (by omega),fun j hj=>p.sol.2.2.2.1 j (by omega)⟩
 have:=p.idx j (by omega)
 omega
end Go.Proofs

set_option linter.unusedSimpArgs false
set_option linter.unusedVariables false
namespace Go.Proofs
open Go Go.Eng
set_option maxRecDepth 100000
variable {h h':Hp} {D D':Rows'} {k total n index len e e':Int} {b b':Bool}
end Go.Proofs

set_option linter.unusedSimpArgs false
set_option linter.unusedVariables false
namespace Go.Proofs
open Go Go.Eng
end Go.Proofs

set_option linter.unusedSimpArgs false
set_option linter.unusedVariables false
namespace Go.Proofs
open Go Go.Eng
theorem chkE_zero {k n t s l i:Int} {D:List (List Int)} {m:List Int} (h:chkE k n t s l D i m = 0):manOk k n t s l = true∧0 ≤ i∧i < t∧(m.length:Int) = plenI k s∧sha (pieceIn i ++ m) = D.getD i.toNat []:=by
 unfold chkE at h
 by_cases h1:manOk k n t s l = false
 ·rw [if_pos h1] at h; omega
 rw [if_neg h1] at h
 by_cases h2:i < 0∨t ≤ i
 ·rw [if_pos h2] at h; omega
 rw [if_neg h2] at h
 by_cases h3:(m.length:Int) ≠ plenI k s
 ·rw [if_pos h3] at h; omega
 rw [if_neg h3] at h
 by_cases h4:sha (pieceIn i ++ m) ≠ D.getD i.toNat []
 ·rw [if_pos h4] at h; omega
 exact ⟨by simpa using h1,by omega,by omega,by omega,by simpa using h4⟩
theorem manOk_iff {k n t s l:Int}:manOk k n t s l = true↔1 ≤ k∧k ≤ n∧n ≤ t∧t ≤ 255∧0 ≤ s∧s ≤ 8192∧l = t:=by
 simp [manOk,sizes3,and_assoc]
theorem plenI_eq {k s:Int} (hk:1 ≤ k) (hs:0 ≤ s):plenI k s = plI k s:=by
 obtain ⟨k,rfl⟩:=Int.eq_ofNat_of_zero_le (show 0 ≤ k by omega)
 obtain ⟨s,rfl⟩:=Int.eq_ofNat_of_zero_le hs
 have e:((s:Int) + (k:Int) - 1) = ((s + k - 1:Nat):Int):=by omega
 unfold plenI plI pieceLen
 rw [e,Int.ofNat_tdiv]
 simp
end Go.Proofs

set_option linter.unusedSimpArgs false
set_option linter.unusedVariables false
set_option maxRecDepth 100000
namespace Go.Proofs
open Go Go.Eng

end Go.Proofs

set_option linter.unusedSimpArgs false
set_option linter.unusedVariables false
set_option maxRecDepth 100000
namespace Go.Proofs
open Go Go.Eng

end Go.Proofs

set_option linter.unusedSimpArgs false
set_option linter.unusedVariables false
namespace Go.Proofs
open Go Go.Eng
set_option maxRecDepth 100000
end Go.Proofs

set_option linter.unusedSimpArgs false
set_option linter.unusedVariables false
namespace Go.Proofs
open Go Go.Eng
set_option maxRecDepth 20000
end Go.Proofs

set_option linter.unusedSimpArgs false
set_option linter.unusedVariables false
namespace Go.Eng
open Go Go.ChangeShapes Go.WideShapes Go.ChangeAt Go.RowKit

structure Grew (W w':World):Prop where
 os:w'.os = W.os
 out:w'.output = W.output
 blk:∀ (b:Nat) (o:Obj),W.heap[b]? = some o→w'.heap[b]? = some o

theorem Grew.block {W w':World} (h:Grew W w') {i:Nat} (hi:i < W.heap.size):w'.heap[i]? = W.heap[i]?:=by
 rw [Array.getElem?_eq_getElem hi]; exact h.blk i _ (Array.getElem?_eq_getElem hi)

theorem Grew.kept {W w':World} (h:Grew W w') (may:MemPlace→Prop):W.keptBut w' may:=by
 refine ⟨h.os,h.out,fun i hi=>?_⟩
 rw [h.block hi,Array.getElem?_eq_getElem hi]
 cases W.heap[i] <;> simp

theorem Grew.trodAll {H:Type} {enc:TypeId × Value→H} {P:Program} {W W':World} (hg:Grew W W') (hl:laidOutB P = true) {sp:Nat→Bool}:∀ {ts:List TypeId} {vs:List Value} {ds:List (DataW H)} {ps:List MemPlace},
  (∀ t ∈ ts,P.readableRec t = true∧t < P.types.size)→DataW.TrodAll enc P W 0 (fun _=>true) true ts vs ds ps→(∀ p ∈ ps,p.block < W.heap.size)→(∀ p ∈ ps,sp p.block = true) →
  DataW.TrodAll enc P W' 0 sp true ts vs ds ps
 | [],[],[],_,_,h,_,_=>h
 | _ :: _,_ :: _,_ :: _,_,hT,⟨p,q,h1,h2,e⟩,hlt,hs=>by
  subst e
  refine ⟨p,q,?_,Grew.trodAll hg hl (fun t ht=>hT t (List.mem_cons_of_mem _ ht)) h2 (fun x hx=>hlt x (List.mem_append_right _ hx)) (fun x hx=>hs x (List.mem_append_right _ hx)),rfl⟩
  have hr:=hT _ (List.mem_cons_self ..)
  refine WideElems.Trod_stays hl hr.1 hr.2 h1 (fun x hx=>?_) (fun x hx=>hs x (List.mem_append_left _ hx))
  have hb:=hg.block (hlt x (List.mem_append_left _ hx))
  cases x with
  | cell b o=>exact World.cell?_of_block (w:=W) hb
  | map b=>exact hb

theorem law_calls {P:Program} {c:Ctr} (hok:c.ok P) (hheap:c.heap = []) (halts:∀ al ∈ c.alts,al.ret = .one (.vbool (.bl true))) {ρ:Env} (hg:ρ.good) (W:World)
  (hro:∀ x ∈ c.ro,x.roden ρ (fun b=>W.heap[b]?)) (hpre:c.pre ρ) :
  Calls P c.fn (c.args.map (SV.den ρ)).toArray W fun e W'=>e = .returned (.bool true)∧Grew W W':=by
 have h:=hok.2 ρ W ⟨fun b=>W.heap[b]?,W.os,W.output⟩ Hp.emp hg (Hp.disj_emp _)
  ⟨fun b o hb=>by simpa [Hp.union,Hp.emp] using hb,rfl,rfl⟩ (by rw [hheap]; trivial) hro hpre
 refine h.mono fun e w' hq=>?_
 obtain ⟨ai,al,ρ',hal,_,_,rfl,_,hO,_,_,hsub,hwi⟩:=hq
 refine ⟨by rw [halts al (List.mem_of_getElem? hal)]; rfl,⟨hwi.1,hwi.2,fun b o hb=>hsub b o ?_⟩⟩
 simp [Hp.union,hb]

theorem law_post {H:Type} {enc:TypeId × Value→H} {P:Program} {f:Func} {s:ChangeSpec} {W W':World} {args:Array Value} {ds gs:List (DataW H)} {before:List MemPlace} {bt:TypeId}
  (hl:laidOutB P = true) (hT:∀ t ∈ f.params.toList,P.readableRec t = true∧t < P.types.size) (hvars:s.vars = []) (hrt:f.resultTypes = #[bt]) (hbt:P.underlying bt = some .bool)
  (hfn:∀ ds':List (DataW H),ds'.length = f.params.size→s.fn H ds' = { results:=[.lit (.bool true)],args:=ds' })
  (hW:DataW.Whole enc P f.params.toList s.vars false W args.toList ds gs before) (hg:Grew W W'):s.post enc P f false true false false W args (.bool true) W':=by
 have hlt:=hW.lt
 have hW0:=hW
 obtain ⟨p,q,hA,hV,hpq,hz,hn⟩:=hW
 rw [hvars] at hV
 obtain ⟨rfl,rfl⟩:=trodVars_none hV
 have hlen:ds.length = f.params.size:=by
  have:∀ {ts:List TypeId} {vs:List Value} {ds:List (DataW H)} {ps:List MemPlace},DataW.TrodAll enc P W 0 (fun _=>true) true ts vs ds ps→ds.length = ts.length:=by
   intro ts
   induction ts with
   | nil=>intro vs ds ps h; cases vs <;> cases ds <;> simp_all [DataW.TrodAll]
   | cons t ts ih =>
    intro vs ds ps h
    cases vs <;> cases ds <;> simp_all [DataW.TrodAll]
    obtain ⟨p,q,_,h2,_⟩:=h
    exact ih h2
  simpa using this hA
 have hlt':∀ x ∈ p,x.block < W.heap.size:=fun x hx=>hlt x (by rw [hpq]; exact List.mem_append_left _ hx)
 refine ⟨ds,[],before,[],p,[],hW0,?_,?_,?_,hg.kept _,fun h=>by cases h⟩
 ·rw [List.append_nil,hfn ds hlen,hrt]
  exact ⟨[],[],⟨1,by simp [DataW.trod,hbt,Value.cells]⟩,rfl,rfl⟩
 ·rw [List.append_nil,hfn ds hlen]
  exact hg.trodAll hl hT hA hlt' (fun x hx=>by simpa using hlt' x hx)
 ·rw [List.append_nil,hfn ds hlen,hvars]
  rfl

theorem law_call {H:Type} {enc:TypeId × Value→H} {P:Program} {f:Func} {s:ChangeSpec} {c:Ctr} {W:World} {args:Array Value} {ds gs:List (DataW H)} {before:List MemPlace} {bt:TypeId} {ρ:Env}
  (hok:c.ok P) (hheap:c.heap = []) (halts:∀ al ∈ c.alts,al.ret = .one (.vbool (.bl true)))
  (hl:laidOutB P = true) (hT:∀ t ∈ f.params.toList,P.readableRec t = true∧t < P.types.size) (hvars:s.vars = []) (hrt:f.resultTypes = #[bt]) (hbt:P.underlying bt = some .bool)
  (hfn:∀ ds':List (DataW H),ds'.length = f.params.size→s.fn H ds' = { results:=[.lit (.bool true)],args:=ds' })
  (hW:DataW.Whole enc P f.params.toList s.vars false W args.toList ds gs before)
  (hg:ρ.good) (hargs:args = (c.args.map (SV.den ρ)).toArray) (hro:∀ x ∈ c.ro,x.roden ρ (fun b=>W.heap[b]?)) (hpre:c.pre ρ) :
  Calls P c.fn args W fun e W'=>∃ v,e = .returned v∧s.post enc P f false true false false W args v W':=by
 rw [hargs]
 refine (law_calls hok hheap halts hg W hro hpre).mono fun e W' ⟨he,hgr⟩=>⟨_,he,?_⟩
 rw [← hargs]
 exact law_post hl hT hvars hrt hbt hfn hW hgr
end Go.Eng

set_option linter.unusedSimpArgs false
set_option linter.unusedVariables false
namespace Go.Eng
open Go Go.ChangeShapes Go.WideShapes Go.ChangeAt Go.RowKit

section
variable {H:Type} {enc:TypeId × Value→H} {P:Program} {w:World} {base:Nat} {spare:Nat→Bool} {held:Bool}

end

end Go.Eng

set_option linter.unusedSimpArgs false
set_option linter.unusedVariables false
namespace Go.Eng
open Go Go.Proofs
def makeGC:Ctr:={ makeC with pre:=fun ρ=>makeC.pre ρ∧sizes3 (ρ 2).i (ρ 3).i (ρ 4).i = true∧(ρ 6).i ≤ 8192,alts:=[{ k:=9,ret:=.tup [(true,manT 2 3 4 6 12 13 4 14),(false,[.vslice 15 (.lit 0) (.var 4) (.var 16) 2]),eRet (.lit 0)],heap:=[fHp 17,dgsHp 13 18 14,.arr 15 86 kPiece (.var 19) (.var 16),.abs 20 10],post:=fun ρ=>fieldD (ρ 17).d∧sizes3 (ρ 2).i (ρ 3).i (ρ 4).i = true∧(ρ 6).i ≤ 8192∧(ρ 19).d.length = (ρ 4).i.toNat∧encAt (ρ 20).h (ρ 19).d (ρ 4).i.toNat (encP (ρ 2).i.toNat (ρ 4).i.toNat (bI (ρ 8).d))∧rowL (ρ 12).d 32 = sha (bI (ρ 8).d)∧dgsOk (ρ 18).d∧dgs (ρ 18).d = madeAt (encP (ρ 2).i.toNat (ρ 4).i.toNat (bI (ρ 8).d)) (ρ 4).i.toNat }] }
end Go.Eng

set_option linter.unusedSimpArgs false
set_option linter.unusedVariables false
set_option maxRecDepth 100000
namespace Go.Proofs
open Go Go.Eng

end Go.Proofs

set_option linter.unusedSimpArgs false
set_option linter.unusedVariables false
namespace Go.Proofs
open Go Go.Eng
section
variable {k total:Nat} {data:List Int}
end
section
variable {h:Hp} {P:Rows'} {k n t s l:Int} {data:List Int} {G:Rows'}
theorem made_get {f:Nat→List Int} {m:Nat} {x:Int} (x0:0 ≤ x) (x1:x < m):(madeAt f m).getD x.toNat [] = sha (pieceIn x ++ f x.toNat):=by
 unfold madeAt
 rw [List.getD_eq_getElem?_getD,List.getElem?_map,List.getElem?_range (by omega)]
 simp only [Option.map_some,Option.getD_some]
 rw [Int.toNat_of_nonneg x0]
theorem made_chk {x:Int} {m:List Int} (hM:manOk k n t s l = true) (hb:bytesL data) (hsz:s = data.length) (hG:dgs G = madeAt (encP k.toNat t.toNat data) t.toNat) (x0:0 ≤ x) (x1:x < t) (hm:m = encP k.toNat t.toNat data x.toNat):chkE k n t s l (dgs G) x m = 0:=by
 obtain ⟨k1,k2,k3,k4,s0,s1,htl⟩:=manOk_iff.1 hM
 have hl:(m.length:Int) = plenI k s:=by
  rw [hm,(enc_facts (by omega) (by omega) (by omega) hb _).1,plenI_eq k1 s0,hsz]
  unfold plI
  simp
 have hS:sha (pieceIn x ++ m) = (dgs G).getD x.toNat []:=by rw [hm,hG,made_get x0 (by omega)]
 rw [chkE,if_neg (by rw [hM]; decide),if_neg (by omega),if_neg (fun h=>h hl),if_neg (fun h=>h hS)]
end
section
variable {h h':Hp} {D S L:Rows'} {n i:Nat} {t:Int} {f:Nat→List Int}
end
section
variable {h h0:Hp} {P P0 G R:Rows'} {k n t s l x e y m:Int} {data O:List Int} {N N':Nat}
end
section
variable {h h':Hp} {S L:Rows'} {i n j i':Int} {t:Int} {f:Nat→List Int}
end
section
variable {h h0:Hp} {D D0 G:Rows'} {T:Nat} {t:Int} {f:Nat→List Int} {N N' M:Nat}
end
end Go.Proofs

set_option linter.unusedSimpArgs false
set_option linter.unusedVariables false
namespace Go.Proofs
open Go Go.Eng
theorem makeG_ok:makeGC.ok Tryz.prog:=by
 refine ⟨make_ok.1,fun ρ w hF hO hg hd hw hs hro hp=>?_⟩
 obtain ⟨hp,hs3,h8⟩:=hp
 refine (make_ok.2 ρ w hF hO hg hd hw hs hro hp).mono fun e w' h=>?_
 obtain ⟨ai,al,ρ',h1,h2,hρ,h4,hpost,h6⟩:=h
 match ai,h1 with
 | 0,h1 =>
  obtain rfl:=(Option.some.inj h1).symm
  exfalso
  have e2:=hρ 2 (by decide)
  have e3:=hρ 3 (by decide)
  have e4:=hρ 4 (by decide)
  have e6:=hρ 6 (by decide)
  obtain ⟨_,⟨h1,_⟩ | ⟨_,h1,_⟩⟩:=hpost
  ·change sizes3 (ρ' 2).i (ρ' 3).i (ρ' 4).i = false at h1
   rw [e2,e3,e4,hs3] at h1; cases h1
  ·change 8192 < (ρ' 6).i at h1
   rw [e6] at h1; omega
 | 1,h1 =>
  obtain rfl:=(Option.some.inj h1).symm
  exact ⟨0,_,ρ',rfl,h2,hρ,h4,hpost,h6⟩
 | ai + 2,h1=>simp [makeC] at h1
set_option maxRecDepth 20000
end Go.Proofs

set_option linter.unusedSimpArgs false
set_option linter.unusedVariables false
set_option maxRecDepth 100000
namespace Go.Proofs
open Go Go.Eng

end Go.Proofs

set_option linter.unusedSimpArgs false
set_option linter.unusedVariables false
namespace Go.Proofs
open Go Go.Eng
set_option maxRecDepth 100000
end Go.Proofs

set_option linter.unusedSimpArgs false
set_option linter.unusedVariables false
namespace Go.Eng
open Go Go.Proofs
end Go.Eng

set_option linter.unusedSimpArgs false
set_option linter.unusedVariables false
set_option maxRecDepth 100000
namespace Go.Proofs
open Go Go.Eng

end Go.Proofs

set_option linter.unusedSimpArgs false
set_option linter.unusedVariables false
namespace Go.Proofs
open Go Go.Eng
set_option maxRecDepth 20000
set_option maxRecDepth 100000
end Go.Proofs

set_option linter.unusedSimpArgs false
set_option linter.unusedVariables false
namespace Go.Eng
open Go Go.Proofs
def ints (d:Rows'):List Int:=d.map fun row=>rowI row 0
def kBool16:List CK:=List.replicate 16 .bool
def b16 (n:Nat):SV:=.agg ((List.range 16).map fun i=>.c1 .vbool (.var (n + i)))
def peerIs (x:Int):Bool:=decide (0 ≤ x∧x < 16)
def peerC:Ctr:={ fn := 100,nv:=1,args:=[iv .i64 (.var 0)],heap:=[],ro:=[],pre:=fun _=>True,alts:=[{ k:=1,ret:=.one (.vbool (.var 1)),heap:=[],post:=fun ρ=>(ρ 1).b = peerIs (ρ 0).i }] }
def iHpA (r:Nat):SH:=iHp r (r + 3) (r + 4)
def intsIn (ρ:Env) (r:Nat):Prop:=(ρ (r + 1)).i = (ρ (r + 3)).d.length∧(ρ (r + 1)).i ≤ 1000000000000∧∀ row ∈ (ρ (r + 3)).d,row.length = 1
def boolsP (l:List Bool) (L:List Int):Prop:=l.length = 16∧∀ j:Nat,j < 16→(l.getD j false = true↔(j:Int) ∈ L)
def setC:Ctr:={ fn := 82,nv:=5,args:=[bS 0],heap:=[],ro:=[iHpA 0],pre:=fun ρ=>intsIn ρ 0,alts:=[
 { k:=16,ret:=b16 5,heap:=[],post:=fun ρ=>boolsP [(ρ 5).b,(ρ 6).b,(ρ 7).b,(ρ 8).b,(ρ 9).b,(ρ 10).b,(ρ 11).b,(ρ 12).b,(ρ 13).b,(ρ 14).b,(ρ 15).b,(ρ 16).b,(ρ 17).b,(ρ 18).b,(ρ 19).b,(ρ 20).b] (ints (ρ 3).d) }] }
def seenTo (s:Rows') (l:List Int) (n:Nat):Prop:=(∃ row,s = [row]∧row.length = 16)∧∀ x:Int,0 ≤ x→x < 16→(cellXB s x.toNat = true↔x ∈ l.take n)
def setI:Inv:={ key:=2,nv:=3,env:=[(2,.one (.vptr 1000 (.lit 0) 16 0)),(5,bS 0),(6,iv .i64 (.var 1)),(7,iv .i64 (.var 1002))],heap:=[.arr 1000 157 kBool16 (.var 1001) (.lit 1)],inv:=(fun ρ=>0 ≤ (ρ 1002).i∧(ρ 1002).i ≤ (ρ 1).i∧seenTo (ρ 1001).d (ints (ρ 3).d) (ρ 1002).i.toNat),mu:=(fun ρ=>((ρ 1).i - (ρ 1002).i).toNat) }
def scoreF (o:List Int) (p:Int):List Int:=sha (o ++ [p % 256])
def scoreC:Ctr:={ fn := 24,nv:=4,ip:=[gIp 2,(1005,9)],args:=[dgV 0,iv .i64 (.var 1)],heap:=[],ro:=[gHp 2 3],pre:=fun ρ=>allM (rowL (ρ 0).d 32)∧gOk ρ 2 3 gR,alts:=[
 { k:=1,ret:=dgV 4,heap:=[],post:=fun ρ=>rowL (ρ 4).d 32 = scoreF (rowL (ρ 0).d 32) (ρ 1).i }] }
def scoreRC:Ctr:={ fn := 25,nv:=4,ip:=[gIs 2],args:=[dgV 0,iv .i64 (.var 1)],heap:=[],ro:=[gHp 2 3],pre:=fun ρ=>allM (rowL (ρ 0).d 32)∧gOk ρ 2 3 gS,alts:=[
 { k:=1,ret:=dgV 4,heap:=[],post:=fun ρ=>rowL (ρ 4).d 32 = scoreF (rowL (ρ 0).d 32) (ρ 1).i }] }
def rkV (p d:Nat):SV:=.agg (.vint .i64 (.var p) :: cellsT .u8 d 32)
def rankC:Ctr:={ fn := 80,nv:=4,ip:=[gIp 2],args:=[dgV 0,iv .i64 (.var 1)],heap:=[],ro:=[gHp 2 3],pre:=fun ρ=>allM (rowL (ρ 0).d 32)∧gOk ρ 2 3 gR,alts:=[
 { k:=2,ret:=.agg (.vint .i64 (.var 1) :: cellsT .u8 4 32),heap:=[],post:=fun ρ=>rowL (ρ 4).d 32 = scoreF (rowL (ρ 0).d 32) (ρ 1).i }] }
def cmpL:List Int→List Int→Int
 | [],[]=>0
 | [],_ :: _=>-1
 | _ :: _,[]=>1
 | a :: l,b :: m=>if a < b then -1 else if b < a then 1 else cmpL l m
def kRk:List CK:=.int .i64 :: List.replicate 32 (.int .u8)
def bcmpC:Ctr:={ fn := 118,nv:=4,args:=[.one (.vslice 0 (.lit 1) (.lit 32) (.lit 32) 1),.one (.vslice 1 (.lit 1) (.lit 32) (.lit 32) 1)],heap:=[],ro:=[.arr 0 153 kRk (.var 2) (.lit 1),.arr 1 153 kRk (.var 3) (.lit 1)],pre:=fun ρ=>oneRow (ρ 2).d 33∧oneRow (ρ 3).d 33∧allM ((rowL (ρ 2).d 33).drop 1)∧allM ((rowL (ρ 3).d 33).drop 1),alts:=[
 { k:=1,ret:=iv .i64 (.var 4),heap:=[],post:=fun ρ=>(ρ 4).i = cmpL ((rowL (ρ 2).d 33).drop 1) ((rowL (ρ 3).d 33).drop 1) }] }
def compareC:Ctr:={ fn := 81,nv:=4,args:=[rkV 0 1,rkV 2 3],heap:=[],ro:=[],pre:=fun ρ=>allM (rowL (ρ 1).d 32)∧allM (rowL (ρ 3).d 32),alts:=[
 { k:=1,ret:=iv .i64 (.var 4),heap:=[],post:=fun ρ=>(ρ 4).i = if cmpL (rowL (ρ 1).d 32) (rowL (ρ 3).d 32) = 0 then arithOf .sub .i64 (ρ 0).i (ρ 2).i else cmpL (rowL (ρ 1).d 32) (rowL (ρ 3).d 32) }] }
def betF (o:List Int) (a b:Int):Bool:=if scoreF o a = scoreF o b then decide (a < b) else decide (cmpL (scoreF o a) (scoreF o b) < 0)
def betterC:Ctr:={ fn := 26,nv:=5,ip:=[gIp 3],args:=[dgV 0,iv .i64 (.var 1),iv .i64 (.var 2)],heap:=[],ro:=[gHp 3 4],pre:=fun ρ=>allM (rowL (ρ 0).d 32)∧gOk ρ 3 4 gR,alts:=[
 { k:=1,ret:=.one (.vbool (.var 5)),heap:=[],post:=fun ρ=>(ρ 5).b = betF (rowL (ρ 0).d 32) (ρ 1).i (ρ 2).i }] }
def betterRC:Ctr:={ fn := 27,nv:=5,ip:=[gIs 3],args:=[dgV 0,iv .i64 (.var 1),iv .i64 (.var 2)],heap:=[],ro:=[gHp 3 4],pre:=fun ρ=>allM (rowL (ρ 0).d 32)∧gOk ρ 3 4 gS,alts:=[
 { k:=1,ret:=.one (.vbool (.var 5)),heap:=[],post:=fun ρ=>(ρ 5).b = betF (rowL (ρ 0).d 32) (ρ 1).i (ρ 2).i }] }
end Go.Eng

set_option linter.unusedSimpArgs false
set_option linter.unusedVariables false
namespace Go.Proofs
open Go Go.Eng Go.RowKit Go.Lib
theorem run_bcmp {P:Program} (a b:Addr) (xs ys:List Int) (c c':Nat) (w:World) (hx:∀ j x,xs[j]? = some x→w.cell? (a.add j) = some (.int .u8 x)) (hy:∀ j x,ys[j]? = some x→w.cell? (b.add j) = some (.int .u8 x)) :
  (Extern.BytealgCompare.compare #[.slice (some a) xs.length c,.slice (some b) ys.length c']).run P w = .ok (.int .i64 (compareBytes (Lib.bytesOf xs) (Lib.bytesOf ys))) w:=by
 have h1:=run_loadBytesX (P:=P) w xs a .empty hx
 have h2:=run_loadBytesX (P:=P) w ys b .empty hy
 change Sem.run P (do pure (goInt (Extern.BytealgCompare.cmp (← Extern.Bytes.bytesOf (.slice (some a) xs.length c)) (← Extern.Bytes.bytesOf (.slice (some b) ys.length c'))))) w = _
 simp only [Extern.Bytes.bytesOf,Sem.run_bind,h1,h2,Sem.run_pure,Result.andThen]
 rw [cmp_eq]
 simp [goInt]
set_option maxHeartbeats 1000000 in
set_option maxRecDepth 100000 in
theorem bcmp_calls (a b:Addr) (xs ys:List Int) (c c':Nat) (w:World) (hx:∀ j x,xs[j]? = some x→w.cell? (a.add j) = some (.int .u8 x)) (hy:∀ j x,ys[j]? = some x→w.cell? (b.add j) = some (.int .u8 x)) :
  Calls Tryz.prog 118 #[.slice (some a) xs.length c,.slice (some b) ys.length c'] w fun e w'=>e = .returned (.int .i64 (compareBytes (Lib.bytesOf xs) (Lib.bytesOf ys)))∧w' = w:=by
 go_enter Tryz.func118,Tryz.ntmps118
 go_wp2
 rw [run_callFunc_extern Tryz.func139 (by kernel_rfl) (by kernel_rfl) (by kernel_rfl) (e:=Extern.BytealgCompare.compare) (by kernel_rfl),run_bcmp a b xs ys c c' w hx hy]
 simp only [Result.andThen]
 rw [Oper.upon_value]
 go_wp2
 go_ret
 exact ⟨rfl,rfl⟩
end Go.Proofs

set_option linter.unusedSimpArgs false
set_option linter.unusedVariables false
namespace Go.Eng
open Go Go.Proofs
def cmpF (o:List Int) (a b:Int):Int:=if scoreF o a = scoreF o b then a - b else cmpL (scoreF o a) (scoreF o b)
def rankedP (o:List Int) (s out:List Int):Prop:=out.Perm s∧out.Pairwise fun a b=>betF o a b = true
def peersL (l:List Int):List Int:=((List.range 16).map fun (i:Nat)=>(i:Int)).filter fun x=>decide (x ∈ l)
end Go.Eng
namespace Go.Proofs
open Go Go.Eng
theorem cmpL_zero:∀ {a b:List Int},cmpL a b = 0↔a = b
 | [],[]=>by simp [cmpL]
 | [],_ :: _=>by simp [cmpL]
 | _ :: _,[]=>by simp [cmpL]
 | x :: a,y :: b=>by
  unfold cmpL
  by_cases h1:x < y
  ·rw [if_pos h1]
   constructor
   ·intro h; omega
   ·intro h; injection h; omega
  ·rw [if_neg h1]
   by_cases h2:y < x
   ·rw [if_pos h2]
    constructor
    ·intro h; omega
    ·intro h; injection h; omega
   ·rw [if_neg h2,cmpL_zero]
    have:x = y:=by omega
    subst this
    simp
theorem cmpL_neg:∀ {a b:List Int},cmpL b a = - cmpL a b
 | [],[]=>rfl
 | [],_ :: _=>rfl
 | _ :: _,[]=>rfl
 | x :: a,y :: b=>by
  unfold cmpL
  by_cases h1:x < y
  ·rw [if_pos h1,if_neg (by omega),if_pos h1]; rfl
  ·by_cases h2:y < x
   ·rw [if_pos h2,if_neg h1,if_pos h2]
   ·rw [if_neg h2,if_neg h1,if_neg h1,if_neg h2]; exact cmpL_neg
theorem cmpL_trans:∀ {a b c:List Int},cmpL a b < 0→cmpL b c < 0→cmpL a c < 0
 | [],[],_,h,_=>by simp [cmpL] at h
 | [],_ :: _,[],_,h=>by simp [cmpL] at h
 | [],_ :: _,_ :: _,_,_=>by simp [cmpL]
 | _ :: _,[],_,h,_=>by simp [cmpL] at h
 | _ :: _,_ :: _,[],_,h=>by simp [cmpL] at h
 | x :: a,y :: b,z :: c,h1,h2=>by
  unfold cmpL at h1 h2 ⊢
  by_cases a1:x < y
  ·by_cases b1:y < z
   ·rw [if_pos (by omega)]; decide
   ·rw [if_neg b1] at h2
    by_cases b2:z < y
    ·rw [if_pos b2] at h2; omega
    ·rw [if_pos (by omega)]; decide
  ·rw [if_neg a1] at h1
   by_cases a2:y < x
   ·rw [if_pos a2] at h1; omega
   ·rw [if_neg a2] at h1
    have e:x = y:=by omega
    subst e
    by_cases b1:x < z
    ·rw [if_pos b1]; decide
    ·rw [if_neg b1] at h2 ⊢
     by_cases b2:z < x
     ·rw [if_pos b2] at h2; omega
     ·rw [if_neg b2] at h2 ⊢
      exact cmpL_trans h1 h2
variable {o:List Int} {a b c:Int}
theorem bet_cmp:betF o a b = decide (cmpF o a b < 0):=by
 unfold betF cmpF
 by_cases h:scoreF o a = scoreF o b
 ·rw [if_pos h,if_pos h]
  exact decide_eq_decide.2 ⟨fun h=>by omega,fun h=>by omega⟩
 ·rw [if_neg h,if_neg h]
theorem cmpF_zero:cmpF o a b = 0↔a = b:=by
 unfold cmpF
 by_cases h:scoreF o a = scoreF o b
 ·rw [if_pos h]; omega
 ·rw [if_neg h,cmpL_zero]
  exact ⟨fun h'=>(h h').elim,fun h'=>by rw [h']⟩
theorem cmpF_neg:cmpF o b a = - cmpF o a b:=by
 unfold cmpF
 by_cases h:scoreF o a = scoreF o b
 ·rw [if_pos h,if_pos h.symm]; omega
 ·rw [if_neg h,if_neg (fun h'=>h h'.symm),cmpL_neg]
theorem cmpF_trans (h1:cmpF o a b < 0) (h2:cmpF o b c < 0):cmpF o a c < 0:=by
 unfold cmpF at h1 h2 ⊢
 by_cases e1:scoreF o a = scoreF o b
 ·rw [if_pos e1] at h1
  by_cases e2:scoreF o b = scoreF o c
  ·rw [if_pos e2] at h2
   rw [if_pos (e1.trans e2)]; omega
  ·rw [if_neg e2] at h2
   rw [if_neg (by rw [e1]; exact e2),e1]; exact h2
 ·rw [if_neg e1] at h1
  by_cases e2:scoreF o b = scoreF o c
  ·rw [if_neg (by rw [← e2]; exact e1),← e2]; exact h1
  ·rw [if_neg e2] at h2
   have h3:=cmpL_trans h1 h2
   by_cases e3:scoreF o a = scoreF o c
   ·rw [e3,cmpL_zero.2 rfl] at h3; omega
   ·rw [if_neg e3]; exact h3
theorem bet_trans (h1:betF o a b = true) (h2:betF o b c = true):betF o a c = true:=by
 rw [bet_cmp,decide_eq_true_eq] at h1 h2 ⊢
 exact cmpF_trans h1 h2
theorem bet_irrefl:betF o a a = false:=by
 rw [bet_cmp,cmpF_zero.2 rfl]; rfl
theorem bet_asymm (h:betF o a b = true):betF o b a = false:=by
 rw [bet_cmp,decide_eq_true_eq] at h
 rw [bet_cmp,decide_eq_false_iff_not,cmpF_neg]; omega
theorem bet_total (h:a ≠ b):betF o a b = true∨betF o b a = true:=by
 rw [bet_cmp,bet_cmp,decide_eq_true_eq,decide_eq_true_eq,cmpF_neg (a:=a) (b:=b)]
 have:¬ cmpF o a b = 0:=fun h'=>h (cmpF_zero.1 h')
 omega
theorem ranked_eq:∀ {l m:List Int},l.Perm m→(l.Pairwise fun a b=>betF o a b = true)→(m.Pairwise fun a b=>betF o a b = true)→l = m
 | [],m,h,_,_=>(List.Perm.nil_eq h)
 | x :: l,[],h,_,_=>by simp at h
 | x :: l,y :: m,h,h1,h2=>by
  rw [List.pairwise_cons] at h1 h2
  have hxy:x = y:=by
   rcases List.mem_cons.1 (h.subset (List.mem_cons_self ..)) with e | e
   ·exact e
   ·rcases List.mem_cons.1 (h.symm.subset (List.mem_cons_self ..)) with e' | e'
    ·exact e'.symm
    ·have a1:=h2.1 x e
     have a2:=h1.1 y e'
     rw [bet_asymm a1] at a2; cases a2
  subst hxy
  rw [ranked_eq (List.Perm.cons_inv h) h1.2 h2.2]
theorem ranked_uniq {s l m:List Int} (h1:rankedP o s l) (h2:rankedP o s m):l = m:=ranked_eq (h1.1.trans h2.1.symm) h1.2 h2.2
end Go.Proofs

set_option linter.unusedSimpArgs false
set_option linter.unusedVariables false
namespace Go.Proofs
open Go Go.Eng
theorem u8_lt {x y:Int} (hx:0 ≤ x∧x < 256) (hy:0 ≤ y∧y < 256):x.toNat.toUInt8 < y.toNat.toUInt8↔x < y:=by
 rw [UInt8.lt_iff_toNat_lt]
 have h1:x.toNat.toUInt8.toNat = x.toNat:=by
  show x.toNat % 256 = x.toNat
  omega
 have h2:y.toNat.toUInt8.toNat = y.toNat:=by
  show y.toNat % 256 = y.toNat
  omega
 rw [h1,h2]; omega
theorem cmp_bytes:∀ {xs ys:List Int},allM xs→allM ys→Lib.compareBytes (Lib.bytesOf xs) (Lib.bytesOf ys) = cmpL xs ys
 | [],[],_,_=>rfl
 | [],_ :: _,_,_=>rfl
 | _ :: _,[],_,_=>rfl
 | x :: xs,y :: ys,hx,hy=>by
  have h1:=u8_lt (hx x (List.mem_cons_self ..)) (hy y (List.mem_cons_self ..))
  have h2:=u8_lt (hy y (List.mem_cons_self ..)) (hx x (List.mem_cons_self ..))
  have h3:=cmp_bytes (xs:=xs) (ys:=ys) (fun z hz=>hx z (List.mem_cons_of_mem _ hz)) (fun z hz=>hy z (List.mem_cons_of_mem _ hz))
  show (if x.toNat.toUInt8 < y.toNat.toUInt8 then -1 else if y.toNat.toUInt8 < x.toNat.toUInt8 then 1 else Lib.compareBytes (Lib.bytesOf xs) (Lib.bytesOf ys)) = _
  rw [h3,cmpL]
  simp only [h1,h2]
theorem ck_int {k:IntKind} {v:Value} (h:CK.fits (.int k) v = true):∃ z,v = .int k z:=by
 cases v <;> simp [CK.fits] at h
 subst h
 exact ⟨_,rfl⟩
theorem rk_cells {c:Array Value} {b o:Nat} {ty:TypeId} {fr:Nat × Nat} {d:Rows'} {w:World} (hb:w.heap[b]? = some (.cells c ty fr)) (hd:oneRow d 33) (hr:rowsAt c o kRk d) :
  ∀ j x,((rowL d 33).drop 1)[j]? = some x→w.cell? ((⟨b,o + 1,none⟩:Addr).add j) = some (.int .u8 x):=fun j x hx=>by
 obtain ⟨row,rfl,hl⟩:=hd
 obtain ⟨hf,hc⟩:=hr 0 row rfl
 rw [List.getElem?_drop] at hx
 have hj:1 + j < 33:=by
  rcases Nat.lt_or_ge (1 + j) 33 with h | h
  ·exact h
  ·rw [List.getElem?_eq_none (by simp [rowL]; omega)] at hx; cases hx
 have hx2:x = vInt (row[1 + j]?.getD .nilFunc):=by
  rw [rowL,List.getElem?_map,List.getElem?_range hj] at hx
  have:=(Option.some.inj hx).symm
  rw [this]; rfl
 have hrow:row[1 + j]? = some row[1 + j]:=List.getElem?_eq_getElem (by omega)
 have hk:kRk[1 + j]? = some (.int .u8):=by
  have:kRk = .int .i64 :: List.replicate 32 (.int .u8):=rfl
  rw [this,Nat.add_comm,List.getElem?_cons_succ,List.getElem?_replicate,if_pos (by omega)]
 obtain ⟨z,hz⟩:=ck_int (hf.2 (1 + j) (.int .u8) row[1 + j] hk hrow)
 have hv:=hc (1 + j) row[1 + j] hrow
 rw [hx2,hrow]
 simp only [Option.getD_some]
 rw [hz] at hv ⊢
 have e:((⟨b,o + 1,none⟩:Addr).add j) = ⟨b,o + 1 + j,none⟩:=by
  unfold Addr.add
  by_cases hj0:j = 0
  ·subst hj0; simp
  ·simp [hj0]
 rw [e]
 simp only [World.cell?,hb]
 show c[o + 1 + j]? = _
 rw [show o + 1 + j = o + 0 * kRk.length + (1 + j) by omega,hv]
 rfl
theorem bcmp_ok:bcmpC.ok Tryz.prog:=by
 refine ⟨fun args w=>Tryz.call118 args w,fun ρ w hF hO hg hd hw hs hro hp=>?_⟩
 obtain ⟨h2,h3,b2,b3⟩:=hp
 have hr0:=hro _ (List.mem_cons_self ..)
 have hr1:=hro _ (List.mem_cons_of_mem _ (List.mem_cons_self ..))
 obtain ⟨row2,e2,l2⟩:=h2
 obtain ⟨row3,e3,l3⟩:=h3
 rcases hr0 with h | ⟨b,o,c,ty,fr,q1,q2,q3⟩
 ·have h:(ρ 2).d = []:=h
  rw [e2] at h; cases h
 rcases hr1 with h | ⟨b',o',c',ty',fr',p1,p2,p3⟩
 ·have h:(ρ 3).d = []:=h
  rw [e3] at h; cases h
 have hsub:∀ {x:Nat} {X:Obj},hF.h x = some X→w.heap[x]? = some X:=fun h=>hw.1 _ _ (by simp [Hp.union,h])
 have hx:=rk_cells (w:=w) (hsub q2) ⟨row2,e2,l2⟩ q3
 have hy:=rk_cells (w:=w) (hsub p2) ⟨row3,e3,l3⟩ p3
 have hlen:∀ d:Rows',((rowL d 33).drop 1).length = 32:=fun d=>by simp [rowL]
 have hc:=bcmp_calls ⟨b,o + 1,none⟩ ⟨b',o' + 1,none⟩ _ _ 32 32 w hx hy
 rw [hlen,hlen] at hc
 have hargs:(List.map (SV.den ρ) bcmpC.args).toArray = #[.slice (some ⟨b,o + 1,none⟩) 32 32,.slice (some ⟨b',o' + 1,none⟩) 32 32]:=by
  simp [bcmpC,SV.den,T.den,O0.den,O3.den,q1,p1,addrOf]
 rw [hargs]
 refine hc.mono fun e w' h=>?_
 obtain ⟨rfl,rfl⟩:=h
 refine ⟨0,_,ρ.set 4 { i:=cmpL ((rowL (ρ 2).d 33).drop 1) ((rowL (ρ 3).d 33).drop 1) },rfl,fun n=>?_,fun n hn=>Env.set_ne _ _ (by have:n < 4:=hn; omega),?_,?_,hO,hd,trivial,hw.1,hw.2⟩
 ·by_cases hn:n = 4
  ·subst hn; rw [Env.set_same]; exact ⟨rfl,fun row hr=>(by cases hr)⟩
  ·rw [Env.set_ne _ _ hn]; exact hg n
 ·rw [cmp_bytes b2 b3]; rfl
 ·rfl
end Go.Proofs

set_option linter.unusedSimpArgs false
set_option linter.unusedVariables false
set_option maxRecDepth 100000
namespace Go.Proofs
open Go Go.Eng

def o_peer:Out:=(.br (.cmp .geq (.var 0) (.lit 0))
 (.ret 0 (sg 1 [bt 1 (.cmp .lss (.var 0) (.lit 16))]))
 (.ret 0 (sg 1 [bt 1 (.bl false)])))
theorem o_peer_eq:treeOf ⟨Tryz.prog,peerC,[],[]⟩ 100000 Tryz.f100 = o_peer:=by kernel_rfl
theorem peer_of (hd:∀ c ∈ ([]:List Ctr),c.ok Tryz.prog) (h:∀ ρ:Env,ρ.good→(peerC).pre ρ→o_peer.den ⟨Tryz.prog,peerC,[],[]⟩ ρ):(peerC).ok Tryz.prog :=
 ok_of_tree Tryz.func100 (fun a w=>Tryz.call100 a w) hd 100000 (fun ρ hg hp=>by rw [o_peer_eq]; exact h ρ hg hp)
@[simp] def o_set_1:T:=.rcons (.vbool (.bcell (.var 7) (.lit 0) 0)) (.rcons (.vbool (.bcell (.var 7) (.lit 0) 1)) (.rcons (.vbool (.bcell (.var 7) (.lit 0) 2)) (.rcons (.vbool (.bcell (.var 7) (.lit 0) 3)) (.rcons (.vbool (.bcell (.var 7) (.lit 0) 4)) (.rcons (.vbool (.bcell (.var 7) (.lit 0) 5)) (.rcons (.vbool (.bcell (.var 7) (.lit 0) 6)) (.rcons (.vbool (.bcell (.var 7) (.lit 0) 7)) (.rcons (.vbool (.bcell (.var 7) (.lit 0) 8)) (.rcons (.vbool (.bcell (.var 7) (.lit 0) 9)) (.rcons (.vbool (.bcell (.var 7) (.lit 0) 10)) (.rcons (.vbool (.bcell (.var 7) (.lit 0) 11)) (.rcons (.vbool (.bcell (.var 7) (.lit 0) 12)) (.rcons (.vbool (.bcell (.var 7) (.lit 0) 13)) (.rcons (.vbool (.bcell (.var 7) (.lit 0) 14)) (.rcons (.vbool (.bcell (.var 7) (.lit 0) 15)) .rnil)))))))))))))))
def o_set:Out:=(.fresh 5 (.need (.cmp .leq (.lit 0) (.var 1)) (.inv 0 6 (sg 1000 [bt 1001 (.rcons (.vbool (.bl false)) (.rcons (.vbool (.bl false)) (.rcons (.vbool (.bl false)) (.rcons (.vbool (.bl false)) (.rcons (.vbool (.bl false)) (.rcons (.vbool (.bl false)) (.rcons (.vbool (.bl false)) (.rcons (.vbool (.bl false)) (.rcons (.vbool (.bl false)) (.rcons (.vbool (.bl false)) (.rcons (.vbool (.bl false)) (.rcons (.vbool (.bl false)) (.rcons (.vbool (.bl false)) (.rcons (.vbool (.bl false)) (.rcons (.vbool (.bl false)) (.rcons (.vbool (.bl false)) .rnil)))))))))))))))),bt 1002 (.lit 0),bg 1000 5]) (.fresh 6 (.fresh 7 (.fresh 8 (.hyp 0 6 (.br (.cmp .lss (.var 8) (.var 1))
 (.need (.cmp .leq (.lit 0) (.var 8)) (.need (.cmp .lss (.var 8) (.dlen (.var 3))) (.pre 0 (sg 0 [bt 0 (.icell (.var 3) (.var 8) 0)]) (.both (.fresh 9 (.post 0 0 (sg 0 [bt 0 (.icell (.var 3) (.var 8) 0)]) 9 (.br (.var 9)
 (.need (.cmp .leq (.lit 0) (.icell (.var 3) (.var 8) 0)) (.need (.cmp .lss (.icell (.var 3) (.var 8) 0) (.lit 16)) (.need (.cmp .lss (.lit 0) (.dlen (.var 7))) (.back 0 6 (sg 1000 [bt 1001 (.c3 (.xput 0) (.var 7) (.icell (.var 3) (.var 8) 0) (.vbool (.bl true))),bt 1002 (.arith .add .i64 (.var 8) (.lit 1)),bg 1000 6])))))
 (.back 0 6 (sg 1000 [bv 1001 7,bt 1002 (.arith .add .i64 (.var 8) (.lit 1)),bg 1000 6]))))) .top))))
 (.need (.cmp .lss (.lit 0) (.dlen (.var 7))) (.ret 0 (sg 5 [bt 20 (.bcell (.dput (.var 7) (.lit 0) 0 o_set_1) (.lit 0) 15),bt 19 (.bcell (.dput (.var 7) (.lit 0) 0 o_set_1) (.lit 0) 14),bt 18 (.bcell (.dput (.var 7) (.lit 0) 0 o_set_1) (.lit 0) 13),bt 17 (.bcell (.dput (.var 7) (.lit 0) 0 o_set_1) (.lit 0) 12),bt 16 (.bcell (.dput (.var 7) (.lit 0) 0 o_set_1) (.lit 0) 11),bt 15 (.bcell (.dput (.var 7) (.lit 0) 0 o_set_1) (.lit 0) 10),bt 14 (.bcell (.dput (.var 7) (.lit 0) 0 o_set_1) (.lit 0) 9),bt 13 (.bcell (.dput (.var 7) (.lit 0) 0 o_set_1) (.lit 0) 8),bt 12 (.bcell (.dput (.var 7) (.lit 0) 0 o_set_1) (.lit 0) 7),bt 11 (.bcell (.dput (.var 7) (.lit 0) 0 o_set_1) (.lit 0) 6),bt 10 (.bcell (.dput (.var 7) (.lit 0) 0 o_set_1) (.lit 0) 5),bt 9 (.bcell (.dput (.var 7) (.lit 0) 0 o_set_1) (.lit 0) 4),bt 8 (.bcell (.dput (.var 7) (.lit 0) 0 o_set_1) (.lit 0) 3),bt 7 (.bcell (.dput (.var 7) (.lit 0) 0 o_set_1) (.lit 0) 2),bt 6 (.bcell (.dput (.var 7) (.lit 0) 0 o_set_1) (.lit 0) 1),bt 5 (.bcell (.dput (.var 7) (.lit 0) 0 o_set_1) (.lit 0) 0)])))))))))))
theorem o_set_eq:treeOf ⟨Tryz.prog,setC,[peerC],[setI]⟩ 100000 Tryz.f82 = o_set:=by kernel_rfl
theorem set_of (hd:∀ c ∈ ([peerC]:List Ctr),c.ok Tryz.prog) (h:∀ ρ:Env,ρ.good→(setC).pre ρ→o_set.den ⟨Tryz.prog,setC,[peerC],[setI]⟩ ρ):(setC).ok Tryz.prog :=
 ok_of_tree Tryz.func82 (fun a w=>Tryz.call82 a w) hd 100000 (fun ρ hg hp=>by rw [o_set_eq]; exact h ρ hg hp)
@[simp] def o_score_1:Sg:=sg 0 [bv 7 3,bv 5 8,bt 4 (.dapp (.dapp (.rcons (x8 0 0) .rnil) (.dapp (.rcons (x8 1 0) .rnil) (.dapp (.rcons (x8 2 0) .rnil) (.dapp (.rcons (x8 3 0) .rnil) (.dapp (.rcons (x8 4 0) .rnil) (.dapp (.rcons (x8 5 0) .rnil) (.dapp (.rcons (x8 6 0) .rnil) (.dapp (.rcons (x8 7 0) .rnil) (.dapp (.rcons (x8 8 0) .rnil) (.dapp (.rcons (x8 9 0) .rnil) (.dapp (.rcons (x8 10 0) .rnil) (.dapp (.rcons (x8 11 0) .rnil) (.dapp (.rcons (x8 12 0) .rnil) (.dapp (.rcons (x8 13 0) .rnil) (.dapp (.rcons (x8 14 0) .rnil) (.dapp (.rcons (x8 15 0) .rnil) (.dapp (.rcons (x8 16 0) .rnil) (.dapp (.rcons (x8 17 0) .rnil) (.dapp (.rcons (x8 18 0) .rnil) (.dapp (.rcons (x8 19 0) .rnil) (.dapp (.rcons (x8 20 0) .rnil) (.dapp (.rcons (x8 21 0) .rnil) (.dapp (.rcons (x8 22 0) .rnil) (.dapp (.rcons (x8 23 0) .rnil) (.dapp (.rcons (x8 24 0) .rnil) (.dapp (.rcons (x8 25 0) .rnil) (.dapp (.rcons (x8 26 0) .rnil) (.dapp (.rcons (x8 27 0) .rnil) (.dapp (.rcons (x8 28 0) .rnil) (.dapp (.rcons (x8 29 0) .rnil) (.dapp (.rcons (x8 30 0) .rnil) (.rcons (x8 31 0) .rnil)))))))))))))))))))))))))))))))) (.rcons (.vint .u8 (.conv .u8 (.var 1))) .rnil)),bv 3 8,bt 2 (.lit 33),bt 1 (.lit 0),bg 0 7,bg 6 2]
def o_score:Out:=(.fresh 4 (.fresh 5 (.fresh 6 (.need (.cmp .leq (.tims (.lit 1) (.lit 33)) (.lit 140737488355328)) (.fresh 7 (.fresh 8 (.know (.cmp .leq (.lit 33) (.var 8)) (.pre 0 o_score_1 (.both (.fresh 9 (.post 0 0 o_score_1 9 (.ret 0 (sg 4 [bt 4 (r8 9)])))) .top)))))))))
theorem o_score_eq:treeOf ⟨Tryz.prog,scoreC,[sha256C],[]⟩ 100000 Tryz.f24 = o_score:=by kernel_rfl
theorem score_of (hd:∀ c ∈ ([sha256C]:List Ctr),c.ok Tryz.prog) (h:∀ ρ:Env,ρ.good→(scoreC).pre ρ→o_score.den ⟨Tryz.prog,scoreC,[sha256C],[]⟩ ρ):(scoreC).ok Tryz.prog :=
 ok_of_tree Tryz.func24 (fun a w=>Tryz.call24 a w) hd 100000 (fun ρ hg hp=>by rw [o_score_eq]; exact h ρ hg hp)
@[simp] def o_scoreR_1:Sg:=sg 0 [bv 6 3,bv 4 11,bt 3 (.dapp (.dapp (.rcons (x8 0 0) .rnil) (.dapp (.rcons (x8 1 0) .rnil) (.dapp (.rcons (x8 2 0) .rnil) (.dapp (.rcons (x8 3 0) .rnil) (.dapp (.rcons (x8 4 0) .rnil) (.dapp (.rcons (x8 5 0) .rnil) (.dapp (.rcons (x8 6 0) .rnil) (.dapp (.rcons (x8 7 0) .rnil) (.dapp (.rcons (x8 8 0) .rnil) (.dapp (.rcons (x8 9 0) .rnil) (.dapp (.rcons (x8 10 0) .rnil) (.dapp (.rcons (x8 11 0) .rnil) (.dapp (.rcons (x8 12 0) .rnil) (.dapp (.rcons (x8 13 0) .rnil) (.dapp (.rcons (x8 14 0) .rnil) (.dapp (.rcons (x8 15 0) .rnil) (.dapp (.rcons (x8 16 0) .rnil) (.dapp (.rcons (x8 17 0) .rnil) (.dapp (.rcons (x8 18 0) .rnil) (.dapp (.rcons (x8 19 0) .rnil) (.dapp (.rcons (x8 20 0) .rnil) (.dapp (.rcons (x8 21 0) .rnil) (.dapp (.rcons (x8 22 0) .rnil) (.dapp (.rcons (x8 23 0) .rnil) (.dapp (.rcons (x8 24 0) .rnil) (.dapp (.rcons (x8 25 0) .rnil) (.dapp (.rcons (x8 26 0) .rnil) (.dapp (.rcons (x8 27 0) .rnil) (.dapp (.rcons (x8 28 0) .rnil) (.dapp (.rcons (x8 29 0) .rnil) (.dapp (.rcons (x8 30 0) .rnil) (.rcons (x8 31 0) .rnil)))))))))))))))))))))))))))))))) (.rcons (.vint .u8 (.conv .u8 (.var 1))) .rnil)),bv 2 11,bt 1 (.lit 33),bg 0 10,bg 5 2]
def o_scoreR:Out:=(.fresh 4 (.fresh 5 (.fresh 6 (.need (.cmp .leq (.tims (.lit 1) (.lit 32)) (.lit 140737488355328)) (.fresh 7 (.fresh 8 (.fresh 9 (.need (.cmp .leq (.tims (.lit 1) (.lit 33)) (.lit 140737488355328)) (.fresh 10 (.fresh 11 (.pre 0 o_scoreR_1 (.both (.fresh 12 (.post 0 0 o_scoreR_1 12 (.ret 0 (sg 4 [bt 4 (r8 12)])))) .top))))))))))))
theorem o_scoreR_eq:treeOf ⟨Tryz.prog,scoreRC,[sumRC],[]⟩ 100000 Tryz.f25 = o_scoreR:=by kernel_rfl
theorem scoreR_of (hd:∀ c ∈ ([sumRC]:List Ctr),c.ok Tryz.prog) (h:∀ ρ:Env,ρ.good→(scoreRC).pre ρ→o_scoreR.den ⟨Tryz.prog,scoreRC,[sumRC],[]⟩ ρ):(scoreRC).ok Tryz.prog :=
 ok_of_tree Tryz.func25 (fun a w=>Tryz.call25 a w) hd 100000 (fun ρ hg hp=>by rw [o_scoreR_eq]; exact h ρ hg hp)
def o_rank:Out:=(.fresh 4 (.fresh 5 (.pre 0 (sg 0 [bv 3 3,bv 1 1,bt 0 (r8 0),bg 2 2]) (.both (.fresh 6 (.post 0 0 (sg 0 [bv 3 3,bv 1 1,bt 0 (r8 0),bg 2 2]) 6 (.ret 0 (sg 4 [bt 4 (r8 6)])))) .top))))
theorem o_rank_eq:treeOf ⟨Tryz.prog,rankC,[scoreC],[]⟩ 100000 Tryz.f80 = o_rank:=by kernel_rfl
theorem rank_of (hd:∀ c ∈ ([scoreC]:List Ctr),c.ok Tryz.prog) (h:∀ ρ:Env,ρ.good→(rankC).pre ρ→o_rank.den ⟨Tryz.prog,rankC,[scoreC],[]⟩ ρ):(rankC).ok Tryz.prog :=
 ok_of_tree Tryz.func80 (fun a w=>Tryz.call80 a w) hd 100000 (fun ρ hg hp=>by rw [o_rank_eq]; exact h ρ hg hp)
def o_compare:Out:=(.fresh 4 (.fresh 5 (.both (.pre 0 (sg 0 [bt 3 (.rcons (.vint .i64 (.var 2)) (r8 3)),bt 2 (.rcons (.vint .i64 (.var 0)) (r8 1)),bg 1 5,bg 0 4]) (.both (.fresh 6 (.post 0 0 (sg 0 [bt 3 (.rcons (.vint .i64 (.var 2)) (r8 3)),bt 2 (.rcons (.vint .i64 (.var 0)) (r8 1)),bg 1 5,bg 0 4]) 6 (.br (.cmp .neq (.var 6) (.lit 0))
 (.ret 0 (sg 4 [bv 4 6]))
 (.ret 0 (sg 4 [bt 4 (.arith .sub .i64 (.var 0) (.var 2))]))))) .top)) .top)))
theorem o_compare_eq:treeOf ⟨Tryz.prog,compareC,[bcmpC],[]⟩ 100000 Tryz.f81 = o_compare:=by kernel_rfl
theorem compare_of (hd:∀ c ∈ ([bcmpC]:List Ctr),c.ok Tryz.prog) (h:∀ ρ:Env,ρ.good→(compareC).pre ρ→o_compare.den ⟨Tryz.prog,compareC,[bcmpC],[]⟩ ρ):(compareC).ok Tryz.prog :=
 ok_of_tree Tryz.func81 (fun a w=>Tryz.call81 a w) hd 100000 (fun ρ hg hp=>by rw [o_compare_eq]; exact h ρ hg hp)
@[simp] def o_better_3:Out:=.fresh 10 (.both (.fresh 11 (.both (.both (.br (.c2 .req (r8 6) (r8 8))
 (.ret 0 (sg 5 [bt 5 (.cmp .lss (.var 1) (.var 2))]))
 (.pre 1 (sg 0 [bv 2 2,bt 3 (r8 8),bv 0 1,bt 1 (r8 6)]) (.both (.fresh 12 (.post 1 0 (sg 0 [bv 2 2,bt 3 (r8 8),bv 0 1,bt 1 (r8 6)]) 12 (.ret 0 (sg 5 [bt 5 (.cmp .lss (.var 12) (.lit 0))])))) .top))) .top) .top)) .top)
@[simp] def o_better_2:Out:=.fresh 8 (.both (.pre 0 (sg 0 [bv 3 4,bv 1 2,bt 0 (r8 0),bg 2 3]) (.both (.fresh 9 (.fresh 10 (.post 0 0 (sg 0 [bv 3 4,bv 1 2,bt 0 (r8 0),bg 2 3]) 9 (.both (.fresh 11 (.both (.both (.br (.c2 .req (r8 6) (r8 9))
 (.ret 0 (sg 5 [bt 5 (.cmp .lss (.var 1) (.var 2))]))
 (.pre 1 (sg 0 [bv 2 2,bt 3 (r8 9),bv 0 1,bt 1 (r8 6)]) (.both (.fresh 12 (.post 1 0 (sg 0 [bv 2 2,bt 3 (r8 9),bv 0 1,bt 1 (r8 6)]) 12 (.ret 0 (sg 5 [bt 5 (.cmp .lss (.var 12) (.lit 0))])))) .top))) .top) .top)) .top)))) .top)) (.both (.fresh 9 (.both (.pre 0 (sg 0 [bv 3 4,bv 1 2,bt 0 (r8 0),bg 2 3]) (.both (.fresh 10 (.fresh 11 (.post 0 0 (sg 0 [bv 3 4,bv 1 2,bt 0 (r8 0),bg 2 3]) 10 (.both (.both (.br (.c2 .req (r8 6) (r8 10))
 (.ret 0 (sg 5 [bt 5 (.cmp .lss (.var 1) (.var 2))]))
 (.pre 1 (sg 0 [bv 2 2,bt 3 (r8 10),bv 0 1,bt 1 (r8 6)]) (.both (.fresh 12 (.post 1 0 (sg 0 [bv 2 2,bt 3 (r8 10),bv 0 1,bt 1 (r8 6)]) 12 (.ret 0 (sg 5 [bt 5 (.cmp .lss (.var 12) (.lit 0))])))) .top))) .top) .top)))) .top)) .top)) .top))
@[simp] def o_better_1:Out:=.fresh 6 (.both (.pre 0 (sg 0 [bv 3 4,bv 1 1,bt 0 (r8 0),bg 2 3]) (.both (.fresh 7 (.fresh 8 (.post 0 0 (sg 0 [bv 3 4,bv 1 1,bt 0 (r8 0),bg 2 3]) 7 (.both (.pre 0 (sg 0 [bv 3 4,bv 1 2,bt 0 (r8 0),bg 2 3]) (.both (.fresh 9 (.fresh 10 (.post 0 0 (sg 0 [bv 3 4,bv 1 2,bt 0 (r8 0),bg 2 3]) 9 (.both (.fresh 11 (.both (.both (.br (.c2 .req (r8 7) (r8 9))
 (.ret 0 (sg 5 [bt 5 (.cmp .lss (.var 1) (.var 2))]))
 (.pre 1 (sg 0 [bv 2 2,bt 3 (r8 9),bv 0 1,bt 1 (r8 7)]) (.both (.fresh 12 (.post 1 0 (sg 0 [bv 2 2,bt 3 (r8 9),bv 0 1,bt 1 (r8 7)]) 12 (.ret 0 (sg 5 [bt 5 (.cmp .lss (.var 12) (.lit 0))])))) .top))) .top) .top)) .top)))) .top)) (.both (.fresh 9 (.both (.pre 0 (sg 0 [bv 3 4,bv 1 2,bt 0 (r8 0),bg 2 3]) (.both (.fresh 10 (.fresh 11 (.post 0 0 (sg 0 [bv 3 4,bv 1 2,bt 0 (r8 0),bg 2 3]) 10 (.both (.both (.br (.c2 .req (r8 7) (r8 10))
 (.ret 0 (sg 5 [bt 5 (.cmp .lss (.var 1) (.var 2))]))
 (.pre 1 (sg 0 [bv 2 2,bt 3 (r8 10),bv 0 1,bt 1 (r8 7)]) (.both (.fresh 12 (.post 1 0 (sg 0 [bv 2 2,bt 3 (r8 10),bv 0 1,bt 1 (r8 7)]) 12 (.ret 0 (sg 5 [bt 5 (.cmp .lss (.var 12) (.lit 0))])))) .top))) .top) .top)))) .top)) .top)) .top))))) .top)) (.both (.fresh 7 (.both (.pre 0 (sg 0 [bv 3 4,bv 1 1,bt 0 (r8 0),bg 2 3]) (.both (.fresh 8 (.fresh 9 (.post 0 0 (sg 0 [bv 3 4,bv 1 1,bt 0 (r8 0),bg 2 3]) 8 (.both (.pre 0 (sg 0 [bv 3 4,bv 1 2,bt 0 (r8 0),bg 2 3]) (.both (.fresh 10 (.fresh 11 (.post 0 0 (sg 0 [bv 3 4,bv 1 2,bt 0 (r8 0),bg 2 3]) 10 (.both (.both (.br (.c2 .req (r8 8) (r8 10))
 (.ret 0 (sg 5 [bt 5 (.cmp .lss (.var 1) (.var 2))]))
 (.pre 1 (sg 0 [bv 2 2,bt 3 (r8 10),bv 0 1,bt 1 (r8 8)]) (.both (.fresh 12 (.post 1 0 (sg 0 [bv 2 2,bt 3 (r8 10),bv 0 1,bt 1 (r8 8)]) 12 (.ret 0 (sg 5 [bt 5 (.cmp .lss (.var 12) (.lit 0))])))) .top))) .top) .top)))) .top)) .top)))) .top)) .top)) .top))
def o_better:Out:=(.fresh 5 (.both (.pre 0 (sg 0 [bv 3 4,bv 1 1,bt 0 (r8 0),bg 2 3]) (.both (.fresh 6 (.fresh 7 (.post 0 0 (sg 0 [bv 3 4,bv 1 1,bt 0 (r8 0),bg 2 3]) 6 (.both (.pre 0 (sg 0 [bv 3 4,bv 1 2,bt 0 (r8 0),bg 2 3]) (.both (.fresh 8 (.fresh 9 (.post 0 0 (sg 0 [bv 3 4,bv 1 2,bt 0 (r8 0),bg 2 3]) 8 (.both o_better_3 (.both o_better_3 .top))))) .top)) (.both o_better_2 (.both o_better_2 .top)))))) .top)) (.both o_better_1 (.both o_better_1 .top))))
theorem o_better_eq:treeOf ⟨Tryz.prog,betterC,[rankC,compareC],[]⟩ 100000 Tryz.f26 = o_better:=by kernel_rfl
theorem better_of (hd:∀ c ∈ ([rankC,compareC]:List Ctr),c.ok Tryz.prog) (h:∀ ρ:Env,ρ.good→(betterC).pre ρ→o_better.den ⟨Tryz.prog,betterC,[rankC,compareC],[]⟩ ρ):(betterC).ok Tryz.prog :=
 ok_of_tree Tryz.func26 (fun a w=>Tryz.call26 a w) hd 100000 (fun ρ hg hp=>by rw [o_better_eq]; exact h ρ hg hp)
@[simp] def o_betterR_7:T:=.c1 .vbytes (.dapp (.rcons (x8 0 9) .rnil) (.dapp (.rcons (x8 1 9) .rnil) (.dapp (.rcons (x8 2 9) .rnil) (.dapp (.rcons (x8 3 9) .rnil) (.dapp (.rcons (x8 4 9) .rnil) (.dapp (.rcons (x8 5 9) .rnil) (.dapp (.rcons (x8 6 9) .rnil) (.dapp (.rcons (x8 7 9) .rnil) (.dapp (.rcons (x8 8 9) .rnil) (.dapp (.rcons (x8 9 9) .rnil) (.dapp (.rcons (x8 10 9) .rnil) (.dapp (.rcons (x8 11 9) .rnil) (.dapp (.rcons (x8 12 9) .rnil) (.dapp (.rcons (x8 13 9) .rnil) (.dapp (.rcons (x8 14 9) .rnil) (.dapp (.rcons (x8 15 9) .rnil) (.dapp (.rcons (x8 16 9) .rnil) (.dapp (.rcons (x8 17 9) .rnil) (.dapp (.rcons (x8 18 9) .rnil) (.dapp (.rcons (x8 19 9) .rnil) (.dapp (.rcons (x8 20 9) .rnil) (.dapp (.rcons (x8 21 9) .rnil) (.dapp (.rcons (x8 22 9) .rnil) (.dapp (.rcons (x8 23 9) .rnil) (.dapp (.rcons (x8 24 9) .rnil) (.dapp (.rcons (x8 25 9) .rnil) (.dapp (.rcons (x8 26 9) .rnil) (.dapp (.rcons (x8 27 9) .rnil) (.dapp (.rcons (x8 28 9) .rnil) (.dapp (.rcons (x8 29 9) .rnil) (.dapp (.rcons (x8 30 9) .rnil) (.rcons (x8 31 9) .rnil))))))))))))))))))))))))))))))))
@[simp] def o_betterR_6:T:=.c1 .vbytes (.dapp (.rcons (x8 0 8) .rnil) (.dapp (.rcons (x8 1 8) .rnil) (.dapp (.rcons (x8 2 8) .rnil) (.dapp (.rcons (x8 3 8) .rnil) (.dapp (.rcons (x8 4 8) .rnil) (.dapp (.rcons (x8 5 8) .rnil) (.dapp (.rcons (x8 6 8) .rnil) (.dapp (.rcons (x8 7 8) .rnil) (.dapp (.rcons (x8 8 8) .rnil) (.dapp (.rcons (x8 9 8) .rnil) (.dapp (.rcons (x8 10 8) .rnil) (.dapp (.rcons (x8 11 8) .rnil) (.dapp (.rcons (x8 12 8) .rnil) (.dapp (.rcons (x8 13 8) .rnil) (.dapp (.rcons (x8 14 8) .rnil) (.dapp (.rcons (x8 15 8) .rnil) (.dapp (.rcons (x8 16 8) .rnil) (.dapp (.rcons (x8 17 8) .rnil) (.dapp (.rcons (x8 18 8) .rnil) (.dapp (.rcons (x8 19 8) .rnil) (.dapp (.rcons (x8 20 8) .rnil) (.dapp (.rcons (x8 21 8) .rnil) (.dapp (.rcons (x8 22 8) .rnil) (.dapp (.rcons (x8 23 8) .rnil) (.dapp (.rcons (x8 24 8) .rnil) (.dapp (.rcons (x8 25 8) .rnil) (.dapp (.rcons (x8 26 8) .rnil) (.dapp (.rcons (x8 27 8) .rnil) (.dapp (.rcons (x8 28 8) .rnil) (.dapp (.rcons (x8 29 8) .rnil) (.dapp (.rcons (x8 30 8) .rnil) (.rcons (x8 31 8) .rnil))))))))))))))))))))))))))))))))
@[simp] def o_betterR_5:T:=.c1 .vbytes (.dapp (.rcons (x8 0 7) .rnil) (.dapp (.rcons (x8 1 7) .rnil) (.dapp (.rcons (x8 2 7) .rnil) (.dapp (.rcons (x8 3 7) .rnil) (.dapp (.rcons (x8 4 7) .rnil) (.dapp (.rcons (x8 5 7) .rnil) (.dapp (.rcons (x8 6 7) .rnil) (.dapp (.rcons (x8 7 7) .rnil) (.dapp (.rcons (x8 8 7) .rnil) (.dapp (.rcons (x8 9 7) .rnil) (.dapp (.rcons (x8 10 7) .rnil) (.dapp (.rcons (x8 11 7) .rnil) (.dapp (.rcons (x8 12 7) .rnil) (.dapp (.rcons (x8 13 7) .rnil) (.dapp (.rcons (x8 14 7) .rnil) (.dapp (.rcons (x8 15 7) .rnil) (.dapp (.rcons (x8 16 7) .rnil) (.dapp (.rcons (x8 17 7) .rnil) (.dapp (.rcons (x8 18 7) .rnil) (.dapp (.rcons (x8 19 7) .rnil) (.dapp (.rcons (x8 20 7) .rnil) (.dapp (.rcons (x8 21 7) .rnil) (.dapp (.rcons (x8 22 7) .rnil) (.dapp (.rcons (x8 23 7) .rnil) (.dapp (.rcons (x8 24 7) .rnil) (.dapp (.rcons (x8 25 7) .rnil) (.dapp (.rcons (x8 26 7) .rnil) (.dapp (.rcons (x8 27 7) .rnil) (.dapp (.rcons (x8 28 7) .rnil) (.dapp (.rcons (x8 29 7) .rnil) (.dapp (.rcons (x8 30 7) .rnil) (.rcons (x8 31 7) .rnil))))))))))))))))))))))))))))))))
@[simp] def o_betterR_4:T:=.c1 .vbytes (.dapp (.rcons (x8 0 6) .rnil) (.dapp (.rcons (x8 1 6) .rnil) (.dapp (.rcons (x8 2 6) .rnil) (.dapp (.rcons (x8 3 6) .rnil) (.dapp (.rcons (x8 4 6) .rnil) (.dapp (.rcons (x8 5 6) .rnil) (.dapp (.rcons (x8 6 6) .rnil) (.dapp (.rcons (x8 7 6) .rnil) (.dapp (.rcons (x8 8 6) .rnil) (.dapp (.rcons (x8 9 6) .rnil) (.dapp (.rcons (x8 10 6) .rnil) (.dapp (.rcons (x8 11 6) .rnil) (.dapp (.rcons (x8 12 6) .rnil) (.dapp (.rcons (x8 13 6) .rnil) (.dapp (.rcons (x8 14 6) .rnil) (.dapp (.rcons (x8 15 6) .rnil) (.dapp (.rcons (x8 16 6) .rnil) (.dapp (.rcons (x8 17 6) .rnil) (.dapp (.rcons (x8 18 6) .rnil) (.dapp (.rcons (x8 19 6) .rnil) (.dapp (.rcons (x8 20 6) .rnil) (.dapp (.rcons (x8 21 6) .rnil) (.dapp (.rcons (x8 22 6) .rnil) (.dapp (.rcons (x8 23 6) .rnil) (.dapp (.rcons (x8 24 6) .rnil) (.dapp (.rcons (x8 25 6) .rnil) (.dapp (.rcons (x8 26 6) .rnil) (.dapp (.rcons (x8 27 6) .rnil) (.dapp (.rcons (x8 28 6) .rnil) (.dapp (.rcons (x8 29 6) .rnil) (.dapp (.rcons (x8 30 6) .rnil) (.rcons (x8 31 6) .rnil))))))))))))))))))))))))))))))))
@[simp] def o_betterR_3:Out:=.fresh 8 (.both (.fresh 9 (.both (.both (.br (.c2 .req (r8 6) (r8 7))
 (.ret 0 (sg 5 [bt 5 (.cmp .lss (.var 1) (.var 2))]))
 (.ret 0 (sg 5 [bt 5 (.c2 .slt o_betterR_4 o_betterR_5)]))) .top) .top)) .top)
@[simp] def o_betterR_2:Out:=.fresh 7 (.both (.pre 0 (sg 0 [bv 3 4,bv 1 2,bt 0 (r8 0),bg 2 3]) (.both (.fresh 8 (.post 0 0 (sg 0 [bv 3 4,bv 1 2,bt 0 (r8 0),bg 2 3]) 8 (.both (.fresh 9 (.both (.both (.br (.c2 .req (r8 6) (r8 8))
 (.ret 0 (sg 5 [bt 5 (.cmp .lss (.var 1) (.var 2))]))
 (.ret 0 (sg 5 [bt 5 (.c2 .slt o_betterR_4 o_betterR_6)]))) .top) .top)) .top))) .top)) (.both (.fresh 8 (.both (.pre 0 (sg 0 [bv 3 4,bv 1 2,bt 0 (r8 0),bg 2 3]) (.both (.fresh 9 (.post 0 0 (sg 0 [bv 3 4,bv 1 2,bt 0 (r8 0),bg 2 3]) 9 (.both (.both (.br (.c2 .req (r8 6) (r8 9))
 (.ret 0 (sg 5 [bt 5 (.cmp .lss (.var 1) (.var 2))]))
 (.ret 0 (sg 5 [bt 5 (.c2 .slt o_betterR_4 o_betterR_7)]))) .top) .top))) .top)) .top)) .top))
@[simp] def o_betterR_1:Out:=.fresh 6 (.both (.pre 0 (sg 0 [bv 3 4,bv 1 1,bt 0 (r8 0),bg 2 3]) (.both (.fresh 7 (.post 0 0 (sg 0 [bv 3 4,bv 1 1,bt 0 (r8 0),bg 2 3]) 7 (.both (.pre 0 (sg 0 [bv 3 4,bv 1 2,bt 0 (r8 0),bg 2 3]) (.both (.fresh 8 (.post 0 0 (sg 0 [bv 3 4,bv 1 2,bt 0 (r8 0),bg 2 3]) 8 (.both (.fresh 9 (.both (.both (.br (.c2 .req (r8 7) (r8 8))
 (.ret 0 (sg 5 [bt 5 (.cmp .lss (.var 1) (.var 2))]))
 (.ret 0 (sg 5 [bt 5 (.c2 .slt o_betterR_5 o_betterR_6)]))) .top) .top)) .top))) .top)) (.both (.fresh 8 (.both (.pre 0 (sg 0 [bv 3 4,bv 1 2,bt 0 (r8 0),bg 2 3]) (.both (.fresh 9 (.post 0 0 (sg 0 [bv 3 4,bv 1 2,bt 0 (r8 0),bg 2 3]) 9 (.both (.both (.br (.c2 .req (r8 7) (r8 9))
 (.ret 0 (sg 5 [bt 5 (.cmp .lss (.var 1) (.var 2))]))
 (.ret 0 (sg 5 [bt 5 (.c2 .slt o_betterR_5 o_betterR_7)]))) .top) .top))) .top)) .top)) .top)))) .top)) (.both (.fresh 7 (.both (.pre 0 (sg 0 [bv 3 4,bv 1 1,bt 0 (r8 0),bg 2 3]) (.both (.fresh 8 (.post 0 0 (sg 0 [bv 3 4,bv 1 1,bt 0 (r8 0),bg 2 3]) 8 (.both (.pre 0 (sg 0 [bv 3 4,bv 1 2,bt 0 (r8 0),bg 2 3]) (.both (.fresh 9 (.post 0 0 (sg 0 [bv 3 4,bv 1 2,bt 0 (r8 0),bg 2 3]) 9 (.both (.both (.br (.c2 .req (r8 8) (r8 9))
 (.ret 0 (sg 5 [bt 5 (.cmp .lss (.var 1) (.var 2))]))
 (.ret 0 (sg 5 [bt 5 (.c2 .slt o_betterR_6 o_betterR_7)]))) .top) .top))) .top)) .top))) .top)) .top)) .top))
def o_betterR:Out:=(.fresh 5 (.both (.pre 0 (sg 0 [bv 3 4,bv 1 1,bt 0 (r8 0),bg 2 3]) (.both (.fresh 6 (.post 0 0 (sg 0 [bv 3 4,bv 1 1,bt 0 (r8 0),bg 2 3]) 6 (.both (.pre 0 (sg 0 [bv 3 4,bv 1 2,bt 0 (r8 0),bg 2 3]) (.both (.fresh 7 (.post 0 0 (sg 0 [bv 3 4,bv 1 2,bt 0 (r8 0),bg 2 3]) 7 (.both o_betterR_3 (.both o_betterR_3 .top)))) .top)) (.both o_betterR_2 (.both o_betterR_2 .top))))) .top)) (.both o_betterR_1 (.both o_betterR_1 .top))))
theorem o_betterR_eq:treeOf ⟨Tryz.prog,betterRC,[scoreRC],[]⟩ 100000 Tryz.f27 = o_betterR:=by kernel_rfl
theorem betterR_of (hd:∀ c ∈ ([scoreRC]:List Ctr),c.ok Tryz.prog) (h:∀ ρ:Env,ρ.good→(betterRC).pre ρ→o_betterR.den ⟨Tryz.prog,betterRC,[scoreRC],[]⟩ ρ):(betterRC).ok Tryz.prog :=
 ok_of_tree Tryz.func27 (fun a w=>Tryz.call27 a w) hd 100000 (fun ρ hg hp=>by rw [o_betterR_eq]; exact h ρ hg hp)
end Go.Proofs

set_option linter.unusedSimpArgs false
set_option linter.unusedVariables false
namespace Go.Proofs
open Go Go.Eng
set_option maxRecDepth 20000
theorem peer_ok:peerC.ok Tryz.prog:=peer_of (by simp) fun ρ hg hp=>by
 simp (config:={ maxSteps:=4000000 }) [o_peer,peerC,peerIs]
 exact ⟨fun h=>by simp [cmpOf,h],fun h1 h2=>by omega⟩
theorem score_rows (d:Rows') (p:Int):(rowL d 32).map (fun x=>[Value.int .u8 x]) ++ [[Value.int .u8 (IntKind.u8.wrap p)]] = [[.int .u8 (cellX d 0)],[.int .u8 (cellX d 1)],[.int .u8 (cellX d 2)],[.int .u8 (cellX d 3)],[.int .u8 (cellX d 4)],[.int .u8 (cellX d 5)],[.int .u8 (cellX d 6)],[.int .u8 (cellX d 7)],[.int .u8 (cellX d 8)],[.int .u8 (cellX d 9)],[.int .u8 (cellX d 10)],[.int .u8 (cellX d 11)],[.int .u8 (cellX d 12)],[.int .u8 (cellX d 13)],[.int .u8 (cellX d 14)],[.int .u8 (cellX d 15)],[.int .u8 (cellX d 16)],[.int .u8 (cellX d 17)],[.int .u8 (cellX d 18)],[.int .u8 (cellX d 19)],[.int .u8 (cellX d 20)],[.int .u8 (cellX d 21)],[.int .u8 (cellX d 22)],[.int .u8 (cellX d 23)],[.int .u8 (cellX d 24)],[.int .u8 (cellX d 25)],[.int .u8 (cellX d 26)],[.int .u8 (cellX d 27)],[.int .u8 (cellX d 28)],[.int .u8 (cellX d 29)],[.int .u8 (cellX d 30)],[.int .u8 (cellX d 31)],[.int .u8 (IntKind.u8.wrap p)]]:=rfl
theorem score_bI (d:Rows') (p:Int):bI ((rowL d 32).map (fun x=>[Value.int .u8 x]) ++ [[Value.int .u8 (IntKind.u8.wrap p)]]) = rowL d 32 ++ [p % 256]:=by
 rw [bI_app]
 congr 1
theorem score_allB {d:Rows'} {p:Int} (h:allM (rowL d 32)):allB ((rowL d 32).map (fun x=>[Value.int .u8 x]) ++ [[Value.int .u8 (IntKind.u8.wrap p)]]):=by
 refine allB_of ?_
 rw [score_bI]
 intro x hx
 rcases List.mem_append.1 hx with hx | hx
 ·exact h x hx
 ·rw [List.mem_singleton.1 hx]; exact ⟨Int.emod_nonneg _ (by decide),Int.emod_lt_of_pos _ (by decide)⟩
theorem score_ok:scoreC.ok Tryz.prog:=score_of (by simp [sha256_ok]) fun ρ hg hp=>by
 obtain ⟨hO,hGr,hGd⟩:=hp
 simp (config:={ maxSteps:=4000000 }) [o_score,scoreC,sha256C,bytesIn,gOk,hGr,hGd,hO]
 rw [← score_rows]
 refine fun u _ hu=>⟨⟨by omega,score_allB hO⟩,fun v _ hv=>?_⟩
 rw [hv,segB_all (by simp [rowL]),score_bI]; rfl
theorem scoreR_ok:scoreRC.ok Tryz.prog:=scoreR_of (by simp [sumR_ok]) fun ρ hg hp=>by
 obtain ⟨hO,hGr,hGd⟩:=hp
 simp (config:={ maxSteps:=4000000 }) [o_scoreR,scoreRC,sumRC,gOk,hGr,hGd,hO]
 rw [← score_rows]
 refine ⟨score_allB hO,fun v _ hv=>?_⟩
 rw [hv,score_bI]; rfl
theorem rank_ok:rankC.ok Tryz.prog:=rank_of (by simp [score_ok]) fun ρ hg hp=>by
 obtain ⟨hO,hGr,hGd⟩:=hp
 simp (config:={ maxSteps:=4000000 }) [o_rank,rankC,scoreC,gOk,hGr,hGd,hO]
theorem compare_ok:compareC.ok Tryz.prog:=compare_of (by simp [bcmp_ok]) fun ρ hg hp=>by
 obtain ⟨h1,h3⟩:=hp
 simp (config:={ maxSteps:=4000000 }) [o_compare,compareC,bcmpC]
 refine ⟨⟨⟨_,rfl,rfl⟩,⟨_,rfl,rfl⟩,h1,h3⟩,fun u _ hu=>?_⟩
 have hu:u.i = cmpL (rowL (ρ 1).d 32) (rowL (ρ 3).d 32):=hu
 rw [← hu]
 exact ⟨fun h=>by simp [h],fun h=>by simp [h]⟩
theorem better_ok:betterC.ok Tryz.prog:=better_of (by simp [rank_ok,compare_ok]) fun ρ hg hp=>by
 obtain ⟨hO,hGr,hGd⟩:=hp
 simp (config:={ maxSteps:=4000000 }) [o_better,betterC,rankC,compareC,gOk,hGr,hGd,hO]
 intro u _ hu u1 _ hu1
 rw [hu,hu1]
 unfold betF
 refine ⟨fun h=>by rw [if_pos h]; rfl,fun h=>⟨⟨sha_allM _,sha_allM _⟩,fun v _ hv=>?_⟩⟩
 rw [if_neg (fun h'=>h (cmpL_zero.1 h'))] at hv
 rw [if_neg h,hv]; rfl
theorem rows32 (d:Rows'):(rowL d 32).map (fun x=>[Value.int .u8 x]) = [[.int .u8 (cellX d 0)],[.int .u8 (cellX d 1)],[.int .u8 (cellX d 2)],[.int .u8 (cellX d 3)],[.int .u8 (cellX d 4)],[.int .u8 (cellX d 5)],[.int .u8 (cellX d 6)],[.int .u8 (cellX d 7)],[.int .u8 (cellX d 8)],[.int .u8 (cellX d 9)],[.int .u8 (cellX d 10)],[.int .u8 (cellX d 11)],[.int .u8 (cellX d 12)],[.int .u8 (cellX d 13)],[.int .u8 (cellX d 14)],[.int .u8 (cellX d 15)],[.int .u8 (cellX d 16)],[.int .u8 (cellX d 17)],[.int .u8 (cellX d 18)],[.int .u8 (cellX d 19)],[.int .u8 (cellX d 20)],[.int .u8 (cellX d 21)],[.int .u8 (cellX d 22)],[.int .u8 (cellX d 23)],[.int .u8 (cellX d 24)],[.int .u8 (cellX d 25)],[.int .u8 (cellX d 26)],[.int .u8 (cellX d 27)],[.int .u8 (cellX d 28)],[.int .u8 (cellX d 29)],[.int .u8 (cellX d 30)],[.int .u8 (cellX d 31)]]:=rfl
theorem bless:∀ {xs ys:List Int},allM xs→allM ys→Op.bytesLess (xs.map fun x=>UInt8.ofNat x.toNat) (ys.map fun x=>UInt8.ofNat x.toNat) = decide (cmpL xs ys < 0)
 | [],[],_,_=>rfl
 | [],_ :: _,_,_=>rfl
 | _ :: _,[],_,_=>rfl
 | x :: xs,y :: ys,hx,hy=>by
  have h1:=u8_lt (hx x (List.mem_cons_self ..)) (hy y (List.mem_cons_self ..))
  have h2:=u8_lt (hy y (List.mem_cons_self ..)) (hx x (List.mem_cons_self ..))
  have h3:=bless (xs:=xs) (ys:=ys) (fun z hz=>hx z (List.mem_cons_of_mem _ hz)) (fun z hz=>hy z (List.mem_cons_of_mem _ hz))
  change UInt8.ofNat x.toNat < UInt8.ofNat y.toNat↔x < y at h1
  change UInt8.ofNat y.toNat < UInt8.ofNat x.toNat↔y < x at h2
  show (decide (UInt8.ofNat x.toNat < UInt8.ofNat y.toNat) || (UInt8.ofNat x.toNat == UInt8.ofNat y.toNat && Op.bytesLess (xs.map fun x=>UInt8.ofNat x.toNat) (ys.map fun x=>UInt8.ofNat x.toNat))) = _
  rw [h3,cmpL]
  by_cases a1:x < y
  ·rw [if_pos a1,decide_eq_true (h1.2 a1)]; rfl
  ·rw [if_neg a1,decide_eq_false (fun h=>a1 (h1.1 h))]
   by_cases a2:y < x
   ·rw [if_pos a2]
    have:(UInt8.ofNat x.toNat == UInt8.ofNat y.toNat) = false:=by
     rw [beq_eq_false_iff_ne]
     intro h
     have h4:=h2.2 a2
     rw [h] at h4
     exact UInt8.lt_irrefl _ h4
    rw [this]; rfl
   ·rw [if_neg a2]
    obtain rfl:x = y:=by omega
    simp
theorem betterR_ok:betterRC.ok Tryz.prog:=betterR_of (by simp [scoreR_ok]) fun ρ hg hp=>by
 obtain ⟨hO,hGr,hGd⟩:=hp
 simp (config:={ maxSteps:=4000000 }) [o_betterR,betterRC,scoreRC,gOk,vStr_mk,hGr,hGd,hO]
 intro u _ hu u1 _ hu1
 rw [← rows32 u.d,← rows32 u1.d,bytesOf_eq,bytesOf_eq,show bI ((rowL u.d 32).map fun x=>[Value.int .u8 x]) = rowL u.d 32 from rfl,show bI ((rowL u1.d 32).map fun x=>[Value.int .u8 x]) = rowL u1.d 32 from rfl,hu,hu1]
 unfold betF
 refine ⟨fun h=>by rw [if_pos h]; rfl,fun h=>?_⟩
 rw [if_neg h]
 exact bless (sha_allM _) (sha_allM _)
theorem seenTo_zero {L:List Int}:seenTo [List.replicate 16 (.bool false)] L 0:=by
 refine ⟨⟨_,rfl,List.length_replicate ..⟩,fun x h0 h1=>⟨fun h=>?_,fun h=>by simp at h⟩⟩
 exfalso
 have h2:cellXB [List.replicate 16 (Value.bool false)] x.toNat = false:=by
  unfold cellXB
  rw [List.headD_cons,List.getElem?_replicate,if_pos (by omega)]; rfl
 rw [h2] at h; cases h
theorem take_next {L:List Int} {n:Nat} (hn:n < L.length):L.take (n + 1) = L.take n ++ [L.getD n 0]:=by
 rw [List.take_add_one,List.getElem?_eq_getElem hn,List.getD_eq_getElem?_getD,List.getElem?_eq_getElem hn]; rfl
theorem seenTo_step {s:Rows'} {L:List Int} {n:Nat} {y:Int} (h:seenTo s L n) (hn:n < L.length) (hy:y = L.getD n 0) (h0:0 ≤ y) (h1:y < 16):seenTo (putX s y.toNat (.bool true)) L (n + 1):=by
 obtain ⟨⟨row,rfl,hr⟩,h2⟩:=h
 refine ⟨⟨_,rfl,by rw [List.length_set]; exact hr⟩,fun x x0 x1=>?_⟩
 have hc:cellXB (putX [row] y.toNat (.bool true)) x.toNat = if x = y then true else cellXB [row] x.toNat:=by
  unfold cellXB putX
  rw [List.headD_cons,List.headD_cons,List.getElem?_set]
  by_cases hxe:x = y
  ·rw [if_pos (by rw [hxe]),if_pos (by omega),if_pos hxe]; rfl
  ·rw [if_neg (fun e=>hxe (by omega)),if_neg hxe]
 rw [hc,take_next hn,← hy,List.mem_append,List.mem_singleton]
 by_cases hxe:x = y
 ·rw [if_pos hxe]; exact ⟨fun _=>.inr hxe,fun _=>rfl⟩
 ·rw [if_neg hxe,h2 x x0 x1]
  exact ⟨.inl,fun h=>h.resolve_right hxe⟩
theorem seenTo_skip {s:Rows'} {L:List Int} {n:Nat} {y:Int} (h:seenTo s L n) (hn:n < L.length) (hy:y = L.getD n 0) (hne:¬ (0 ≤ y∧y < 16)):seenTo s L (n + 1):=by
 refine ⟨h.1,fun x x0 x1=>?_⟩
 rw [h.2 x x0 x1,take_next hn,← hy,List.mem_append,List.mem_singleton]
 exact ⟨.inl,fun h=>h.resolve_right (fun e=>hne (by omega))⟩
theorem ints_at {d:Rows'} {i:Int} (h0:0 ≤ i) (h1:i < d.length):cellI d i 0 = (ints d).getD i.toNat 0:=by
 have hl:i.toNat < d.length:=by omega
 rw [ints,List.getD_eq_getElem?_getD,List.getElem?_map,List.getElem?_eq_getElem hl]
 simp [cellI,cellV,rowI,List.getElem?_eq_getElem hl]
theorem set_ok:setC.ok Tryz.prog:=set_of (by simp [peer_ok]) fun ρ hg hp=>by
 obtain ⟨hl,h1,hr⟩:=hp
 simp only [Nat.reduceAdd] at hl h1 hr
 simp (config:={ maxSteps:=4000000 }) [o_set,setC,setI,peerC,hl]
 have hil:(ints (ρ 3).d).length = (ρ 3).d.length:=by simp [ints]
 refine ⟨seenTo_zero,fun s _ i _ i0 i1 hs=>⟨fun hi=>⟨i0,hi,fun u _ hu=>⟨fun ht=>?_,fun hf=>?_⟩⟩,fun hi=>?_⟩⟩
 ·have hp:0 ≤ cellI (ρ 3).d i.i 0∧cellI (ρ 3).d i.i 0 < 16:=by rw [hu] at ht; exact of_decide_eq_true ht
  have hsl:0 < s.d.length:=by obtain ⟨⟨row,e,_⟩,_⟩:=hs; rw [e]; exact Nat.one_pos
  rw [add64 (x:=i.i) (by omega) (by omega)]
  refine ⟨hp.1,hp.2,hsl,⟨by omega,by omega,?_⟩,by omega⟩
  rw [show (i.i + 1).toNat = i.i.toNat + 1 by omega]
  exact seenTo_step hs (by omega) (ints_at i0 hi) hp.1 hp.2
 ·have hp:¬ (0 ≤ cellI (ρ 3).d i.i 0∧cellI (ρ 3).d i.i 0 < 16):=by rw [hu] at hf; exact of_decide_eq_false hf
  rw [add64 (x:=i.i) (by omega) (by omega)]
  refine ⟨⟨by omega,by omega,?_⟩,by omega⟩
  rw [show (i.i + 1).toNat = i.i.toNat + 1 by omega]
  exact seenTo_skip hs (by omega) (ints_at i0 hi) hp
 ·obtain ⟨⟨row,hs1,hrl⟩,hs2⟩:=hs
  rw [List.take_of_length_le (by omega)] at hs2
  rw [hs1] at hs2 ⊢
  match row,hrl with
  | [a0,a1,a2,a3,a4,a5,a6,a7,a8,a9,a10,a11,a12,a13,a14,a15],_ =>
   refine ⟨by simp,?_⟩
   have key:boolsP ((List.range 16).map (cellXB [[a0,a1,a2,a3,a4,a5,a6,a7,a8,a9,a10,a11,a12,a13,a14,a15]])) (ints (ρ 3).d):=⟨by simp,fun j hj=>by
    rw [List.getD_eq_getElem?_getD,List.getElem?_map,List.getElem?_range hj]
    exact hs2 j (by omega) (by omega)⟩
   exact key
end Go.Proofs

set_option linter.unusedSimpArgs false
set_option linter.unusedVariables false
namespace Go.Eng
open Go Go.Proofs
def hasC:Ctr:={ fn := 34,nv:=6,args:=[bS 0,iv .i64 (.var 5)],heap:=[],ro:=[iHpA 0],pre:=fun ρ=>intsIn ρ 0,alts:=[{ k:=1,ret:=.one (.vbool (.var 6)),heap:=[],post:=fun ρ=>(ρ 6).b = decide ((ρ 5).i ∈ ints (ρ 3).d) }] }
def hasI:Inv:={ key:=2,nv:=1,env:=[(0,bS 0),(1,iv .i64 (.var 5)),(5,iv .i64 (.var 1000))],heap:=[],inv:=(fun ρ=>0 ≤ (ρ 1000).i∧(ρ 1000).i ≤ (ρ 1).i∧(ρ 5).i ∉ (ints (ρ 3).d).take (ρ 1000).i.toNat),mu:=(fun ρ=>((ρ 1).i - (ρ 1000).i).toNat) }
def sameIC:Ctr:={ fn := 28,nv:=10,args:=[bS 0,bS 5],heap:=[],ro:=[iHpA 0,iHpA 5],pre:=fun ρ=>intsIn ρ 0∧intsIn ρ 5,alts:=[{ k:=1,ret:=.one (.vbool (.var 10)),heap:=[],post:=fun ρ=>(ρ 10).b = decide (ints (ρ 3).d = ints (ρ 8).d) }] }
def sameII:Inv:={ key:=4,nv:=1,env:=[(0,bS 0),(1,bS 5),(5,iv .i64 (.var 1000))],heap:=[],inv:=(fun ρ=>0 ≤ (ρ 1000).i∧(ρ 1000).i ≤ (ρ 1).i∧(ints (ρ 3).d).take (ρ 1000).i.toNat = (ints (ρ 8).d).take (ρ 1000).i.toNat),mu:=(fun ρ=>((ρ 1).i - (ρ 1000).i).toNat) }
end Go.Eng

set_option linter.unusedSimpArgs false
set_option linter.unusedVariables false
set_option maxRecDepth 100000
namespace Go.Proofs
open Go Go.Eng

def o_has:Out:=(.inv 0 6 (sg 1000 [bt 1000 (.lit 0)]) (.fresh 6 (.hyp 0 6 (.need (.cmp .leq (.lit 0) (.var 1)) (.br (.cmp .lss (.var 6) (.var 1))
 (.need (.cmp .leq (.lit 0) (.var 6)) (.need (.cmp .lss (.var 6) (.dlen (.var 3))) (.br (.cmp .eql (.icell (.var 3) (.var 6) 0) (.var 5))
 (.ret 0 (sg 6 [bt 6 (.bl true)]))
 (.back 0 6 (sg 1000 [bt 1000 (.arith .add .i64 (.var 6) (.lit 1))])))))
 (.ret 0 (sg 6 [bt 6 (.bl false)])))))))
theorem o_has_eq:treeOf ⟨Tryz.prog,hasC,[],[hasI]⟩ 100000 Tryz.f34 = o_has:=by kernel_rfl
theorem has_of (hd:∀ c ∈ ([]:List Ctr),c.ok Tryz.prog) (h:∀ ρ:Env,ρ.good→(hasC).pre ρ→o_has.den ⟨Tryz.prog,hasC,[],[hasI]⟩ ρ):(hasC).ok Tryz.prog :=
 ok_of_tree Tryz.func34 (fun a w=>Tryz.call34 a w) hd 100000 (fun ρ hg hp=>by rw [o_has_eq]; exact h ρ hg hp)
def o_sameI:Out:=(.need (.cmp .leq (.lit 0) (.var 1)) (.need (.cmp .leq (.lit 0) (.var 6)) (.br (.cmp .neq (.var 1) (.var 6))
 (.ret 0 (sg 10 [bt 10 (.bl false)]))
 (.inv 0 10 (sg 1000 [bt 1000 (.lit 0)]) (.fresh 10 (.hyp 0 10 (.br (.cmp .lss (.var 10) (.var 1))
 (.need (.cmp .leq (.lit 0) (.var 10)) (.need (.cmp .lss (.var 10) (.dlen (.var 3))) (.need (.cmp .lss (.var 10) (.var 6)) (.need (.cmp .lss (.var 10) (.dlen (.var 8))) (.br (.cmp .neq (.icell (.var 3) (.var 10) 0) (.icell (.var 8) (.var 10) 0))
 (.ret 0 (sg 10 [bt 10 (.bl false)]))
 (.back 0 10 (sg 1000 [bt 1000 (.arith .add .i64 (.var 10) (.lit 1))])))))))
 (.ret 0 (sg 10 [bt 10 (.bl true)])))))))))
theorem o_sameI_eq:treeOf ⟨Tryz.prog,sameIC,[],[sameII]⟩ 100000 Tryz.f28 = o_sameI:=by kernel_rfl
theorem sameI_of (hd:∀ c ∈ ([]:List Ctr),c.ok Tryz.prog) (h:∀ ρ:Env,ρ.good→(sameIC).pre ρ→o_sameI.den ⟨Tryz.prog,sameIC,[],[sameII]⟩ ρ):(sameIC).ok Tryz.prog :=
 ok_of_tree Tryz.func28 (fun a w=>Tryz.call28 a w) hd 100000 (fun ρ hg hp=>by rw [o_sameI_eq]; exact h ρ hg hp)
end Go.Proofs

set_option linter.unusedSimpArgs false
set_option linter.unusedVariables false
namespace Go.Proofs
open Go Go.Eng
set_option maxRecDepth 20000
theorem ints_len {d:Rows'}:(ints d).length = d.length:=by simp [ints]
theorem has_ok:hasC.ok Tryz.prog:=has_of (by simp) fun ρ hg hp=>by
 obtain ⟨hl,h1,hr⟩:=hp
 simp only [Nat.reduceAdd] at hl h1 hr
 simp (config:={ maxSteps:=4000000 }) [o_has,hasC,hasI,hl]
 have hil:=ints_len (d:=(ρ 3).d)
 intro i _ i0 i1 hno
 refine ⟨fun hi=>⟨i0,hi,fun he=>?_,fun hne=>?_⟩,fun hi=>?_⟩
 ·rw [ints_at i0 hi] at he
  rw [← he,List.getD_eq_getElem?_getD,List.getElem?_eq_getElem (by omega)]
  exact List.getElem_mem _
 ·rw [ints_at i0 hi] at hne
  rw [add64 (x:=i.i) (by omega) (by omega)]
  refine ⟨⟨by omega,by omega,?_⟩,by omega⟩
  rw [show (i.i + 1).toNat = i.i.toNat + 1 by omega,take_next (by omega),List.mem_append,List.mem_singleton]
  exact fun h=>h.elim hno fun h=>hne h.symm
 ·rw [List.take_of_length_le (by omega)] at hno
  exact hno
theorem sameI_ok:sameIC.ok Tryz.prog:=sameI_of (by simp) fun ρ hg hp=>by
 obtain ⟨⟨hl,h1,hr⟩,⟨hl2,h12,hr2⟩⟩:=hp
 simp only [Nat.reduceAdd] at hl h1 hr hl2 h12 hr2
 simp (config:={ maxSteps:=4000000 }) [o_sameI,sameIC,sameII,hl,hl2]
 have la:=ints_len (d:=(ρ 3).d)
 have lb:=ints_len (d:=(ρ 8).d)
 refine ⟨fun hne he=>hne (by rw [← la,← lb,he]),fun hll i _ i0 i1 ht=>⟨fun hi=>⟨i0,hi,by omega,fun hne he=>?_,fun he=>?_⟩,fun hi=>?_⟩⟩
 ·rw [ints_at i0 hi,ints_at i0 (by omega),he] at hne
  exact hne rfl
 ·rw [add64 (x:=i.i) (by omega) (by omega)]
  refine ⟨⟨by omega,by omega,?_⟩,by omega⟩
  rw [ints_at i0 hi,ints_at i0 (by omega)] at he
  rw [show (i.i + 1).toNat = i.i.toNat + 1 by omega,take_next (by omega),take_next (by omega),ht,he]
 ·rw [List.take_of_length_le (by omega),List.take_of_length_le (by omega)] at ht
  exact ht
end Go.Proofs

set_option linter.unusedSimpArgs false
set_option linter.unusedVariables false
namespace Go.Eng
open Go Go.Proofs
def peersTo (L:List Int) (n:Nat):List Int:=((List.range n).map fun (i:Nat)=>(i:Int)).filter fun x=>decide (x ∈ L)
def peersC:Ctr:={ fn := 85,nv:=5,args:=[bS 0],heap:=[],ro:=[iHpA 0],pre:=fun ρ=>intsIn ρ 0,alts:=[{ k:=4,ret:=.one (.vslice 5 (.lit 0) (.var 6) (.var 7) 1),heap:=[iHp 5 8 7],post:=fun ρ=>(ρ 6).i = (ρ 8).d.length∧ints (ρ 8).d = peersL (ints (ρ 3).d)∧∀ row ∈ (ρ 8).d,row.length = 1 }] }
def peersI:Inv:={ key:=3,nv:=5,env:=[(0,bS 0),(3,.one (.vslice 1000 (.lit 0) (.var 1001) (.var 1002) 1)),(4,iv .i64 (.var 1004))],heap:=[iHp 1000 1003 1002],inv:=(fun ρ=>0 ≤ (ρ 1004).i∧(ρ 1004).i ≤ 16∧(ρ 1001).i = (ρ 1003).d.length∧(ρ 1001).i ≤ (ρ 1004).i∧ints (ρ 1003).d = peersTo (ints (ρ 3).d) (ρ 1004).i.toNat∧∀ row ∈ (ρ 1003).d,row.length = 1),mu:=(fun ρ=>(16 - (ρ 1004).i).toNat) }
def indexC:Ctr:={ fn := 121,nv:=6,args:=[bS 0,iv .i64 (.var 5)],heap:=[],ro:=[iHpA 0],pre:=fun ρ=>intsIn ρ 0,alts:=[{ k:=1,ret:=iv .i64 (.var 6),heap:=[],post:=fun ρ=>0 ≤ (ρ 6).i↔(ρ 5).i ∈ ints (ρ 3).d }] }
def indexI:Inv:={ key:=2,nv:=1,env:=[(0,bS 0),(1,iv .i64 (.var 5)),(6,bS 0),(7,iv .i64 (.var 1)),(8,iv .i64 (.var 1000))],heap:=[],inv:=(fun ρ=>0 ≤ (ρ 1000).i∧(ρ 1000).i ≤ (ρ 1).i∧(ρ 5).i ∉ (ints (ρ 3).d).take (ρ 1000).i.toNat),mu:=(fun ρ=>((ρ 1).i - (ρ 1000).i).toNat) }
def containsC:Ctr:={ fn := 84,nv:=6,args:=[bS 0,iv .i64 (.var 5)],heap:=[],ro:=[iHpA 0],pre:=fun ρ=>intsIn ρ 0,alts:=[{ k:=1,ret:=.one (.vbool (.var 6)),heap:=[],post:=fun ρ=>(ρ 6).b = decide ((ρ 5).i ∈ ints (ρ 3).d) }] }
end Go.Eng

set_option linter.unusedSimpArgs false
set_option linter.unusedVariables false
set_option maxRecDepth 100000
namespace Go.Proofs
open Go Go.Eng

def o_peers:Out:=(.fresh 5 (.inv 0 6 (sg 1000 [bt 1003 .dnil,bt 1004 (.lit 0),bt 1002 (.lit 0),bt 1001 (.lit 0),bg 1000 5]) (.fresh 6 (.fresh 7 (.fresh 8 (.fresh 9 (.fresh 10 (.hyp 0 6 (.br (.cmp .lss (.var 10) (.lit 16))
 (.pre 0 (sg 0 [bv 4 4,bv 3 3,bv 5 10,bv 2 2,bv 1 1,bg 0 0]) (.both (.fresh 11 (.post 0 0 (sg 0 [bv 4 4,bv 3 3,bv 5 10,bv 2 2,bv 1 1,bg 0 0]) 11 (.br (.var 11)
 (.fresh 12 (.need (.cmp .eql (.var 7) (.dlen (.var 9))) (.need (.cmp .leq (.tims (.lit 8) (.plus (.var 7) (.lit 1))) (.lit 140737488355328)) (.fresh 13 (.fresh 14 (.back 0 6 (sg 1000 [bt 1003 (.dapp (.var 9) (.rcons (.vint .i64 (.var 10)) .rnil)),bt 1004 (.arith .add .i64 (.var 10) (.lit 1)),bv 1002 14,bt 1001 (.plus (.var 7) (.lit 1)),bg 1000 13])))))))
 (.back 0 6 (sg 1000 [bv 1003 9,bt 1004 (.arith .add .i64 (.var 10) (.lit 1)),bv 1002 8,bv 1001 7,bg 1000 6]))))) .top))
 (.ret 0 (sg 5 [bv 8 9,bv 7 8,bv 6 7,bg 5 6])))))))))))
theorem o_peers_eq:treeOf ⟨Tryz.prog,peersC,[hasC],[peersI]⟩ 100000 Tryz.f85 = o_peers:=by kernel_rfl
theorem peers_of (hd:∀ c ∈ ([hasC]:List Ctr),c.ok Tryz.prog) (h:∀ ρ:Env,ρ.good→(peersC).pre ρ→o_peers.den ⟨Tryz.prog,peersC,[hasC],[peersI]⟩ ρ):(peersC).ok Tryz.prog :=
 ok_of_tree Tryz.func85 (fun a w=>Tryz.call85 a w) hd 100000 (fun ρ hg hp=>by rw [o_peers_eq]; exact h ρ hg hp)
def o_index:Out:=(.need (.cmp .leq (.lit 0) (.var 1)) (.inv 0 6 (sg 1000 [bt 1000 (.lit 0)]) (.fresh 6 (.hyp 0 6 (.br (.cmp .lss (.var 6) (.var 1))
 (.need (.cmp .leq (.lit 0) (.var 6)) (.need (.cmp .lss (.var 6) (.dlen (.var 3))) (.br (.cmp .eql (.var 5) (.icell (.var 3) (.var 6) 0))
 (.ret 0 (sg 6 [bv 6 6]))
 (.back 0 6 (sg 1000 [bt 1000 (.arith .add .i64 (.var 6) (.lit 1))])))))
 (.ret 0 (sg 6 [bt 6 (.lit (-1))])))))))
theorem o_index_eq:treeOf ⟨Tryz.prog,indexC,[],[indexI]⟩ 100000 Tryz.f121 = o_index:=by kernel_rfl
theorem index_of (hd:∀ c ∈ ([]:List Ctr),c.ok Tryz.prog) (h:∀ ρ:Env,ρ.good→(indexC).pre ρ→o_index.den ⟨Tryz.prog,indexC,[],[indexI]⟩ ρ):(indexC).ok Tryz.prog :=
 ok_of_tree Tryz.func121 (fun a w=>Tryz.call121 a w) hd 100000 (fun ρ hg hp=>by rw [o_index_eq]; exact h ρ hg hp)
def o_contains:Out:=(.pre 0 (sg 0 [bv 4 4,bv 3 3,bv 5 5,bv 2 2,bv 1 1,bg 0 0]) (.both (.fresh 6 (.post 0 0 (sg 0 [bv 4 4,bv 3 3,bv 5 5,bv 2 2,bv 1 1,bg 0 0]) 6 (.ret 0 (sg 6 [bt 6 (.cmp .geq (.var 6) (.lit 0))])))) .top))
theorem o_contains_eq:treeOf ⟨Tryz.prog,containsC,[indexC],[]⟩ 100000 Tryz.f84 = o_contains:=by kernel_rfl
theorem contains_of (hd:∀ c ∈ ([indexC]:List Ctr),c.ok Tryz.prog) (h:∀ ρ:Env,ρ.good→(containsC).pre ρ→o_contains.den ⟨Tryz.prog,containsC,[indexC],[]⟩ ρ):(containsC).ok Tryz.prog :=
 ok_of_tree Tryz.func84 (fun a w=>Tryz.call84 a w) hd 100000 (fun ρ hg hp=>by rw [o_contains_eq]; exact h ρ hg hp)
end Go.Proofs

set_option linter.unusedSimpArgs false
set_option linter.unusedVariables false
namespace Go.Proofs
open Go Go.Eng
set_option maxRecDepth 20000
theorem peersTo_next {L:List Int} {n:Nat}:peersTo L (n + 1) = peersTo L n ++ (if (n:Int) ∈ L then [(n:Int)] else []):=by
 unfold peersTo
 rw [List.range_succ,List.map_append,List.filter_append]
 congr 1
 simp only [List.map_cons,List.map_nil,List.filter_cons,List.filter_nil,decide_eq_true_eq]
theorem ints_snoc {d:Rows'} {x:Int}:ints (d ++ [[.int .i64 x]]) = ints d ++ [x]:=by simp [ints,rowI,vInt]
theorem peers_ok:peersC.ok Tryz.prog:=peers_of (by simp [has_ok]) fun ρ hg hp=>by
 obtain ⟨hl,h1,hr⟩:=hp
 simp only [Nat.reduceAdd] at hl h1 hr
 simp (config:={ maxSteps:=4000000 }) [o_peers,peersC,peersI,hasC,iHpA,intsIn,hl]
 refine ⟨rfl,fun n _ D _ i _ i0 i1 hn hni hD hD1=>⟨fun hi=>⟨⟨by omega,hr⟩,fun u _ hu=>⟨fun ht=>?_,fun hf=>?_⟩⟩,fun hi=>⟨hn,?_,hD1⟩⟩⟩
 ·have hm:i.i ∈ ints (ρ 3).d:=by rw [hu] at ht; exact of_decide_eq_true ht
  rw [add64 (x:=i.i) (by omega) (by omega)]
  refine ⟨hn,by omega,⟨by omega,by omega,hn,by omega,?_,fun row h=>h.elim (hD1 row) fun h=>by rw [h]; rfl⟩,by omega⟩
  rw [ints_snoc,hD,show (i.i + 1).toNat = i.i.toNat + 1 by omega,peersTo_next,Int.toNat_of_nonneg i0,if_pos hm]
 ·have hm:¬ i.i ∈ ints (ρ 3).d:=by rw [hu] at hf; exact of_decide_eq_false hf
  rw [add64 (x:=i.i) (by omega) (by omega)]
  refine ⟨⟨by omega,by omega,hn,by omega,?_,hD1⟩,by omega⟩
  rw [hD,show (i.i + 1).toNat = i.i.toNat + 1 by omega,peersTo_next,Int.toNat_of_nonneg i0,if_neg hm,List.append_nil]
 ·rw [hD,show i.i.toNat = 16 by omega]; rfl
theorem index_ok:indexC.ok Tryz.prog:=index_of (by simp) fun ρ hg hp=>by
 obtain ⟨hl,h1,hr⟩:=hp
 simp only [Nat.reduceAdd] at hl h1 hr
 simp (config:={ maxSteps:=4000000 }) [o_index,indexC,indexI,hl]
 have hil:=ints_len (d:=(ρ 3).d)
 intro i _ i0 i1 hno
 refine ⟨fun hi=>⟨i0,hi,fun he=>⟨fun _=>?_,fun _=>i0⟩,fun hne=>?_⟩,fun hi=>?_⟩
 ·rw [he,ints_at i0 hi,List.getD_eq_getElem?_getD,List.getElem?_eq_getElem (by omega)]
  exact List.getElem_mem _
 ·rw [ints_at i0 hi] at hne
  rw [add64 (x:=i.i) (by omega) (by omega)]
  refine ⟨⟨by omega,by omega,?_⟩,by omega⟩
  rw [show (i.i + 1).toNat = i.i.toNat + 1 by omega,take_next (by omega),List.mem_append,List.mem_singleton]
  exact fun h=>h.elim hno fun h=>hne h
 ·rw [List.take_of_length_le (by omega)] at hno
  exact hno
theorem contains_ok:containsC.ok Tryz.prog:=contains_of (by simp [index_ok]) fun ρ hg hp=>by
 obtain ⟨hl,h1,hr⟩:=hp
 simp only [Nat.reduceAdd] at hl h1 hr
 simp (config:={ maxSteps:=4000000 }) [o_contains,containsC,indexC,iHpA,intsIn,hl]
 refine ⟨⟨by omega,hr⟩,fun u _ hu=>?_⟩
 show decide (u.i ≥ 0) = _
 exact decide_eq_decide.2 hu
end Go.Proofs

set_option linter.unusedSimpArgs false
set_option linter.unusedVariables false
namespace Go.Eng
open Go Go.Proofs
def covF (o:List Int) (self n:Int) (L:List Int):Bool:=decide (1 ≤ n) && decide (n ≤ (((peersL L).filter fun i=>betF o i self).length:Int))
def covPre (ρ:Env) (g:Nat):Prop:=allM (rowL (ρ 0).d 32)∧intsIn ρ 3∧gOk ρ 8 9 g
def covC:Ctr:={ fn := 37,nv:=10,ip:=[gIp 8],args:=[dgV 0,iv .i64 (.var 1),iv .i64 (.var 2),bS 3],heap:=[],ro:=[iHpA 3,gHp 8 9],pre:=fun ρ=>covPre ρ gR,alts:=[{ k:=1,ret:=.one (.vbool (.var 10)),heap:=[],post:=fun ρ=>(ρ 10).b = covF (rowL (ρ 0).d 32) (ρ 1).i (ρ 2).i (ints (ρ 6).d) }] }
def covI:Inv:={ key:=3,nv:=3,env:=[(1,iv .i64 (.var 1)),(2,iv .i64 (.var 2)),(4,.one (.vptr 1000 (.lit 0) 32 0)),(9,iv .i64 (.var 1002)),(13,b16 11),(14,iv .i64 (.var 1001))],heap:=[.cells 1000 24 (cellsT .u8 0 32)],inv:=(fun ρ=>0 ≤ (ρ 1001).i∧(ρ 1001).i ≤ 16∧(ρ 1002).i = (((peersTo (ints (ρ 6).d) (ρ 1001).i.toNat).filter fun i=>betF (rowL (ρ 0).d 32) i (ρ 1).i).length:Int)),mu:=(fun ρ=>(16 - (ρ 1001).i).toNat) }
end Go.Eng

set_option linter.unusedSimpArgs false
set_option linter.unusedVariables false
namespace Go.Proofs
open Go Go.Eng
end Go.Proofs

set_option linter.unusedSimpArgs false
set_option linter.unusedVariables false
namespace Go.Eng
open Go Go.Proofs
def rkRow (o:List Int) (p:Int):List Value:=.int .i64 p :: (scoreF o p).map (Value.int .u8)
def sortF (o l:List Int):List Int:=l.mergeSort fun a b=>!betF o b a
def chosenF (o live:List Int) (n:Int):List Int:=(sortF o (peersL live)).take n.toNat
def isInts (d:Rows') (n:Int) (l:List Int):Prop:=n = d.length∧ints d = l∧∀ row ∈ d,row.length = 1
def rkHp (r d c:Nat):SH:=.arr r 153 kRk (.var d) (.var c)
def rkS (r l c:Nat):SV:=.one (.vslice r (.lit 0) (.var l) (.var c) 33)
def sortC:Ctr:={ fn := 83,nv:=4,args:=[rkS 0 1 2,.fn (.func 81) [] []],heap:=[rkHp 0 3 2],ro:=[],pre:=fun ρ=>(ρ 1).i = (ρ 3).d.length∧(ρ 1).i ≤ 1000000∧∃ o L:List Int,allM o∧(ρ 3).d = L.map (rkRow o)∧∀ x ∈ L,0 ≤ x∧x < 16,alts:=[
 { k:=1,ret:=.tup [],heap:=[rkHp 0 4 2],post:=fun ρ=>∀ o L:List Int,allM o→(ρ 3).d = L.map (rkRow o)→(∀ x ∈ L,0 ≤ x∧x < 16)→(ρ 4).d = (sortF o L).map (rkRow o) }] }
def objHp (r:Nat):SH:=.cells r 24 (cellsT .u8 0 32)
def objP (r:Nat):SV:=.one (.vptr r (.lit 0) 32 0)
def chPre (ρ:Env) (g:Nat):Prop:=allM (rowL (ρ 0).d 32)∧intsIn ρ 1∧gOk ρ 7 8 g
def chosenC:Ctr:={ fn := 32,nv:=9,ip:=[gIp 7],args:=[dgV 0,bS 1,iv .i64 (.var 6)],heap:=[],ro:=[iHpA 1,gHp 7 8],pre:=fun ρ=>chPre ρ gR,alts:=[
 { k:=4,ret:=.one (.vslice 9 (.lit 0) (.var 10) (.var 11) 1),heap:=[iHp 9 12 11],post:=fun ρ=>isInts (ρ 12).d (ρ 10).i (chosenF (rowL (ρ 0).d 32) (ints (ρ 4).d) (ρ 6).i) }] }
def chosenI:Inv:={ key:=3,nv:=6,env:=[(2,iv .i64 (.var 6)),(3,objP 1000),(7,rkS 1002 1003 1004),(14,b16 10),(15,iv .i64 (.var 1001))],heap:=[objHp 1000,rkHp 1002 1005 1004],inv:=(fun ρ=>0 ≤ (ρ 1001).i∧(ρ 1001).i ≤ 16∧(ρ 1003).i = (ρ 1005).d.length∧(ρ 1005).d = (peersTo (ints (ρ 4).d) (ρ 1001).i.toNat).map (rkRow (rowL (ρ 0).d 32))),mu:=(fun ρ=>(16 - (ρ 1001).i).toNat) }
def chosenJ:Inv:={ key:=11,nv:=9,env:=[(36,rkS 1000 1001 1002),(37,iv .i64 (.var 1001)),(38,iv .i64 (.var 1003)),(10,.one (.vslice 1004 (.lit 0) (.var 1005) (.var 1006) 1))],heap:=[rkHp 1000 1007 1002,iHp 1004 1008 1006],inv:=(fun ρ=>0 ≤ (ρ 1003).i∧(ρ 1003).i ≤ (ρ 1001).i∧(ρ 1001).i ≤ (ρ 1007).d.length∧(ρ 1007).d = (sortF (rowL (ρ 0).d 32) (peersL (ints (ρ 4).d))).map (rkRow (rowL (ρ 0).d 32))∧(ρ 1001).i = min (max (ρ 6).i 0) ((sortF (rowL (ρ 0).d 32) (peersL (ints (ρ 4).d))).length:Int)∧isInts (ρ 1008).d (ρ 1005).i ((sortF (rowL (ρ 0).d 32) (peersL (ints (ρ 4).d))).take (ρ 1003).i.toNat)),mu:=(fun ρ=>((ρ 1001).i - (ρ 1003).i).toNat) }
def chosenRC:Ctr:={ chosenC with fn := 38,ip:=[gIs 7,(50,2),(55,2)],pre:=fun ρ=>chPre ρ gS }
def isRows (D:Rows') (n:Int):Prop:=n = D.length∧∀ row ∈ D,row.length = 1
def chR (o L:List Int) (D E:Rows') (n m k:Int):Prop:=isRows D n∧isRows E m∧(ints D).Nodup∧(∀ x ∈ ints D,0 ≤ x∧x < 16)∧m ≤ max k 0∧ints E ++ sortF o (ints D) = sortF o (peersL L)
def bestP (o l:List Int) (b n:Nat):Prop:=b < n∧n ≤ l.length∧∀ j,j < n→j ≠ b→betF o (l.getD b 0) (l.getD j 0) = true
def chosenRI:Inv:={ key:=3,nv:=9,env:=[(2,iv .i64 (.var 6)),(3,objP 1000),(7,.one (.vslice 1001 (.lit 0) (.var 1002) (.var 1003) 1)),(8,.one (.vslice 1005 (.lit 0) (.var 1006) (.var 1007) 1))],heap:=[objHp 1000,iHp 1001 1004 1003,iHp 1005 1008 1007],inv:=(fun ρ=>chR (rowL (ρ 0).d 32) (ints (ρ 4).d) (ρ 1004).d (ρ 1008).d (ρ 1002).i (ρ 1006).i (ρ 6).i),mu:=(fun ρ=>(ρ 1002).i.toNat) }
def chosenRJ:Inv:={ key:=6,nv:=11,env:=[(2,iv .i64 (.var 6)),(3,objP 1000),(7,.one (.vslice 1001 (.lit 0) (.var 1002) (.var 1003) 1)),(8,.one (.vslice 1005 (.lit 0) (.var 1006) (.var 1007) 1)),(9,iv .i64 (.var 1009)),(10,iv .i64 (.var 1010))],heap:=[objHp 1000,iHp 1001 1004 1003,iHp 1005 1008 1007],inv:=(fun ρ=>chR (rowL (ρ 0).d 32) (ints (ρ 4).d) (ρ 1004).d (ρ 1008).d (ρ 1002).i (ρ 1006).i (ρ 6).i∧(ρ 1006).i < (ρ 6).i∧0 ≤ (ρ 1009).i∧1 ≤ (ρ 1010).i∧(ρ 1002).i = (ρ 17).i∧bestP (rowL (ρ 0).d 32) (ints (ρ 1004).d) (ρ 1009).i.toNat (ρ 1010).i.toNat),mu:=(fun ρ=>((ρ 1002).i - (ρ 1010).i).toNat) }
def upTo (n:Int):List Int:=(List.range (min (max n 0) 16).toNat).map fun (i:Nat)=>(i:Int)
def rankingF (o:List Int) (n:Int):List Int:=chosenF o (upTo n) 16
def rankingC:Ctr:={ fn := 29,nv:=4,ip:=[gIp 2],args:=[dgV 0,iv .i64 (.var 1)],heap:=[],ro:=[gHp 2 3],pre:=fun ρ=>allM (rowL (ρ 0).d 32)∧gOk ρ 2 3 gR,alts:=[
 { k:=4,ret:=.one (.vslice 4 (.lit 0) (.var 5) (.var 6) 1),heap:=[iHp 4 7 6],post:=fun ρ=>isInts (ρ 7).d (ρ 5).i (rankingF (rowL (ρ 0).d 32) (ρ 1).i) }] }
def rankingI:Inv:={ key:=3,nv:=7,env:=[(2,objP 1000),(5,.one (.vslice 1001 (.lit 0) (.var 1002) (.var 1003) 1)),(10,iv .i64 (.var 1006)),(11,iv .i64 (.var 1005))],heap:=[objHp 1000,iHp 1001 1004 1003],inv:=(fun ρ=>0 ≤ (ρ 1005).i∧(ρ 1005).i ≤ (ρ 1006).i∧(ρ 1006).i = min (max (ρ 1).i 0) 16∧isInts (ρ 1004).d (ρ 1002).i (upTo (ρ 1005).i)),mu:=(fun ρ=>((ρ 1006).i - (ρ 1005).i).toNat) }
def rankingRC:Ctr:={ rankingC with fn := 30,ip:=[gIs 2],pre:=fun ρ=>allM (rowL (ρ 0).d 32)∧gOk ρ 2 3 gS }
def rankingRI:Inv:={ key:=3,nv:=6,env:=[(1,iv .i64 (.var 1)),(2,objP 1000),(5,.one (.vslice 1001 (.lit 0) (.var 1002) (.var 1003) 1)),(6,iv .i64 (.var 1005))],heap:=[objHp 1000,iHp 1001 1004 1003],inv:=(fun ρ=>0 ≤ (ρ 1005).i∧(ρ 1005).i ≤ min (max (ρ 1).i 0) 16∧isInts (ρ 1004).d (ρ 1002).i (upTo (ρ 1005).i)),mu:=(fun ρ=>(16 - (ρ 1005).i).toNat) }
def dutyF (o:List Int) (self:Int) (L:List Int) (n:Int) (held buried:Bool):Int :=
 if buried then (if held then 3 else 0) else if n < 1 then 0 else if self ∈ chosenF o L n then (if held then 0 else 1) else if held = true∧((chosenF o L n).length:Int) = n then 2 else 0
def duPre (ρ:Env) (g:Nat):Prop:=allM (rowL (ρ 0).d 32)∧intsIn ρ 2∧gOk ρ 10 11 g
def dutyC:Ctr:={ fn := 35,nv:=12,ip:=[gIp 10],args:=[dgV 0,iv .i64 (.var 1),bS 2,iv .i64 (.var 7),.one (.vbool (.var 8)),.one (.vbool (.var 9))],heap:=[],ro:=[iHpA 2,gHp 10 11],pre:=fun ρ=>duPre ρ gR,alts:=[
 { k:=1,ret:=iv .u8 (.var 12),heap:=[],post:=fun ρ=>(ρ 12).i = dutyF (rowL (ρ 0).d 32) (ρ 1).i (ints (ρ 5).d) (ρ 7).i (ρ 8).b (ρ 9).b }] }
end Go.Eng

set_option linter.unusedSimpArgs false
set_option linter.unusedVariables false
set_option maxRecDepth 100000
namespace Go.Proofs
open Go Go.Eng

def o_chosen:Out:=(.fresh 9 (.pre 0 (sg 0 [bv 4 5,bv 3 4,bv 2 3,bv 1 2,bg 0 1]) (.both (.fresh 10 (.fresh 11 (.fresh 12 (.fresh 13 (.fresh 14 (.fresh 15 (.fresh 16 (.fresh 17 (.fresh 18 (.fresh 19 (.fresh 20 (.fresh 21 (.fresh 22 (.fresh 23 (.fresh 24 (.fresh 25 (.post 0 0 (sg 0 [bv 4 5,bv 3 4,bv 2 3,bv 1 2,bg 0 1]) 10 (.inv 0 26 (sg 1000 [bt 1005 .dnil,bt 1001 (.lit 0),bt 1004 (.lit 0),bt 1003 (.lit 0),(1002,.nil),bg 1000 9]) (.fresh 26 (.fresh 27 (.fresh 28 (.fresh 29 (.fresh 30 (.fresh 31 (.hyp 0 26 (.br (.cmp .lss (.var 27) (.lit 16))
 (.need (.cmp .leq (.lit 0) (.var 27)) (.br (.c2 (.xbool 0) (.rcons (.vbool (.var 10)) (.rcons (.vbool (.var 11)) (.rcons (.vbool (.var 12)) (.rcons (.vbool (.var 13)) (.rcons (.vbool (.var 14)) (.rcons (.vbool (.var 15)) (.rcons (.vbool (.var 16)) (.rcons (.vbool (.var 17)) (.rcons (.vbool (.var 18)) (.rcons (.vbool (.var 19)) (.rcons (.vbool (.var 20)) (.rcons (.vbool (.var 21)) (.rcons (.vbool (.var 22)) (.rcons (.vbool (.var 23)) (.rcons (.vbool (.var 24)) (.rcons (.vbool (.var 25)) .rnil)))))))))))))))) (.var 27))
 (.pre 1 (sg 0 [bv 3 8,bv 1 27,bt 0 (r8 0),bg 2 7]) (.both (.fresh 32 (.fresh 33 (.post 1 0 (sg 0 [bv 3 8,bv 1 27,bt 0 (r8 0),bg 2 7]) 32 (.fresh 34 (.need (.cmp .eql (.var 29) (.dlen (.var 31))) (.need (.cmp .leq (.tims (.lit 40) (.plus (.var 29) (.lit 1))) (.lit 140737488355328)) (.fresh 35 (.fresh 36 (.back 0 26 (sg 1000 [bt 1005 (.dapp (.var 31) (.rcons (.vint .i64 (.var 27)) (r8 32))),bt 1001 (.arith .add .i64 (.var 27) (.lit 1)),bv 1004 36,bt 1003 (.plus (.var 29) (.lit 1)),bg 1002 35,bg 1000 26])))))))))) .top))
 (.back 0 26 (sg 1000 [bv 1005 31,bt 1001 (.arith .add .i64 (.var 27) (.lit 1)),bv 1004 30,bv 1003 29,bg 1002 28,bg 1000 26]))))
 (.pre 2 (sg 0 [bv 3 31,bv 2 30,bv 1 29,bg 0 28]) (.both (.fresh 32 (.post 2 0 (sg 0 [bv 3 31,bv 2 30,bv 1 29,bg 0 28]) 32 (.fresh 33 (.need (.cmp .leq (.lit 0) (.var 29)) (.know (.cmp .leq (.dlen (.var 32)) (.var 30)) (.need (.cmp .leq (.lit 0) (.var 30)) (.need (.cmp .leq (.lit 0) (.imin (.imax (.var 6) (.lit 0)) (.var 29))) (.need (.cmp .leq (.imin (.imax (.var 6) (.lit 0)) (.var 29)) (.var 30)) (.inv 1 34 (sg 1000 [bt 1008 .dnil,bv 1007 32,bt 1006 (.lit 0),bt 1005 (.lit 0),bg 1004 33,bt 1003 (.lit 0),bv 1002 30,bt 1001 (.imin (.imax (.var 6) (.lit 0)) (.var 29)),bg 1000 28]) (.fresh 34 (.fresh 35 (.fresh 36 (.fresh 37 (.fresh 38 (.fresh 39 (.fresh 40 (.fresh 41 (.fresh 42 (.hyp 1 34 (.br (.cmp .lss (.var 37) (.var 35))
 (.need (.cmp .leq (.lit 0) (.var 37)) (.need (.cmp .lss (.var 37) (.dlen (.var 41))) (.fresh 43 (.fresh 44 (.need (.cmp .eql (.var 39) (.dlen (.var 42))) (.need (.cmp .leq (.tims (.lit 8) (.plus (.var 39) (.lit 1))) (.lit 140737488355328)) (.fresh 45 (.fresh 46 (.back 1 34 (sg 1000 [bt 1008 (.dapp (.var 42) (.rcons (.vint .i64 (.icell (.var 41) (.var 37) 0)) .rnil)),bv 1007 41,bv 1006 46,bt 1005 (.plus (.var 39) (.lit 1)),bg 1004 45,bt 1003 (.arith .add .i64 (.var 37) (.lit 1)),bv 1002 36,bv 1001 35,bg 1000 34]))))))))))
 (.ret 0 (sg 9 [bv 12 42,bv 11 40,bv 10 39,bg 9 38])))))))))))))))))))))) .top)))))))))))))))))))))))))))) .top)))
theorem o_chosen_eq:treeOf ⟨Tryz.prog,chosenC,[setC,rankC,sortC],[chosenI,chosenJ]⟩ 100000 Tryz.f32 = o_chosen:=by kernel_rfl
theorem chosen_of (hd:∀ c ∈ ([setC,rankC,sortC]:List Ctr),c.ok Tryz.prog) (h:∀ ρ:Env,ρ.good→(chosenC).pre ρ→o_chosen.den ⟨Tryz.prog,chosenC,[setC,rankC,sortC],[chosenI,chosenJ]⟩ ρ):(chosenC).ok Tryz.prog :=
 ok_of_tree Tryz.func32 (fun a w=>Tryz.call32 a w) hd 100000 (fun ρ hg hp=>by rw [o_chosen_eq]; exact h ρ hg hp)
@[simp] def o_chosenR_1:T:=.ife (.var 27) (.arith .add .i64 (.var 33) (.lit 1)) (.lit 0) (.arith .add .i64 (.var 33) (.lit 1))
def o_chosenR:Out:=(.fresh 9 (.pre 0 (sg 0 [bv 4 5,bv 3 4,bv 2 3,bv 1 2,bg 0 1]) (.both (.fresh 10 (.fresh 11 (.fresh 12 (.fresh 13 (.post 0 0 (sg 0 [bv 4 5,bv 3 4,bv 2 3,bv 1 2,bg 0 1]) 10 (.fresh 14 (.inv 0 15 (sg 1000 [bt 1008 .dnil,bv 1004 13,bt 1007 (.lit 0),bt 1006 (.lit 0),bg 1005 14,bv 1003 12,bv 1002 11,bg 1001 10,bg 1000 9]) (.fresh 15 (.fresh 16 (.fresh 17 (.fresh 18 (.fresh 19 (.fresh 20 (.fresh 21 (.fresh 22 (.fresh 23 (.hyp 0 15 (.need (.cmp .leq (.lit 0) (.var 17)) (.br (.cmp .gtr (.var 17) (.lit 0))
 (.need (.cmp .leq (.lit 0) (.var 21)) (.br (.cmp .lss (.var 21) (.var 6))
 (.inv 1 24 (sg 1000 [bv 1008 23,bv 1004 19,bt 1010 (.lit 1),bt 1009 (.lit 0),bv 1007 22,bv 1006 21,bg 1005 20,bv 1003 18,bv 1002 17,bg 1001 16,bg 1000 15]) (.fresh 24 (.fresh 25 (.fresh 26 (.fresh 27 (.fresh 28 (.fresh 29 (.fresh 30 (.fresh 31 (.fresh 32 (.fresh 33 (.fresh 34 (.hyp 1 24 (.need (.cmp .leq (.lit 0) (.var 26)) (.br (.cmp .lss (.var 34) (.var 26))
 (.need (.cmp .leq (.lit 0) (.var 34)) (.need (.cmp .lss (.var 34) (.dlen (.var 28))) (.need (.cmp .leq (.lit 0) (.var 33)) (.need (.cmp .lss (.var 33) (.var 26)) (.need (.cmp .lss (.var 33) (.dlen (.var 28))) (.both (.pre 1 (sg 0 [bv 4 8,bt 2 (.icell (.var 28) (.var 33) 0),bt 1 (.icell (.var 28) (.var 34) 0),bt 0 (r8 0),bg 3 7]) (.both (.fresh 35 (.post 1 0 (sg 0 [bv 4 8,bt 2 (.icell (.var 28) (.var 33) 0),bt 1 (.icell (.var 28) (.var 34) 0),bt 0 (r8 0),bg 3 7]) 35 (.br (.var 35)
 (.back 1 24 (sg 1000 [bv 1008 32,bv 1004 28,bt 1010 (.arith .add .i64 (.var 34) (.lit 1)),bv 1009 34,bv 1007 31,bv 1006 30,bg 1005 29,bv 1003 27,bv 1002 26,bg 1001 25,bg 1000 24]))
 (.back 1 24 (sg 1000 [bv 1008 32,bv 1004 28,bt 1010 (.arith .add .i64 (.var 34) (.lit 1)),bv 1009 33,bv 1007 31,bv 1006 30,bg 1005 29,bv 1003 27,bv 1002 26,bg 1001 25,bg 1000 24]))))) .top)) .top))))))
 (.need (.cmp .leq (.lit 0) (.var 33)) (.need (.cmp .lss (.var 33) (.var 26)) (.need (.cmp .lss (.var 33) (.dlen (.var 28))) (.fresh 35 (.need (.cmp .eql (.var 30) (.dlen (.var 32))) (.need (.cmp .leq (.tims (.lit 8) (.plus (.var 30) (.lit 1))) (.lit 140737488355328)) (.fresh 36 (.fresh 37 (.know (.cmp .leq (.dlen (.var 28)) (.var 27)) (.need (.cmp .leq (.lit 0) (.var 27)) (.need (.cmp .leq (.var 33) (.var 27)) (.need (.cmp .leq (.lit 0) (.arith .add .i64 (.var 33) (.lit 1))) (.need (.cmp .leq (.arith .add .i64 (.var 33) (.lit 1)) (.var 26)) (.need (.cmp .leq (.var 26) (.var 27)) (.both (.fresh 38 (.both (.need (.cmp .leq (.var 33) (.dlen (.var 28))) (.need (.cmp .leq (.tims (.lit 8) (.var 33)) (.lit 140737488355328)) (.fresh 39 (.fresh 40 (.both (.need (.cmp .eql (.var 33) (.dlen (.dtake (.var 28) (.var 33)))) (.need (.cmp .leq (.lit 0) o_chosenR_1) (.need (.cmp .leq (.lit 0) (.minus (.var 26) (.arith .add .i64 (.var 33) (.lit 1)))) (.need (.cmp .leq (.plus o_chosenR_1 (.minus (.var 26) (.arith .add .i64 (.var 33) (.lit 1)))) (.dlen (.var 28))) (.need (.cmp .leq (.tims (.lit 8) (.plus (.var 33) (.minus (.var 26) (.arith .add .i64 (.var 33) (.lit 1))))) (.lit 140737488355328)) (.fresh 41 (.fresh 42 (.both (.back 0 15 (sg 1000 [bt 1008 (.dapp (.var 32) (.rcons (.vint .i64 (.icell (.var 28) (.var 33) 0)) .rnil)),bt 1004 (.dapp (.dtake (.var 28) (.var 33)) (.dtake (.ddrop (.var 28) o_chosenR_1) (.minus (.var 26) (.arith .add .i64 (.var 33) (.lit 1))))),bv 1007 37,bt 1006 (.plus (.var 30) (.lit 1)),bg 1005 36,bv 1003 42,bt 1002 (.plus (.var 33) (.minus (.var 26) (.arith .add .i64 (.var 33) (.lit 1)))),bg 1001 41,bg 1000 24])) .top)))))))) .top))))) .top)) .top))))))))))))))))))))))))))))))
 (.ret 0 (sg 9 [bv 12 23,bv 11 22,bv 10 21,bg 9 20]))))
 (.ret 0 (sg 9 [bv 12 23,bv 11 22,bv 10 21,bg 9 20]))))))))))))))))))))) .top)))
theorem o_chosenR_eq:treeOf ⟨Tryz.prog,chosenRC,[peersC,betterRC],[chosenRI,chosenRJ]⟩ 100000 Tryz.f38 = o_chosenR:=by kernel_rfl
theorem chosenR_of (hd:∀ c ∈ ([peersC,betterRC]:List Ctr),c.ok Tryz.prog) (h:∀ ρ:Env,ρ.good→(chosenRC).pre ρ→o_chosenR.den ⟨Tryz.prog,chosenRC,[peersC,betterRC],[chosenRI,chosenRJ]⟩ ρ):(chosenRC).ok Tryz.prog :=
 ok_of_tree Tryz.func38 (fun a w=>Tryz.call38 a w) hd 100000 (fun ρ hg hp=>by rw [o_chosenR_eq]; exact h ρ hg hp)
def o_ranking:Out:=(.fresh 4 (.fresh 5 (.inv 0 6 (sg 1000 [bt 1004 .dnil,bt 1005 (.lit 0),bt 1006 (.imin (.imax (.var 1) (.lit 0)) (.lit 16)),bt 1003 (.lit 0),bt 1002 (.lit 0),bg 1001 5,bg 1000 4]) (.fresh 6 (.fresh 7 (.fresh 8 (.fresh 9 (.fresh 10 (.fresh 11 (.fresh 12 (.hyp 0 6 (.br (.cmp .lss (.var 11) (.var 12))
 (.fresh 13 (.need (.cmp .eql (.var 8) (.dlen (.var 10))) (.need (.cmp .leq (.tims (.lit 8) (.plus (.var 8) (.lit 1))) (.lit 140737488355328)) (.fresh 14 (.fresh 15 (.back 0 6 (sg 1000 [bt 1004 (.dapp (.var 10) (.rcons (.vint .i64 (.var 11)) .rnil)),bt 1005 (.arith .add .i64 (.var 11) (.lit 1)),bv 1006 12,bv 1003 15,bt 1002 (.plus (.var 8) (.lit 1)),bg 1001 14,bg 1000 6])))))))
 (.pre 0 (sg 0 [bv 8 3,bv 5 9,bv 4 10,bt 6 (.lit 16),bv 3 9,bv 2 8,bg 1 7,bt 0 (r8 0),bg 7 2]) (.both (.fresh 13 (.fresh 14 (.fresh 15 (.fresh 16 (.post 0 0 (sg 0 [bv 8 3,bv 5 9,bv 4 10,bt 6 (.lit 16),bv 3 9,bv 2 8,bg 1 7,bt 0 (r8 0),bg 7 2]) 13 (.ret 0 (sg 4 [bv 7 16,bv 6 15,bv 5 14,bg 4 13]))))))) .top))))))))))))))
theorem o_ranking_eq:treeOf ⟨Tryz.prog,rankingC,[chosenC],[rankingI]⟩ 100000 Tryz.f29 = o_ranking:=by kernel_rfl
theorem ranking_of (hd:∀ c ∈ ([chosenC]:List Ctr),c.ok Tryz.prog) (h:∀ ρ:Env,ρ.good→(rankingC).pre ρ→o_ranking.den ⟨Tryz.prog,rankingC,[chosenC],[rankingI]⟩ ρ):(rankingC).ok Tryz.prog :=
 ok_of_tree Tryz.func29 (fun a w=>Tryz.call29 a w) hd 100000 (fun ρ hg hp=>by rw [o_ranking_eq]; exact h ρ hg hp)
@[simp] def o_rankingR_1:Out:=.pre 0 (sg 0 [bv 8 3,bv 5 9,bv 4 10,bt 6 (.lit 16),bv 3 9,bv 2 8,bg 1 7,bt 0 (r8 0),bg 7 2]) (.both (.fresh 12 (.fresh 13 (.fresh 14 (.fresh 15 (.post 0 0 (sg 0 [bv 8 3,bv 5 9,bv 4 10,bt 6 (.lit 16),bv 3 9,bv 2 8,bg 1 7,bt 0 (r8 0),bg 7 2]) 12 (.ret 0 (sg 4 [bv 7 15,bv 6 14,bv 5 13,bg 4 12]))))))) .top)
def o_rankingR:Out:=(.fresh 4 (.fresh 5 (.inv 0 6 (sg 1000 [bt 1004 .dnil,bt 1005 (.lit 0),bt 1003 (.lit 0),bt 1002 (.lit 0),bg 1001 5,bg 1000 4]) (.fresh 6 (.fresh 7 (.fresh 8 (.fresh 9 (.fresh 10 (.fresh 11 (.hyp 0 6 (.br (.cmp .lss (.var 11) (.var 1))
 (.br (.cmp .lss (.var 11) (.lit 16))
 (.fresh 12 (.need (.cmp .eql (.var 8) (.dlen (.var 10))) (.need (.cmp .leq (.tims (.lit 8) (.plus (.var 8) (.lit 1))) (.lit 140737488355328)) (.fresh 13 (.fresh 14 (.back 0 6 (sg 1000 [bt 1004 (.dapp (.var 10) (.rcons (.vint .i64 (.var 11)) .rnil)),bt 1005 (.arith .add .i64 (.var 11) (.lit 1)),bv 1003 14,bt 1002 (.plus (.var 8) (.lit 1)),bg 1001 13,bg 1000 6])))))))
 o_rankingR_1)
 o_rankingR_1)))))))))))
theorem o_rankingR_eq:treeOf ⟨Tryz.prog,rankingRC,[chosenRC],[rankingRI]⟩ 100000 Tryz.f30 = o_rankingR:=by kernel_rfl
theorem rankingR_of (hd:∀ c ∈ ([chosenRC]:List Ctr),c.ok Tryz.prog) (h:∀ ρ:Env,ρ.good→(rankingRC).pre ρ→o_rankingR.den ⟨Tryz.prog,rankingRC,[chosenRC],[rankingRI]⟩ ρ):(rankingRC).ok Tryz.prog :=
 ok_of_tree Tryz.func30 (fun a w=>Tryz.call30 a w) hd 100000 (fun ρ hg hp=>by rw [o_rankingR_eq]; exact h ρ hg hp)
def o_duty:Out:=(.fresh 12 (.br (.var 9)
 (.br (.var 8)
 (.ret 0 (sg 12 [bt 12 (.lit 3)]))
 (.ret 0 (sg 12 [bt 12 (.lit 0)])))
 (.br (.cmp .lss (.var 7) (.lit 1))
 (.ret 0 (sg 12 [bt 12 (.lit 0)]))
 (.pre 0 (sg 0 [bv 8 11,bv 5 6,bv 4 5,bv 6 7,bv 3 4,bv 2 3,bg 1 2,bt 0 (r8 0),bg 7 10]) (.both (.fresh 13 (.fresh 14 (.fresh 15 (.fresh 16 (.post 0 0 (sg 0 [bv 8 11,bv 5 6,bv 4 5,bv 6 7,bv 3 4,bv 2 3,bg 1 2,bt 0 (r8 0),bg 7 10]) 13 (.pre 1 (sg 0 [bv 4 15,bv 3 16,bv 5 1,bv 2 15,bv 1 14,bg 0 13]) (.both (.fresh 17 (.post 1 0 (sg 0 [bv 4 15,bv 3 16,bv 5 1,bv 2 15,bv 1 14,bg 0 13]) 17 (.br (.var 17)
 (.br (.not (.var 8))
 (.ret 0 (sg 12 [bt 12 (.lit 1)]))
 (.ret 0 (sg 12 [bt 12 (.lit 0)])))
 (.br (.var 8)
 (.need (.cmp .leq (.lit 0) (.var 14)) (.br (.cmp .eql (.var 14) (.var 7))
 (.ret 0 (sg 12 [bt 12 (.lit 2)]))
 (.ret 0 (sg 12 [bt 12 (.lit 0)]))))
 (.ret 0 (sg 12 [bt 12 (.lit 0)])))))) .top))))))) .top)))))
theorem o_duty_eq:treeOf ⟨Tryz.prog,dutyC,[chosenC,containsC],[]⟩ 100000 Tryz.f35 = o_duty:=by kernel_rfl
theorem duty_of (hd:∀ c ∈ ([chosenC,containsC]:List Ctr),c.ok Tryz.prog) (h:∀ ρ:Env,ρ.good→(dutyC).pre ρ→o_duty.den ⟨Tryz.prog,dutyC,[chosenC,containsC],[]⟩ ρ):(dutyC).ok Tryz.prog :=
 ok_of_tree Tryz.func35 (fun a w=>Tryz.call35 a w) hd 100000 (fun ρ hg hp=>by rw [o_duty_eq]; exact h ρ hg hp)
end Go.Proofs

set_option linter.unusedSimpArgs false
set_option linter.unusedVariables false
namespace Go.Proofs
open Go Go.Eng
variable {o:List Int}
theorem le_cmpF {a b:Int}:(!betF o b a) = true↔cmpF o a b ≤ 0:=by
 rw [bet_cmp,Bool.not_eq_true',decide_eq_false_iff_not,cmpF_neg (a:=a) (b:=b)]; omega
theorem sortF_perm {l:List Int}:(sortF o l).Perm l:=List.mergeSort_perm l _
theorem sortF_le {l:List Int}:(sortF o l).Pairwise fun a b=>(!betF o b a) = true:=by
 refine List.pairwise_mergeSort (fun a b c h1 h2=>?_) (fun a b=>?_) l
 ·rw [le_cmpF] at h1 h2 ⊢
  by_cases e1:cmpF o a b = 0
  ·rw [cmpF_zero.1 e1]; exact h2
  ·by_cases e2:cmpF o b c = 0
   ·rw [← cmpF_zero.1 e2]; exact h1
   ·have:=cmpF_trans (o:=o) (a:=a) (b:=b) (c:=c) (by omega) (by omega)
    omega
 ·rw [Bool.or_eq_true,le_cmpF,le_cmpF,cmpF_neg (a:=a) (b:=b)]; omega
theorem sortF_ranked {l:List Int} (h:l.Nodup):rankedP o l (sortF o l):=by
 refine ⟨sortF_perm,?_⟩
 have hn:(sortF o l).Nodup:=sortF_perm.nodup_iff.2 h
 refine List.Pairwise.imp₂ (fun a b h1 h2=>?_) sortF_le hn
 rcases bet_total (o:=o) h2 with h | h
 ·exact h
 ·rw [h] at h1; cases h1
theorem sortF_uniq {l m:List Int} (h:rankedP o l m) (hn:l.Nodup):m = sortF o l:=ranked_uniq h (sortF_ranked hn)
theorem mem_sortF {l:List Int} {x:Int}:x ∈ sortF o l↔x ∈ l:=sortF_perm.mem_iff
theorem len_sortF {l:List Int}:(sortF o l).length = l.length:=sortF_perm.length_eq
theorem sortF_best {l:List Int} (hn:l.Nodup) {b:Nat} (hb:bestP o l b l.length):sortF o l = l.getD b 0 :: sortF o (l.take b ++ l.drop (b + 1)):=by
 obtain ⟨hlt,_,hbest⟩:=hb
 have hget:l.getD b 0 = l[b]:=by rw [List.getD_eq_getElem?_getD,List.getElem?_eq_getElem hlt]; rfl
 have hsplit:l = l.take b ++ (l[b] :: l.drop (b + 1)):=by
  rw [← List.drop_eq_getElem_cons hlt,List.take_append_drop]
 have hperm:l.Perm (l[b] :: (l.take b ++ l.drop (b + 1))):=by
  conv=>lhs; rw [hsplit]
  exact List.perm_middle
 have hn2:(l[b] :: (l.take b ++ l.drop (b + 1))).Nodup:=hperm.nodup_iff.1 hn
 rw [hget]
 refine (sortF_uniq ⟨?_,?_⟩ hn).symm
 ·exact (List.Perm.cons _ sortF_perm).trans hperm.symm
 ·rw [List.pairwise_cons]
  refine ⟨fun x hx=>?_,(sortF_ranked (List.nodup_cons.1 hn2).2).2⟩
  rw [mem_sortF] at hx
  have hxl:x ∈ l:=hperm.mem_iff.2 (List.mem_cons_of_mem _ hx)
  obtain ⟨j,hj,rfl⟩:=List.getElem_of_mem hxl
  have hjb:j ≠ b:=fun he=>by subst he; exact (List.nodup_cons.1 hn2).1 hx
  have:=hbest j hj hjb
  rwa [hget,List.getD_eq_getElem?_getD,List.getElem?_eq_getElem hj] at this
theorem peersTo_mem {L:List Int} {n:Nat} {x:Int}:x ∈ peersTo L n↔0 ≤ x∧x < n∧x ∈ L:=by
 unfold peersTo
 rw [List.mem_filter,List.mem_map]
 constructor
 ·rintro ⟨⟨i,hi,rfl⟩,h⟩
  rw [List.mem_range] at hi
  exact ⟨by omega,by omega,of_decide_eq_true h⟩
 ·rintro ⟨h0,h1,h2⟩
  exact ⟨⟨x.toNat,List.mem_range.2 (by omega),by omega⟩,decide_eq_true h2⟩
theorem rangeI_nodup {n:Nat}:((List.range n).map fun (i:Nat)=>(i:Int)).Nodup:=by
 rw [List.Nodup,List.pairwise_map]
 exact List.Pairwise.imp (fun h he=>h (by omega)) List.nodup_range
theorem peersTo_nodup {L:List Int} {n:Nat}:(peersTo L n).Nodup:=List.Nodup.sublist List.filter_sublist rangeI_nodup
theorem peersL_eq {L:List Int}:peersL L = peersTo L 16:=rfl
theorem peersL_mem {L:List Int} {x:Int}:x ∈ peersL L↔0 ≤ x∧x < 16∧x ∈ L:=by rw [peersL_eq,peersTo_mem]; rfl
theorem scoreF_allM {p:Int}:allM (scoreF o p):=sha_allM _
theorem scoreF_len {p:Int}:(scoreF o p).length = 32:=sha_len
theorem rkRow_len {p:Int}:(rkRow o p).length = 33:=by simp [rkRow,scoreF_len]
theorem rows_int {l:List Int}:ints (l.map (rkRow o)) = l:=by
 unfold ints
 rw [List.map_map]
 conv=>rhs; rw [← List.map_id l]
 exact List.map_congr_left fun x _=>rfl
end Go.Proofs
