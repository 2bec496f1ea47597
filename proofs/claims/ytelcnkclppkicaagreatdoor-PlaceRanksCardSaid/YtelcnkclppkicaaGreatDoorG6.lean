/- Texts DR, DV, DW, BJ, BL, BM, BN, BO, BQ, BR, BS, DP, ZC, ZT, ZP, ZO, ZN, ZQ, ZR. -/
import Derived.Test.YtelcnkclppkicaaGreatDoorG5
import Derived.Test.YtelcnkclppkicaaGreatDoorProg
import Derived.Tactics
import Derived.Tactics2
import Derived.Defers
import Derived.Laws.Pointers
import Derived.Laws.LoneSync
import Derived.RegionTactic
import Derived.RegionCalls
import Derived.ChangeAlike
set_option linter.unusedSimpArgs false
set_option linter.unusedVariables false
namespace Go.Proofs
open Go Go.Eng
theorem wThen_full {lim:Int} {f:Bool} {m s:List Int} (h:wFull lim f m s.length = true):wThen lim f m s = (true,m):=by rw [wThen,if_pos h]
theorem wThen_fits {lim:Int} {f:Bool} {m s:List Int} (h:¬ wFull lim f m s.length = true):wThen lim f m s = (false,m ++ s):=by rw [wThen,if_neg h]
theorem room_ok:roomC.ok Tryz.prog:=room_of (by simp) fun ρ hg hp=>by
 obtain ⟨⟨w0,w1,w2,w3,w5⟩,k0,k1⟩:=hp
 simp [o_room,roomC,wHeap,wCells,wFull]
 refine ⟨fun h=>⟨fun _=>h,h⟩,fun h=>⟨by omega,?_⟩⟩
 rw [sub64 (by omega) (by omega),h,bI_len,← w2]
 simp [cmpOf]
theorem newWriter_ok:newWriterC.ok Tryz.prog:=newWriter_of (by simp) fun ρ hg hp=>by
 simp [o_newWriter,newWriterC]
 omega
theorem cloneB_ok:cloneBC.ok Tryz.prog:=cloneB_of (by simp) fun ρ hg hp=>by
 obtain ⟨h0,h1,h2⟩:=hp
 simp [o_cloneB,cloneBC]
 refine ⟨fun h _=>⟨by rw [h] at h1; simpa using h1,h⟩,fun _=>⟨h0,by omega,h2,?_⟩⟩
 rw [List.take_of_length_le (by omega)]
theorem bytes_ok:bytesC.ok Tryz.prog:=bytes_of (by simp [cloneB_ok]) fun ρ hg hp=>by
 obtain ⟨⟨w0,w1,w2,w3,w5⟩,hq⟩:=hp
 simp [o_bytes,bytesC,cloneBC,wHeap,wCells]
 exact fun hf=>⟨⟨by omega,w2,hq⟩,fun d _ hd=>⟨hf,hd⟩⟩
theorem bI_app {a b:Rows'}:bI (a ++ b) = bI a ++ bI b:=by simp [bI]
theorem allB_app {a b:Rows'} (h:allB a) (h':allB b):allB (a ++ b):=fun r hr=>(List.mem_append.1 hr).elim (h r) (h' r)
theorem w_fits {lim n c k:Int} {f:Bool} {d x:Rows'} {s:List Int} (hw:wOk lim n c d) (h:wFull lim f (bI d) k = false) (hx:bI x = s) (hB:allB x) (hk:(x.length:Int) = k) (c2:Int):wOk lim (n + k) c2 (d ++ x)∧(false,bI (d ++ x)) = wThen lim f (bI d) s:=by
 obtain ⟨w0,w1,w2,w3,w5⟩:=hw
 have hs:(s.length:Int) = k:=by rw [← hx,bI_len,hk]
 have hd:(bI d).length = d.length:=bI_len
 refine ⟨⟨w0,w1,by rw [List.length_append]; omega,?_,allB_app w5 hB⟩,?_⟩
 ·simp [wFull] at h; omega
 ·rw [wThen_fits (by rw [hs,h]; decide),bI_app,hx]
theorem w_full {lim k:Int} {f:Bool} {d:Rows'} {s:List Int} (h:wFull lim f (bI d) k = true) (hk:(s.length:Int) = k):(true,bI d) = wThen lim f (bI d) s:=by rw [wThen_full (by rw [hk,h])]
theorem raw32_ok:raw32C.ok Tryz.prog:=raw32_of (by simp [room_ok]) fun ρ hg hp=>by
 obtain ⟨hw,q,hr,hB⟩:=hp
 simp [o_raw32,raw32C,roomC,wHeap,wCells,wPost]
 have w2:=hw.2.2.1
 refine ⟨hw,fun u _ f _ hf hu=>⟨fun h=>?_,fun h=>⟨hw,?_⟩⟩⟩
 ·have hff:f.b = false:=by rw [h] at hu; simpa using hu.symm
  rw [hff] at hf ⊢
  have hx:bI (xrowsD (ρ 8).d 0 32) = rowL (ρ 8).d 32:=by rw [xrows_bI hr,List.drop_zero,List.take_of_length_le (by rw [rowL_len]; decide)]
  refine ⟨w2,by rw [oneRow_len hr]; decide,q,fun c _=>w_fits hw hf.symm hx (xrows_allB hr hB) (by rw [xrows_len hr (by omega)]; rfl) _⟩
 ·have hff:f.b = true:=by rw [h] at hu; simpa using hu.symm
  rw [hff] at hf ⊢
  exact w_full hf.symm (by rw [rowL_len]; rfl)
theorem rawM_ok:rawMC.ok Tryz.prog:=rawM_of (by simp [room_ok]) fun ρ hg hp=>by
 obtain ⟨hw,q,hr,hB⟩:=hp
 simp [o_rawM,rawMC,roomC,wHeap,wCells,wPost]
 have w2:=hw.2.2.1
 have hlen:((rowL (ρ 8).d 36).drop 4).length = 32:=by rw [List.length_drop,rowL_len]
 refine ⟨hw,fun u _ f _ hf hu=>⟨fun h=>?_,fun h=>⟨hw,?_⟩⟩⟩
 ·have hff:f.b = false:=by rw [h] at hu; simpa using hu.symm
  rw [hff] at hf ⊢
  have h36:(rowL (ρ 8).d 37).take 36 = rowL (ρ 8).d 36:=by
   rw [rowL,rowL,← List.map_take]; rfl
  have hx:bI (xrowsD (ρ 8).d 4 32) = (rowL (ρ 8).d 36).drop 4:=by
   rw [xrows_bI hr,← h36,List.drop_take]
  have hBx:allB (xrowsD (ρ 8).d 4 32):=fun row hrow=>by
   have h2:rowI row 0 ∈ bI (xrowsD (ρ 8).d 4 32):=List.mem_map.2 ⟨row,hrow,rfl⟩
   rw [hx] at h2; exact hB _ h2
  refine ⟨w2,by rw [oneRow_len hr]; decide,q,fun c _=>w_fits hw hf.symm hx hBx (by rw [xrows_len hr (by omega)]; rfl) _⟩
 ·have hff:f.b = true:=by rw [h] at hu; simpa using hu.symm
  rw [hff] at hf ⊢
  exact w_full hf.symm (by rw [hlen]; rfl)
theorem beL_take {v:Int} {n k:Nat} (h:k < n):(beL v n).take (k + 1) = (beL v n).take k ++ [(v.fdiv (2 ^ (8 * (n - 1 - k)))) % 256]:=by
 rw [List.take_add_one,List.getElem?_eq_getElem (by rw [beL_len]; exact h)]
 simp [beL]
theorem number_ok:numberC.ok Tryz.prog:=number_of (by simp [room_ok]) fun ρ hg hp=>by
 obtain ⟨hw,q,k0,k1,v0,v1⟩:=hp
 simp [o_number,numberC,numberI,roomC,wHeap,wCells,wPost]
 have w2:=hw.2.2.1
 have hsub:arithOf .sub .i64 (ρ 8).i 1 = (ρ 8).i - 1:=sub64 (by omega) (by omega)
 obtain ⟨N,hN⟩:∃ N:Nat,(ρ 8).i = N:=⟨(ρ 8).i.toNat,by omega⟩
 have hbl:((beL (ρ 7).i (ρ 8).i.toNat).length:Int) = (ρ 8).i:=by rw [beL_len]; omega
 rw [hsub]
 refine ⟨⟨hw,k0,by omega⟩,fun u _ f _ hf hu=>⟨fun h=>?_,fun h=>⟨hw,?_⟩⟩⟩
 ·have hff:f.b = false:=by rw [h] at hu; simpa using hu.symm
  rw [hff] at hf
  have hfit:(ρ 2).b = false∧(ρ 8).i ≤ (ρ 1).i - (ρ 4).i:=by
   have:=hf.symm
   have hd:(bI (ρ 6).d).length = (ρ 6).d.length:=bI_len
   simp [wFull] at this
   exact ⟨this.1,by omega⟩
  refine ⟨hff,⟨by omega,by omega,w2,hfit.1,hfit.2,hw.2.2.2.2,.inl (by omega)⟩,fun l _ c _ d _ t _ t0 t1 hl _ _ hB hd=>⟨fun hge=>?_,fun hlt=>?_⟩⟩
  ·obtain ⟨T,hT⟩:∃ T:Nat,t.i = T:=⟨t.i.toNat,by omega⟩
   have m1:arithOf .mul .i64 8 t.i = ((8 * T:Nat):Int):=by rw [mul64 (by omega) (by omega)]; omega
   have m2:arithOf .sub .i64 t.i 1 = t.i - 1:=sub64 (by omega) (by omega)
   have hdl:d.d.length = (ρ 6).d.length + (N - 1 - T):=by
    have:=congrArg List.length hd
    rw [bI_len,List.length_append,bI_len,List.length_take,beL_len] at this
    omega
   rw [m1,m2,shr_u64 (by omega),wrap8]
   refine ⟨by omega,hl,by omega,⟨by omega,by omega,hl,hfit.1,hfit.2,allB_app hB ?_,?_⟩,by omega⟩
   ·intro row hrow
    obtain rfl:=List.mem_singleton.1 hrow
    simp [rowI,vInt]; omega
   ·rw [bI_app,hd,List.append_assoc,show ((ρ 8).i - 1 - (t.i - 1)).toNat = (N - 1 - T) + 1 by omega,show ((ρ 8).i - 1 - t.i).toNat = N - 1 - T by omega,show (ρ 8).i.toNat = N by omega,beL_take (by omega),show N - 1 - (N - 1 - T) = T by omega]
    rfl
  ·have ht:t.i = -1:=by omega
   have hx:bI d.d = bI (ρ 6).d ++ beL (ρ 7).i (ρ 8).i.toNat:=by
    rw [hd,ht,List.take_of_length_le (by rw [beL_len]; omega)]
   have hdl:(d.d.length:Int) = (ρ 6).d.length + (ρ 8).i:=by
    have:=congrArg List.length hx
    rw [bI_len,List.length_append,bI_len,beL_len] at this
    omega
   obtain ⟨w0,w1,_,w3,w5⟩:=hw
   refine ⟨⟨w0,w1,hl,by omega,hB⟩,?_⟩
   rw [wThen_fits (by rw [hbl,← hf]; decide),hx]
 ·have hff:f.b = true:=by rw [h] at hu; simpa using hu.symm
  rw [hff] at hf ⊢
  exact w_full hf.symm hbl
theorem u8_ok:u8C.ok Tryz.prog:=u8_of (by simp [number_ok]) fun ρ hg hp=>by
 obtain ⟨hw,q,v0,v1⟩:=hp
 simp [o_u8,u8C,numFn,numberC,wHeap,wCells,wPost]
 have hv:IntKind.u64.wrap (ρ 7).i = (ρ 7).i:=by simp [IntKind.wrap,IntKind.bits,IntKind.signed]; omega
 rw [hv]
 exact ⟨⟨hw,q,v0,by omega⟩,fun _ _ _ _ _ _ _ _ h1 h2=>⟨h1,h2⟩⟩
theorem u16_ok:u16C.ok Tryz.prog:=u16_of (by simp [number_ok]) fun ρ hg hp=>by
 obtain ⟨hw,q,v0,v1⟩:=hp
 simp [o_u16,u16C,numFn,numberC,wHeap,wCells,wPost]
 have hv:IntKind.u64.wrap (ρ 7).i = (ρ 7).i:=by simp [IntKind.wrap,IntKind.bits,IntKind.signed]; omega
 rw [hv]
 exact ⟨⟨hw,q,v0,by omega⟩,fun _ _ _ _ _ _ _ _ h1 h2=>⟨h1,h2⟩⟩
end Go.Proofs

set_option linter.unusedSimpArgs false
set_option linter.unusedVariables false
set_option maxRecDepth 100000
namespace Go.Proofs
open Go Go.Eng

end Go.Proofs

set_option linter.unusedSimpArgs false
set_option linter.unusedVariables false
namespace Go.Proofs
open Go Go.Eng
theorem segB_all {d:Rows'} {l:Int} (h:l = d.length):segB d 0 l = bI d:=by
 rw [segB,h,Int.toNat_natCast,Int.toNat_zero,List.drop_zero,List.take_of_length_le (by rw [bI_len]; omega)]
theorem allB_tk {d:Rows'} {n:Nat} (h:allB d):allB (d.take n):=fun r hr=>h r (List.take_subset _ _ hr)
end Go.Proofs

set_option linter.unusedSimpArgs false
set_option linter.unusedVariables false
namespace Go.Proofs
open Go Go.Eng
set_option maxRecDepth 20000
end Go.Proofs

set_option linter.unusedSimpArgs false
set_option linter.unusedVariables false
namespace Go.Eng
open Go Go.Proofs
def k8:List CK:=List.replicate 8 (.int .u32)
def w8Hp (r d:Nat):SH:=.arr r 207 k8 (.var d) (.lit 1)
def w8Z (r:Nat):SH:=.cells r 207 (List.replicate 8 (.vint .u32 (.lit 0)))
def w8A (r:Nat):SV:=.one (.vptr r (.lit 0) 8 0)
def words8 (d:Rows'):Prop:=∀ j,j < 8→isW (cellX d j)
def words64 (d:Rows'):Prop:=∀ j,j < 64→isW (cellX d j)
def kW (d:Rows'):List W32:=wordsK (rowL d 64)
def roundC:Ctr:={ fn := 138,nv:=8,args:=[.agg (cellsT .u32 0 8),.agg (cellsT .u32 1 64),bSl 2 3 4 5],heap:=[],ro:=[bHp 2 6 7],pre:=fun ρ=>words8 (ρ 0).d∧words64 (ρ 1).d∧0 ≤ (ρ 3).i∧(ρ 4).i = 64∧(ρ 3).i + 64 ≤ (ρ 6).d.length∧allB (ρ 6).d,alts:=[
 { k:=1,ret:=.agg (cellsT .u32 8 8),heap:=[],post:=fun ρ=>words8 (ρ 8).d∧stOf (rowL (ρ 8).d 8) = blockS (kW (ρ 1).d) (stOf (rowL (ρ 0).d 8)) (wordsAt (segB (ρ 6).d (ρ 3).i 64) 0) }] }
def blkS (ρ:Env):List W32:=schedL (wordsAt (segB (ρ 6).d (ρ 3).i 64) 0) 48
def roundEnv:List (Nat × SV):=[(3,w8A 1000),(4,wArg 1002),(6,w8A 1004),(7,wArg 1005)]
def roundIn (ρ:Env):Prop:=oneRow (ρ 1003).d 64∧rowL (ρ 1003).d 64 = rowL (ρ 1).d 64
def roundA:Inv:={ key:=3,nv:=8,env:=roundEnv ++ [(2,bSl 2 3 4 5),(8,iv .i64 (.var 1007))],heap:=[w8Hp 1000 1001,wHp 1002 1003,w8Z 1004,wHp 1005 1006],inv:=(fun ρ=>roundIn ρ∧oneRow (ρ 1001).d 8∧rowL (ρ 1001).d 8 = rowL (ρ 0).d 8∧0 ≤ (ρ 1007).i∧(ρ 1007).i ≤ 64∧wordIs (ρ 1006).d (blkS ρ) (ρ 1007).i.toNat),mu:=(fun ρ=>(64 - (ρ 1007).i).toNat) }
def roundB:Inv:={ key:=12,nv:=10,env:=roundEnv ++ [(11,w8A 1008),(12,iv .i64 (.var 1007))],heap:=[w8Hp 1000 1001,wHp 1002 1003,w8Z 1004,wHp 1005 1006,w8Hp 1008 1009],inv:=(fun ρ=>roundIn ρ∧oneRow (ρ 1001).d 8∧rowL (ρ 1001).d 8 = rowL (ρ 0).d 8∧0 ≤ (ρ 1007).i∧(ρ 1007).i ≤ 64∧wordIs (ρ 1006).d (blkS ρ) 64∧oneRow (ρ 1009).d 8∧words8 (ρ 1009).d∧stOf (rowL (ρ 1009).d 8) = rnds (stOf (rowL (ρ 0).d 8)) (kW (ρ 1).d) (blkS ρ) (ρ 1007).i.toNat),mu:=(fun ρ=>(64 - (ρ 1007).i).toNat) }
def roundD:Inv:={ key:=21,nv:=10,env:=[(3,w8A 1000),(6,w8A 1004),(11,w8A 1008),(19,iv .i64 (.var 1007))],heap:=[w8Hp 1000 1001,w8Z 1004,w8Hp 1008 1009],inv:=(fun ρ=>oneRow (ρ 1001).d 8∧0 ≤ (ρ 1007).i∧(ρ 1007).i ≤ 8∧oneRow (ρ 1009).d 8∧words8 (ρ 1009).d∧stOf (rowL (ρ 1009).d 8) = rnds (stOf (rowL (ρ 0).d 8)) (kW (ρ 1).d) (blkS ρ) 64∧(∀ j,j < 8→cellX (ρ 1001).d j = if j < (ρ 1007).i.toNat then ofW (toW (cellX (ρ 0).d j) + toW (cellX (ρ 1009).d j)) else cellX (ρ 0).d j)),mu:=(fun ρ=>(8 - (ρ 1007).i).toNat) }
def padZ (l:Nat):Nat:=64 - (l + 8) % 64 - 1
def foldC:Ctr:={ fn := 117,nv:=7,ip:=[(54,2)],args:=[bS 0,.agg (cellsT .u32 5 64),.agg (cellsT .u32 6 8)],heap:=[],ro:=[bSHp 0],pre:=fun ρ=>(ρ 1).i = (ρ 3).d.length∧(ρ 1).i ≤ 1000000000000∧allB (ρ 3).d∧words64 (ρ 5).d∧words8 (ρ 6).d,alts:=[
 { k:=1,ret:=dgV 7,heap:=[],post:=fun ρ=>rowL (ρ 7).d 32 = shaK (kW (ρ 5).d) (stOf (rowL (ρ 6).d 8)) (bI (ρ 3).d) }] }
def foldEnv:List (Nat × SV):=[(4,wArg 1000),(5,w8A 1002),(6,dgP 1004),(7,.one (.vslice 1005 (.lit 0) (.var 1006) (.var 1007) 1))]
def foldHp:List SH:=[wHp 1000 1001,w8Hp 1002 1003,dgZ 1004,bHp 1005 1008 1007]
def foldIn (ρ:Env):Prop:=(∀ j,j < 64→cellX (ρ 1001).d j = cellX (ρ 5).d j)∧oneRow (ρ 1001).d 64∧oneRow (ρ 1003).d 8∧(ρ 1006).i = (ρ 1008).d.length∧allB (ρ 1008).d
def foldA:Inv:={ key:=2,nv:=9,env:=foldEnv ++ [(0,bS 0)],heap:=foldHp,inv:=(fun ρ=>foldIn ρ∧(∀ j,j < 8→cellX (ρ 1003).d j = cellX (ρ 6).d j)∧∃ z:Nat,z ≤ padZ (ρ 3).d.length∧bI (ρ 1008).d = bI (ρ 3).d ++ 128 :: List.replicate z 0),mu:=(fun ρ=>((ρ 3).d.length + 1 + padZ (ρ 3).d.length - (ρ 1006).i).toNat) }
def foldB:Inv:={ key:=6,nv:=11,env:=foldEnv ++ [(0,bS 0),(8,.one (.vint .u64 (.var 1010))),(9,iv .i64 (.var 1009))],heap:=foldHp,inv:=(fun ρ=>foldIn ρ∧(∀ j,j < 8→cellX (ρ 1003).d j = cellX (ρ 6).d j)∧-1 ≤ (ρ 1009).i∧(ρ 1009).i ≤ 7∧(ρ 1010).i = (ρ 1).i * 8∧bI (ρ 1008).d = bI (ρ 3).d ++ 128 :: (List.replicate (padZ (ρ 3).d.length) 0 ++ (beL ((ρ 1).i * 8) 8).take (7 - (ρ 1009).i).toNat)),mu:=(fun ρ=>((ρ 1009).i + 1).toNat) }
def foldD:Inv:={ key:=10,nv:=10,env:=foldEnv ++ [(10,iv .i64 (.var 1009))],heap:=foldHp,inv:=(fun ρ=>foldIn ρ∧words8 (ρ 1003).d∧bI (ρ 1008).d = padL (bI (ρ 3).d)∧∃ n:Nat,(ρ 1009).i = 64 * n∧64 * n ≤ (ρ 1008).d.length∧stOf (rowL (ρ 1003).d 8) = stAt (kW (ρ 5).d) (stOf (rowL (ρ 6).d 8)) (padL (bI (ρ 3).d)) n),mu:=(fun ρ=>((ρ 1008).d.length - (ρ 1009).i).toNat) }
def foldE:Inv:={ key:=15,nv:=8,env:=[(5,w8A 1002),(6,dgP 1004),(11,dgP 1005),(12,iv .i64 (.var 1007))],heap:=[w8Hp 1002 1003,dgZ 1004,dgHp 1005 1006],inv:=(fun ρ=>oneRow (ρ 1003).d 8∧words8 (ρ 1003).d∧stOf (rowL (ρ 1003).d 8) = stAt (kW (ρ 5).d) (stOf (rowL (ρ 6).d 8)) (padL (bI (ρ 3).d)) ((padL (bI (ρ 3).d)).length / 64)∧oneRow (ρ 1006).d 32∧0 ≤ (ρ 1007).i∧(ρ 1007).i ≤ 32∧∀ j,j < (ρ 1007).i.toNat→cellX (ρ 1006).d j = (bytesS (stOf (rowL (ρ 1003).d 8))).getD j 0),mu:=(fun ρ=>(32 - (ρ 1007).i).toNat) }
def gS:Nat := 0
def gIs (r:Nat):Nat × Nat:=(2000 + gS,r)
def sumRC:Ctr:={ fn := 79,nv:=7,ip:=[gIs 5],args:=[bS 0],heap:=[],ro:=[bSHp 0,gHp 5 6],pre:=fun ρ=>(ρ 1).i = (ρ 3).d.length∧(ρ 1).i ≤ 1000000000000∧allB (ρ 3).d∧gOk ρ 5 6 gS,alts:=[
 { k:=1,ret:=dgV 7,heap:=[],post:=fun ρ=>rowL (ρ 7).d 32 = sha (bI (ρ 3).d) }] }
end Go.Eng

set_option linter.unusedSimpArgs false
set_option linter.unusedVariables false
set_option maxRecDepth 100000
namespace Go.Proofs
open Go Go.Eng

@[simp] def o_round_1:T:=.arith .add .u32 (.arith .add .u32 (.arith .add .u32 (.arith .add .u32 (.icell (.var 30) (.lit 0) 7) (.arith .xor .u32 (.arith .xor .u32 (.var 31) (.var 32)) (.var 33))) (.arith .xor .u32 (.arith .and .u32 (.icell (.var 30) (.lit 0) 4) (.icell (.var 30) (.lit 0) 5)) (.arith .and .u32 (.arith .xor .u32 (.lit 4294967295) (.icell (.var 30) (.lit 0) 4)) (.icell (.var 30) (.lit 0) 6)))) (.c2 (.xint 0) (.var 24) (.var 28))) (.c2 (.xint 0) (.var 27) (.var 28))
def o_round:Out:=(.fresh 8 (.fresh 9 (.fresh 10 (.fresh 11 (.inv 0 12 (sg 1000 [bt 1006 (.rcons (.vint .u32 (.lit 0)) (.rcons (.vint .u32 (.lit 0)) (.rcons (.vint .u32 (.lit 0)) (.rcons (.vint .u32 (.lit 0)) (.rcons (.vint .u32 (.lit 0)) (.rcons (.vint .u32 (.lit 0)) (.rcons (.vint .u32 (.lit 0)) (.rcons (.vint .u32 (.lit 0)) (.rcons (.vint .u32 (.lit 0)) (.rcons (.vint .u32 (.lit 0)) (.rcons (.vint .u32 (.lit 0)) (.rcons (.vint .u32 (.lit 0)) (.rcons (.vint .u32 (.lit 0)) (.rcons (.vint .u32 (.lit 0)) (.rcons (.vint .u32 (.lit 0)) (.rcons (.vint .u32 (.lit 0)) (.rcons (.vint .u32 (.lit 0)) (.rcons (.vint .u32 (.lit 0)) (.rcons (.vint .u32 (.lit 0)) (.rcons (.vint .u32 (.lit 0)) (.rcons (.vint .u32 (.lit 0)) (.rcons (.vint .u32 (.lit 0)) (.rcons (.vint .u32 (.lit 0)) (.rcons (.vint .u32 (.lit 0)) (.rcons (.vint .u32 (.lit 0)) (.rcons (.vint .u32 (.lit 0)) (.rcons (.vint .u32 (.lit 0)) (.rcons (.vint .u32 (.lit 0)) (.rcons (.vint .u32 (.lit 0)) (.rcons (.vint .u32 (.lit 0)) (.rcons (.vint .u32 (.lit 0)) (.rcons (.vint .u32 (.lit 0)) (.rcons (.vint .u32 (.lit 0)) (.rcons (.vint .u32 (.lit 0)) (.rcons (.vint .u32 (.lit 0)) (.rcons (.vint .u32 (.lit 0)) (.rcons (.vint .u32 (.lit 0)) (.rcons (.vint .u32 (.lit 0)) (.rcons (.vint .u32 (.lit 0)) (.rcons (.vint .u32 (.lit 0)) (.rcons (.vint .u32 (.lit 0)) (.rcons (.vint .u32 (.lit 0)) (.rcons (.vint .u32 (.lit 0)) (.rcons (.vint .u32 (.lit 0)) (.rcons (.vint .u32 (.lit 0)) (.rcons (.vint .u32 (.lit 0)) (.rcons (.vint .u32 (.lit 0)) (.rcons (.vint .u32 (.lit 0)) (.rcons (.vint .u32 (.lit 0)) (.rcons (.vint .u32 (.lit 0)) (.rcons (.vint .u32 (.lit 0)) (.rcons (.vint .u32 (.lit 0)) (.rcons (.vint .u32 (.lit 0)) (.rcons (.vint .u32 (.lit 0)) (.rcons (.vint .u32 (.lit 0)) (.rcons (.vint .u32 (.lit 0)) (.rcons (.vint .u32 (.lit 0)) (.rcons (.vint .u32 (.lit 0)) (.rcons (.vint .u32 (.lit 0)) (.rcons (.vint .u32 (.lit 0)) (.rcons (.vint .u32 (.lit 0)) (.rcons (.vint .u32 (.lit 0)) (.rcons (.vint .u32 (.lit 0)) (.rcons (.vint .u32 (.lit 0)) .rnil)))))))))))))))))))))))))))))))))))))))))))))))))))))))))))))))),bt 1003 (.rcons (.vint .u32 (.c2 (.xint 0) (.var 1) (.lit 0))) (.rcons (.vint .u32 (.c2 (.xint 1) (.var 1) (.lit 0))) (.rcons (.vint .u32 (.c2 (.xint 2) (.var 1) (.lit 0))) (.rcons (.vint .u32 (.c2 (.xint 3) (.var 1) (.lit 0))) (.rcons (.vint .u32 (.c2 (.xint 4) (.var 1) (.lit 0))) (.rcons (.vint .u32 (.c2 (.xint 5) (.var 1) (.lit 0))) (.rcons (.vint .u32 (.c2 (.xint 6) (.var 1) (.lit 0))) (.rcons (.vint .u32 (.c2 (.xint 7) (.var 1) (.lit 0))) (.rcons (.vint .u32 (.c2 (.xint 8) (.var 1) (.lit 0))) (.rcons (.vint .u32 (.c2 (.xint 9) (.var 1) (.lit 0))) (.rcons (.vint .u32 (.c2 (.xint 10) (.var 1) (.lit 0))) (.rcons (.vint .u32 (.c2 (.xint 11) (.var 1) (.lit 0))) (.rcons (.vint .u32 (.c2 (.xint 12) (.var 1) (.lit 0))) (.rcons (.vint .u32 (.c2 (.xint 13) (.var 1) (.lit 0))) (.rcons (.vint .u32 (.c2 (.xint 14) (.var 1) (.lit 0))) (.rcons (.vint .u32 (.c2 (.xint 15) (.var 1) (.lit 0))) (.rcons (.vint .u32 (.c2 (.xint 16) (.var 1) (.lit 0))) (.rcons (.vint .u32 (.c2 (.xint 17) (.var 1) (.lit 0))) (.rcons (.vint .u32 (.c2 (.xint 18) (.var 1) (.lit 0))) (.rcons (.vint .u32 (.c2 (.xint 19) (.var 1) (.lit 0))) (.rcons (.vint .u32 (.c2 (.xint 20) (.var 1) (.lit 0))) (.rcons (.vint .u32 (.c2 (.xint 21) (.var 1) (.lit 0))) (.rcons (.vint .u32 (.c2 (.xint 22) (.var 1) (.lit 0))) (.rcons (.vint .u32 (.c2 (.xint 23) (.var 1) (.lit 0))) (.rcons (.vint .u32 (.c2 (.xint 24) (.var 1) (.lit 0))) (.rcons (.vint .u32 (.c2 (.xint 25) (.var 1) (.lit 0))) (.rcons (.vint .u32 (.c2 (.xint 26) (.var 1) (.lit 0))) (.rcons (.vint .u32 (.c2 (.xint 27) (.var 1) (.lit 0))) (.rcons (.vint .u32 (.c2 (.xint 28) (.var 1) (.lit 0))) (.rcons (.vint .u32 (.c2 (.xint 29) (.var 1) (.lit 0))) (.rcons (.vint .u32 (.c2 (.xint 30) (.var 1) (.lit 0))) (.rcons (.vint .u32 (.c2 (.xint 31) (.var 1) (.lit 0))) (.rcons (.vint .u32 (.c2 (.xint 32) (.var 1) (.lit 0))) (.rcons (.vint .u32 (.c2 (.xint 33) (.var 1) (.lit 0))) (.rcons (.vint .u32 (.c2 (.xint 34) (.var 1) (.lit 0))) (.rcons (.vint .u32 (.c2 (.xint 35) (.var 1) (.lit 0))) (.rcons (.vint .u32 (.c2 (.xint 36) (.var 1) (.lit 0))) (.rcons (.vint .u32 (.c2 (.xint 37) (.var 1) (.lit 0))) (.rcons (.vint .u32 (.c2 (.xint 38) (.var 1) (.lit 0))) (.rcons (.vint .u32 (.c2 (.xint 39) (.var 1) (.lit 0))) (.rcons (.vint .u32 (.c2 (.xint 40) (.var 1) (.lit 0))) (.rcons (.vint .u32 (.c2 (.xint 41) (.var 1) (.lit 0))) (.rcons (.vint .u32 (.c2 (.xint 42) (.var 1) (.lit 0))) (.rcons (.vint .u32 (.c2 (.xint 43) (.var 1) (.lit 0))) (.rcons (.vint .u32 (.c2 (.xint 44) (.var 1) (.lit 0))) (.rcons (.vint .u32 (.c2 (.xint 45) (.var 1) (.lit 0))) (.rcons (.vint .u32 (.c2 (.xint 46) (.var 1) (.lit 0))) (.rcons (.vint .u32 (.c2 (.xint 47) (.var 1) (.lit 0))) (.rcons (.vint .u32 (.c2 (.xint 48) (.var 1) (.lit 0))) (.rcons (.vint .u32 (.c2 (.xint 49) (.var 1) (.lit 0))) (.rcons (.vint .u32 (.c2 (.xint 50) (.var 1) (.lit 0))) (.rcons (.vint .u32 (.c2 (.xint 51) (.var 1) (.lit 0))) (.rcons (.vint .u32 (.c2 (.xint 52) (.var 1) (.lit 0))) (.rcons (.vint .u32 (.c2 (.xint 53) (.var 1) (.lit 0))) (.rcons (.vint .u32 (.c2 (.xint 54) (.var 1) (.lit 0))) (.rcons (.vint .u32 (.c2 (.xint 55) (.var 1) (.lit 0))) (.rcons (.vint .u32 (.c2 (.xint 56) (.var 1) (.lit 0))) (.rcons (.vint .u32 (.c2 (.xint 57) (.var 1) (.lit 0))) (.rcons (.vint .u32 (.c2 (.xint 58) (.var 1) (.lit 0))) (.rcons (.vint .u32 (.c2 (.xint 59) (.var 1) (.lit 0))) (.rcons (.vint .u32 (.c2 (.xint 60) (.var 1) (.lit 0))) (.rcons (.vint .u32 (.c2 (.xint 61) (.var 1) (.lit 0))) (.rcons (.vint .u32 (.c2 (.xint 62) (.var 1) (.lit 0))) (.rcons (.vint .u32 (.c2 (.xint 63) (.var 1) (.lit 0))) .rnil)))))))))))))))))))))))))))))))))))))))))))))))))))))))))))))))),bt 1001 (.rcons (.vint .u32 (.c2 (.xint 0) (.var 0) (.lit 0))) (.rcons (.vint .u32 (.c2 (.xint 1) (.var 0) (.lit 0))) (.rcons (.vint .u32 (.c2 (.xint 2) (.var 0) (.lit 0))) (.rcons (.vint .u32 (.c2 (.xint 3) (.var 0) (.lit 0))) (.rcons (.vint .u32 (.c2 (.xint 4) (.var 0) (.lit 0))) (.rcons (.vint .u32 (.c2 (.xint 5) (.var 0) (.lit 0))) (.rcons (.vint .u32 (.c2 (.xint 6) (.var 0) (.lit 0))) (.rcons (.vint .u32 (.c2 (.xint 7) (.var 0) (.lit 0))) .rnil)))))))),bt 1007 (.lit 0),bg 1005 11,bg 1004 10,bg 1002 9,bg 1000 8]) (.fresh 12 (.fresh 13 (.fresh 14 (.fresh 15 (.fresh 16 (.fresh 17 (.fresh 18 (.fresh 19 (.hyp 0 12 (.br (.cmp .lss (.var 19) (.lit 64))
 (.br (.cmp .lss (.var 19) (.lit 16))
 (.need (.cmp .leq (.lit 0) (.arith .mul .i64 (.lit 4) (.var 19))) (.need (.cmp .lss (.arith .mul .i64 (.lit 4) (.var 19)) (.var 4)) (.need (.cmp .leq (.lit 0) (.var 3)) (.need (.cmp .leq (.lit 0) (.plus (.var 3) (.arith .mul .i64 (.lit 4) (.var 19)))) (.need (.cmp .lss (.plus (.var 3) (.arith .mul .i64 (.lit 4) (.var 19))) (.dlen (.var 6))) (.need (.cmp .leq (.lit 0) (.arith .add .i64 (.arith .mul .i64 (.lit 4) (.var 19)) (.lit 1))) (.need (.cmp .lss (.arith .add .i64 (.arith .mul .i64 (.lit 4) (.var 19)) (.lit 1)) (.var 4)) (.need (.cmp .leq (.lit 0) (.plus (.var 3) (.arith .add .i64 (.arith .mul .i64 (.lit 4) (.var 19)) (.lit 1)))) (.need (.cmp .lss (.plus (.var 3) (.arith .add .i64 (.arith .mul .i64 (.lit 4) (.var 19)) (.lit 1))) (.dlen (.var 6))) (.need (.cmp .leq (.lit 0) (.arith .add .i64 (.arith .mul .i64 (.lit 4) (.var 19)) (.lit 2))) (.need (.cmp .lss (.arith .add .i64 (.arith .mul .i64 (.lit 4) (.var 19)) (.lit 2)) (.var 4)) (.need (.cmp .leq (.lit 0) (.plus (.var 3) (.arith .add .i64 (.arith .mul .i64 (.lit 4) (.var 19)) (.lit 2)))) (.need (.cmp .lss (.plus (.var 3) (.arith .add .i64 (.arith .mul .i64 (.lit 4) (.var 19)) (.lit 2))) (.dlen (.var 6))) (.need (.cmp .leq (.lit 0) (.arith .add .i64 (.arith .mul .i64 (.lit 4) (.var 19)) (.lit 3))) (.need (.cmp .lss (.arith .add .i64 (.arith .mul .i64 (.lit 4) (.var 19)) (.lit 3)) (.var 4)) (.need (.cmp .leq (.lit 0) (.plus (.var 3) (.arith .add .i64 (.arith .mul .i64 (.lit 4) (.var 19)) (.lit 3)))) (.need (.cmp .lss (.plus (.var 3) (.arith .add .i64 (.arith .mul .i64 (.lit 4) (.var 19)) (.lit 3))) (.dlen (.var 6))) (.need (.cmp .leq (.lit 0) (.var 19)) (.need (.cmp .lss (.lit 0) (.dlen (.var 18))) (.both (.back 0 12 (sg 1000 [bt 1006 (.c3 (.xput 0) (.var 18) (.var 19) (.vint .u32 (.arith .or .u32 (.arith .or .u32 (.arith .or .u32 (.arith .shl .u32 (.conv .u32 (.icell (.var 6) (.plus (.var 3) (.arith .mul .i64 (.lit 4) (.var 19))) 0)) (.lit 24)) (.arith .shl .u32 (.conv .u32 (.icell (.var 6) (.plus (.var 3) (.arith .add .i64 (.arith .mul .i64 (.lit 4) (.var 19)) (.lit 1))) 0)) (.lit 16))) (.arith .shl .u32 (.conv .u32 (.icell (.var 6) (.plus (.var 3) (.arith .add .i64 (.arith .mul .i64 (.lit 4) (.var 19)) (.lit 2))) 0)) (.lit 8))) (.conv .u32 (.icell (.var 6) (.plus (.var 3) (.arith .add .i64 (.arith .mul .i64 (.lit 4) (.var 19)) (.lit 3))) 0))))),bv 1003 15,bv 1001 13,bt 1007 (.arith .add .i64 (.var 19) (.lit 1)),bg 1005 17,bg 1004 16,bg 1002 14,bg 1000 12])) .top))))))))))))))))))))
 (.need (.cmp .leq (.lit 0) (.arith .sub .i64 (.var 19) (.lit 15))) (.need (.cmp .lss (.arith .sub .i64 (.var 19) (.lit 15)) (.lit 64)) (.need (.cmp .lss (.lit 0) (.dlen (.var 18))) (.both (.pre 0 (sg 0 [bt 1 (.lit 7),bt 0 (.c2 (.xint 0) (.var 18) (.arith .sub .i64 (.var 19) (.lit 15)))]) (.both (.fresh 20 (.post 0 0 (sg 0 [bt 1 (.lit 7),bt 0 (.c2 (.xint 0) (.var 18) (.arith .sub .i64 (.var 19) (.lit 15)))]) 20 (.both (.pre 0 (sg 0 [bt 1 (.lit 18),bt 0 (.c2 (.xint 0) (.var 18) (.arith .sub .i64 (.var 19) (.lit 15)))]) (.both (.fresh 21 (.post 0 0 (sg 0 [bt 1 (.lit 18),bt 0 (.c2 (.xint 0) (.var 18) (.arith .sub .i64 (.var 19) (.lit 15)))]) 21 (.need (.cmp .leq (.lit 0) (.arith .sub .i64 (.var 19) (.lit 2))) (.need (.cmp .lss (.arith .sub .i64 (.var 19) (.lit 2)) (.lit 64)) (.both (.pre 0 (sg 0 [bt 1 (.lit 17),bt 0 (.c2 (.xint 0) (.var 18) (.arith .sub .i64 (.var 19) (.lit 2)))]) (.both (.fresh 22 (.post 0 0 (sg 0 [bt 1 (.lit 17),bt 0 (.c2 (.xint 0) (.var 18) (.arith .sub .i64 (.var 19) (.lit 2)))]) 22 (.both (.pre 0 (sg 0 [bt 1 (.lit 19),bt 0 (.c2 (.xint 0) (.var 18) (.arith .sub .i64 (.var 19) (.lit 2)))]) (.both (.fresh 23 (.post 0 0 (sg 0 [bt 1 (.lit 19),bt 0 (.c2 (.xint 0) (.var 18) (.arith .sub .i64 (.var 19) (.lit 2)))]) 23 (.need (.cmp .leq (.lit 0) (.arith .sub .i64 (.var 19) (.lit 7))) (.need (.cmp .lss (.arith .sub .i64 (.var 19) (.lit 7)) (.lit 64)) (.need (.cmp .leq (.lit 0) (.arith .sub .i64 (.var 19) (.lit 16))) (.need (.cmp .lss (.arith .sub .i64 (.var 19) (.lit 16)) (.lit 64)) (.need (.cmp .leq (.lit 0) (.var 19)) (.both (.back 0 12 (sg 1000 [bt 1006 (.c3 (.xput 0) (.var 18) (.var 19) (.vint .u32 (.arith .add .u32 (.arith .add .u32 (.arith .add .u32 (.arith .xor .u32 (.arith .xor .u32 (.var 22) (.var 23)) (.arith .shr .u32 (.c2 (.xint 0) (.var 18) (.arith .sub .i64 (.var 19) (.lit 2))) (.lit 10))) (.c2 (.xint 0) (.var 18) (.arith .sub .i64 (.var 19) (.lit 7)))) (.arith .xor .u32 (.arith .xor .u32 (.var 20) (.var 21)) (.arith .shr .u32 (.c2 (.xint 0) (.var 18) (.arith .sub .i64 (.var 19) (.lit 15))) (.lit 3)))) (.c2 (.xint 0) (.var 18) (.arith .sub .i64 (.var 19) (.lit 16)))))),bv 1003 15,bv 1001 13,bt 1007 (.arith .add .i64 (.var 19) (.lit 1)),bg 1005 17,bg 1004 16,bg 1002 14,bg 1000 12])) .top)))))))) .top)) .top))) .top)) .top))))) .top)) .top))) .top)) .top)))))
 (.need (.cmp .lss (.lit 0) (.dlen (.var 13))) (.fresh 20 (.inv 1 21 (sg 1000 [bt 1009 (.rcons (.vint .u32 (.icell (.var 13) (.lit 0) 0)) (.rcons (.vint .u32 (.icell (.var 13) (.lit 0) 1)) (.rcons (.vint .u32 (.icell (.var 13) (.lit 0) 2)) (.rcons (.vint .u32 (.icell (.var 13) (.lit 0) 3)) (.rcons (.vint .u32 (.icell (.var 13) (.lit 0) 4)) (.rcons (.vint .u32 (.icell (.var 13) (.lit 0) 5)) (.rcons (.vint .u32 (.icell (.var 13) (.lit 0) 6)) (.rcons (.vint .u32 (.icell (.var 13) (.lit 0) 7)) .rnil)))))))),bv 1006 18,bv 1003 15,bv 1001 13,bt 1007 (.lit 0),bg 1008 20,bg 1005 17,bg 1004 16,bg 1002 14,bg 1000 12]) (.fresh 21 (.fresh 22 (.fresh 23 (.fresh 24 (.fresh 25 (.fresh 26 (.fresh 27 (.fresh 28 (.fresh 29 (.fresh 30 (.hyp 1 21 (.br (.cmp .lss (.var 28) (.lit 64))
 (.need (.cmp .lss (.lit 0) (.dlen (.var 30))) (.need (.cmp .leq (.lit 0) (.var 28)) (.need (.cmp .lss (.lit 0) (.dlen (.var 24))) (.need (.cmp .lss (.lit 0) (.dlen (.var 27))) (.both (.pre 0 (sg 0 [bt 1 (.lit 6),bt 0 (.icell (.var 30) (.lit 0) 4)]) (.both (.fresh 31 (.post 0 0 (sg 0 [bt 1 (.lit 6),bt 0 (.icell (.var 30) (.lit 0) 4)]) 31 (.both (.pre 0 (sg 0 [bt 1 (.lit 11),bt 0 (.icell (.var 30) (.lit 0) 4)]) (.both (.fresh 32 (.post 0 0 (sg 0 [bt 1 (.lit 11),bt 0 (.icell (.var 30) (.lit 0) 4)]) 32 (.both (.pre 0 (sg 0 [bt 1 (.lit 25),bt 0 (.icell (.var 30) (.lit 0) 4)]) (.both (.fresh 33 (.post 0 0 (sg 0 [bt 1 (.lit 25),bt 0 (.icell (.var 30) (.lit 0) 4)]) 33 (.pre 0 (sg 0 [bt 1 (.lit 2),bt 0 (.icell (.var 30) (.lit 0) 0)]) (.both (.fresh 34 (.post 0 0 (sg 0 [bt 1 (.lit 2),bt 0 (.icell (.var 30) (.lit 0) 0)]) 34 (.pre 0 (sg 0 [bt 1 (.lit 13),bt 0 (.icell (.var 30) (.lit 0) 0)]) (.both (.fresh 35 (.post 0 0 (sg 0 [bt 1 (.lit 13),bt 0 (.icell (.var 30) (.lit 0) 0)]) 35 (.pre 0 (sg 0 [bt 1 (.lit 22),bt 0 (.icell (.var 30) (.lit 0) 0)]) (.both (.fresh 36 (.post 0 0 (sg 0 [bt 1 (.lit 22),bt 0 (.icell (.var 30) (.lit 0) 0)]) 36 (.back 1 21 (sg 1000 [bt 1009 (.dput (.var 30) (.lit 0) 0 (.rcons (.vint .u32 (.arith .add .u32 o_round_1 (.arith .add .u32 (.arith .xor .u32 (.arith .xor .u32 (.var 34) (.var 35)) (.var 36)) (.arith .xor .u32 (.arith .xor .u32 (.arith .and .u32 (.icell (.var 30) (.lit 0) 0) (.icell (.var 30) (.lit 0) 1)) (.arith .and .u32 (.icell (.var 30) (.lit 0) 0) (.icell (.var 30) (.lit 0) 2))) (.arith .and .u32 (.icell (.var 30) (.lit 0) 1) (.icell (.var 30) (.lit 0) 2)))))) (.rcons (.vint .u32 (.icell (.var 30) (.lit 0) 0)) (.rcons (.vint .u32 (.icell (.var 30) (.lit 0) 1)) (.rcons (.vint .u32 (.icell (.var 30) (.lit 0) 2)) (.rcons (.vint .u32 (.arith .add .u32 (.icell (.var 30) (.lit 0) 3) o_round_1)) (.rcons (.vint .u32 (.icell (.var 30) (.lit 0) 4)) (.rcons (.vint .u32 (.icell (.var 30) (.lit 0) 5)) (.rcons (.vint .u32 (.icell (.var 30) (.lit 0) 6)) .rnil))))))))),bv 1006 27,bv 1003 24,bv 1001 22,bt 1007 (.arith .add .i64 (.var 28) (.lit 1)),bg 1008 29,bg 1005 26,bg 1004 25,bg 1002 23,bg 1000 21])))) .top)))) .top)))) .top)))) .top)) .top))) .top)) .top))) .top)) .top)))))
 (.inv 2 31 (sg 1000 [bv 1009 30,bv 1001 22,bt 1007 (.lit 0),bg 1008 29,bg 1004 25,bg 1000 21]) (.fresh 31 (.fresh 32 (.fresh 33 (.fresh 34 (.fresh 35 (.fresh 36 (.fresh 37 (.fresh 38 (.fresh 39 (.fresh 40 (.hyp 2 31 (.br (.cmp .lss (.var 38) (.lit 8))
 (.need (.cmp .leq (.lit 0) (.var 38)) (.need (.cmp .lss (.lit 0) (.dlen (.var 32))) (.need (.cmp .lss (.lit 0) (.dlen (.var 40))) (.both (.back 2 31 (sg 1000 [bv 1009 40,bt 1001 (.c3 (.xput 0) (.var 32) (.var 38) (.vint .u32 (.arith .add .u32 (.c2 (.xint 0) (.var 32) (.var 38)) (.c2 (.xint 0) (.var 40) (.var 38))))),bt 1007 (.arith .add .i64 (.var 38) (.lit 1)),bg 1008 39,bg 1004 35,bg 1000 31])) .top))))
 (.need (.cmp .lss (.lit 0) (.dlen (.var 32))) (.ret 0 (sg 8 [bt 8 (.rcons (.vint .u32 (.icell (.var 32) (.lit 0) 0)) (.rcons (.vint .u32 (.icell (.var 32) (.lit 0) 1)) (.rcons (.vint .u32 (.icell (.var 32) (.lit 0) 2)) (.rcons (.vint .u32 (.icell (.var 32) (.lit 0) 3)) (.rcons (.vint .u32 (.icell (.var 32) (.lit 0) 4)) (.rcons (.vint .u32 (.icell (.var 32) (.lit 0) 5)) (.rcons (.vint .u32 (.icell (.var 32) (.lit 0) 6)) (.rcons (.vint .u32 (.icell (.var 32) (.lit 0) 7)) .rnil))))))))]))))))))))))))))))))))))))))))))))))))))))))))
theorem o_round_eq:treeOf ⟨Tryz.prog,roundC,[turnC],[roundA,roundB,roundD]⟩ 100000 Tryz.f138 = o_round:=by kernel_rfl
theorem round_of (hd:∀ c ∈ ([turnC]:List Ctr),c.ok Tryz.prog) (h:∀ ρ:Env,ρ.good→(roundC).pre ρ→o_round.den ⟨Tryz.prog,roundC,[turnC],[roundA,roundB,roundD]⟩ ρ):(roundC).ok Tryz.prog :=
 ok_of_tree Tryz.func138 (fun a w=>Tryz.call138 a w) hd 100000 (fun ρ hg hp=>by rw [o_round_eq]; exact h ρ hg hp)
@[simp] def o_fold_1:Sg:=sg 0 [bv 7 43,bv 6 44,bt 5 (.minus (.var 43) (.var 45)),bt 4 (.minus (.arith .add .i64 (.var 45) (.lit 64)) (.var 45)),bt 3 (.ife (.var 43) (.var 45) (.lit 0) (.var 45)),bg 2 41,bt 1 (.rcons (.vint .u32 (.icell (.var 37) (.lit 0) 0)) (.rcons (.vint .u32 (.icell (.var 37) (.lit 0) 1)) (.rcons (.vint .u32 (.icell (.var 37) (.lit 0) 2)) (.rcons (.vint .u32 (.icell (.var 37) (.lit 0) 3)) (.rcons (.vint .u32 (.icell (.var 37) (.lit 0) 4)) (.rcons (.vint .u32 (.icell (.var 37) (.lit 0) 5)) (.rcons (.vint .u32 (.icell (.var 37) (.lit 0) 6)) (.rcons (.vint .u32 (.icell (.var 37) (.lit 0) 7)) (.rcons (.vint .u32 (.icell (.var 37) (.lit 0) 8)) (.rcons (.vint .u32 (.icell (.var 37) (.lit 0) 9)) (.rcons (.vint .u32 (.icell (.var 37) (.lit 0) 10)) (.rcons (.vint .u32 (.icell (.var 37) (.lit 0) 11)) (.rcons (.vint .u32 (.icell (.var 37) (.lit 0) 12)) (.rcons (.vint .u32 (.icell (.var 37) (.lit 0) 13)) (.rcons (.vint .u32 (.icell (.var 37) (.lit 0) 14)) (.rcons (.vint .u32 (.icell (.var 37) (.lit 0) 15)) (.rcons (.vint .u32 (.icell (.var 37) (.lit 0) 16)) (.rcons (.vint .u32 (.icell (.var 37) (.lit 0) 17)) (.rcons (.vint .u32 (.icell (.var 37) (.lit 0) 18)) (.rcons (.vint .u32 (.icell (.var 37) (.lit 0) 19)) (.rcons (.vint .u32 (.icell (.var 37) (.lit 0) 20)) (.rcons (.vint .u32 (.icell (.var 37) (.lit 0) 21)) (.rcons (.vint .u32 (.icell (.var 37) (.lit 0) 22)) (.rcons (.vint .u32 (.icell (.var 37) (.lit 0) 23)) (.rcons (.vint .u32 (.icell (.var 37) (.lit 0) 24)) (.rcons (.vint .u32 (.icell (.var 37) (.lit 0) 25)) (.rcons (.vint .u32 (.icell (.var 37) (.lit 0) 26)) (.rcons (.vint .u32 (.icell (.var 37) (.lit 0) 27)) (.rcons (.vint .u32 (.icell (.var 37) (.lit 0) 28)) (.rcons (.vint .u32 (.icell (.var 37) (.lit 0) 29)) (.rcons (.vint .u32 (.icell (.var 37) (.lit 0) 30)) (.rcons (.vint .u32 (.icell (.var 37) (.lit 0) 31)) (.rcons (.vint .u32 (.icell (.var 37) (.lit 0) 32)) (.rcons (.vint .u32 (.icell (.var 37) (.lit 0) 33)) (.rcons (.vint .u32 (.icell (.var 37) (.lit 0) 34)) (.rcons (.vint .u32 (.icell (.var 37) (.lit 0) 35)) (.rcons (.vint .u32 (.icell (.var 37) (.lit 0) 36)) (.rcons (.vint .u32 (.icell (.var 37) (.lit 0) 37)) (.rcons (.vint .u32 (.icell (.var 37) (.lit 0) 38)) (.rcons (.vint .u32 (.icell (.var 37) (.lit 0) 39)) (.rcons (.vint .u32 (.icell (.var 37) (.lit 0) 40)) (.rcons (.vint .u32 (.icell (.var 37) (.lit 0) 41)) (.rcons (.vint .u32 (.icell (.var 37) (.lit 0) 42)) (.rcons (.vint .u32 (.icell (.var 37) (.lit 0) 43)) (.rcons (.vint .u32 (.icell (.var 37) (.lit 0) 44)) (.rcons (.vint .u32 (.icell (.var 37) (.lit 0) 45)) (.rcons (.vint .u32 (.icell (.var 37) (.lit 0) 46)) (.rcons (.vint .u32 (.icell (.var 37) (.lit 0) 47)) (.rcons (.vint .u32 (.icell (.var 37) (.lit 0) 48)) (.rcons (.vint .u32 (.icell (.var 37) (.lit 0) 49)) (.rcons (.vint .u32 (.icell (.var 37) (.lit 0) 50)) (.rcons (.vint .u32 (.icell (.var 37) (.lit 0) 51)) (.rcons (.vint .u32 (.icell (.var 37) (.lit 0) 52)) (.rcons (.vint .u32 (.icell (.var 37) (.lit 0) 53)) (.rcons (.vint .u32 (.icell (.var 37) (.lit 0) 54)) (.rcons (.vint .u32 (.icell (.var 37) (.lit 0) 55)) (.rcons (.vint .u32 (.icell (.var 37) (.lit 0) 56)) (.rcons (.vint .u32 (.icell (.var 37) (.lit 0) 57)) (.rcons (.vint .u32 (.icell (.var 37) (.lit 0) 58)) (.rcons (.vint .u32 (.icell (.var 37) (.lit 0) 59)) (.rcons (.vint .u32 (.icell (.var 37) (.lit 0) 60)) (.rcons (.vint .u32 (.icell (.var 37) (.lit 0) 61)) (.rcons (.vint .u32 (.icell (.var 37) (.lit 0) 62)) (.rcons (.vint .u32 (.icell (.var 37) (.lit 0) 63)) .rnil)))))))))))))))))))))))))))))))))))))))))))))))))))))))))))))))),bt 0 (.rcons (.vint .u32 (.icell (.var 39) (.lit 0) 0)) (.rcons (.vint .u32 (.icell (.var 39) (.lit 0) 1)) (.rcons (.vint .u32 (.icell (.var 39) (.lit 0) 2)) (.rcons (.vint .u32 (.icell (.var 39) (.lit 0) 3)) (.rcons (.vint .u32 (.icell (.var 39) (.lit 0) 4)) (.rcons (.vint .u32 (.icell (.var 39) (.lit 0) 5)) (.rcons (.vint .u32 (.icell (.var 39) (.lit 0) 6)) (.rcons (.vint .u32 (.icell (.var 39) (.lit 0) 7)) .rnil))))))))]
def o_fold:Out:=(.fresh 7 (.fresh 8 (.fresh 9 (.fresh 10 (.need (.cmp .leq (.lit 0) (.var 1)) (.need (.cmp .leq (.var 1) (.dlen (.var 3))) (.need (.cmp .leq (.tims (.lit 1) (.var 1)) (.lit 140737488355328)) (.fresh 11 (.fresh 12 (.fresh 13 (.need (.cmp .eql (.var 1) (.dlen (.dtake (.var 3) (.var 1)))) (.need (.cmp .leq (.tims (.lit 1) (.plus (.var 1) (.lit 1))) (.lit 140737488355328)) (.fresh 14 (.fresh 15 (.inv 0 16 (sg 1000 [bt 1008 (.dapp (.dtake (.var 3) (.var 1)) (.rcons (.vint .u8 (.lit 128)) .rnil)),bt 1003 (.rcons (.vint .u32 (.c2 (.xint 0) (.var 6) (.lit 0))) (.rcons (.vint .u32 (.c2 (.xint 1) (.var 6) (.lit 0))) (.rcons (.vint .u32 (.c2 (.xint 2) (.var 6) (.lit 0))) (.rcons (.vint .u32 (.c2 (.xint 3) (.var 6) (.lit 0))) (.rcons (.vint .u32 (.c2 (.xint 4) (.var 6) (.lit 0))) (.rcons (.vint .u32 (.c2 (.xint 5) (.var 6) (.lit 0))) (.rcons (.vint .u32 (.c2 (.xint 6) (.var 6) (.lit 0))) (.rcons (.vint .u32 (.c2 (.xint 7) (.var 6) (.lit 0))) .rnil)))))))),bt 1001 (.rcons (.vint .u32 (.c2 (.xint 0) (.var 5) (.lit 0))) (.rcons (.vint .u32 (.c2 (.xint 1) (.var 5) (.lit 0))) (.rcons (.vint .u32 (.c2 (.xint 2) (.var 5) (.lit 0))) (.rcons (.vint .u32 (.c2 (.xint 3) (.var 5) (.lit 0))) (.rcons (.vint .u32 (.c2 (.xint 4) (.var 5) (.lit 0))) (.rcons (.vint .u32 (.c2 (.xint 5) (.var 5) (.lit 0))) (.rcons (.vint .u32 (.c2 (.xint 6) (.var 5) (.lit 0))) (.rcons (.vint .u32 (.c2 (.xint 7) (.var 5) (.lit 0))) (.rcons (.vint .u32 (.c2 (.xint 8) (.var 5) (.lit 0))) (.rcons (.vint .u32 (.c2 (.xint 9) (.var 5) (.lit 0))) (.rcons (.vint .u32 (.c2 (.xint 10) (.var 5) (.lit 0))) (.rcons (.vint .u32 (.c2 (.xint 11) (.var 5) (.lit 0))) (.rcons (.vint .u32 (.c2 (.xint 12) (.var 5) (.lit 0))) (.rcons (.vint .u32 (.c2 (.xint 13) (.var 5) (.lit 0))) (.rcons (.vint .u32 (.c2 (.xint 14) (.var 5) (.lit 0))) (.rcons (.vint .u32 (.c2 (.xint 15) (.var 5) (.lit 0))) (.rcons (.vint .u32 (.c2 (.xint 16) (.var 5) (.lit 0))) (.rcons (.vint .u32 (.c2 (.xint 17) (.var 5) (.lit 0))) (.rcons (.vint .u32 (.c2 (.xint 18) (.var 5) (.lit 0))) (.rcons (.vint .u32 (.c2 (.xint 19) (.var 5) (.lit 0))) (.rcons (.vint .u32 (.c2 (.xint 20) (.var 5) (.lit 0))) (.rcons (.vint .u32 (.c2 (.xint 21) (.var 5) (.lit 0))) (.rcons (.vint .u32 (.c2 (.xint 22) (.var 5) (.lit 0))) (.rcons (.vint .u32 (.c2 (.xint 23) (.var 5) (.lit 0))) (.rcons (.vint .u32 (.c2 (.xint 24) (.var 5) (.lit 0))) (.rcons (.vint .u32 (.c2 (.xint 25) (.var 5) (.lit 0))) (.rcons (.vint .u32 (.c2 (.xint 26) (.var 5) (.lit 0))) (.rcons (.vint .u32 (.c2 (.xint 27) (.var 5) (.lit 0))) (.rcons (.vint .u32 (.c2 (.xint 28) (.var 5) (.lit 0))) (.rcons (.vint .u32 (.c2 (.xint 29) (.var 5) (.lit 0))) (.rcons (.vint .u32 (.c2 (.xint 30) (.var 5) (.lit 0))) (.rcons (.vint .u32 (.c2 (.xint 31) (.var 5) (.lit 0))) (.rcons (.vint .u32 (.c2 (.xint 32) (.var 5) (.lit 0))) (.rcons (.vint .u32 (.c2 (.xint 33) (.var 5) (.lit 0))) (.rcons (.vint .u32 (.c2 (.xint 34) (.var 5) (.lit 0))) (.rcons (.vint .u32 (.c2 (.xint 35) (.var 5) (.lit 0))) (.rcons (.vint .u32 (.c2 (.xint 36) (.var 5) (.lit 0))) (.rcons (.vint .u32 (.c2 (.xint 37) (.var 5) (.lit 0))) (.rcons (.vint .u32 (.c2 (.xint 38) (.var 5) (.lit 0))) (.rcons (.vint .u32 (.c2 (.xint 39) (.var 5) (.lit 0))) (.rcons (.vint .u32 (.c2 (.xint 40) (.var 5) (.lit 0))) (.rcons (.vint .u32 (.c2 (.xint 41) (.var 5) (.lit 0))) (.rcons (.vint .u32 (.c2 (.xint 42) (.var 5) (.lit 0))) (.rcons (.vint .u32 (.c2 (.xint 43) (.var 5) (.lit 0))) (.rcons (.vint .u32 (.c2 (.xint 44) (.var 5) (.lit 0))) (.rcons (.vint .u32 (.c2 (.xint 45) (.var 5) (.lit 0))) (.rcons (.vint .u32 (.c2 (.xint 46) (.var 5) (.lit 0))) (.rcons (.vint .u32 (.c2 (.xint 47) (.var 5) (.lit 0))) (.rcons (.vint .u32 (.c2 (.xint 48) (.var 5) (.lit 0))) (.rcons (.vint .u32 (.c2 (.xint 49) (.var 5) (.lit 0))) (.rcons (.vint .u32 (.c2 (.xint 50) (.var 5) (.lit 0))) (.rcons (.vint .u32 (.c2 (.xint 51) (.var 5) (.lit 0))) (.rcons (.vint .u32 (.c2 (.xint 52) (.var 5) (.lit 0))) (.rcons (.vint .u32 (.c2 (.xint 53) (.var 5) (.lit 0))) (.rcons (.vint .u32 (.c2 (.xint 54) (.var 5) (.lit 0))) (.rcons (.vint .u32 (.c2 (.xint 55) (.var 5) (.lit 0))) (.rcons (.vint .u32 (.c2 (.xint 56) (.var 5) (.lit 0))) (.rcons (.vint .u32 (.c2 (.xint 57) (.var 5) (.lit 0))) (.rcons (.vint .u32 (.c2 (.xint 58) (.var 5) (.lit 0))) (.rcons (.vint .u32 (.c2 (.xint 59) (.var 5) (.lit 0))) (.rcons (.vint .u32 (.c2 (.xint 60) (.var 5) (.lit 0))) (.rcons (.vint .u32 (.c2 (.xint 61) (.var 5) (.lit 0))) (.rcons (.vint .u32 (.c2 (.xint 62) (.var 5) (.lit 0))) (.rcons (.vint .u32 (.c2 (.xint 63) (.var 5) (.lit 0))) .rnil)))))))))))))))))))))))))))))))))))))))))))))))))))))))))))))))),bv 1007 15,bt 1006 (.plus (.var 1) (.lit 1)),bg 1005 14,bg 1004 9,bg 1002 8,bg 1000 7]) (.fresh 16 (.fresh 17 (.fresh 18 (.fresh 19 (.fresh 20 (.fresh 21 (.fresh 22 (.fresh 23 (.fresh 24 (.hyp 0 16 (.need (.cmp .leq (.lit 0) (.var 22)) (.br (.cmp .neq (.arith .rem .i64 (.var 22) (.lit 64)) (.lit 56))
 (.fresh 25 (.need (.cmp .eql (.var 22) (.dlen (.var 24))) (.need (.cmp .leq (.tims (.lit 1) (.plus (.var 22) (.lit 1))) (.lit 140737488355328)) (.fresh 26 (.fresh 27 (.back 0 16 (sg 1000 [bt 1008 (.dapp (.var 24) (.rcons o8 .rnil)),bv 1003 19,bv 1001 17,bv 1007 27,bt 1006 (.plus (.var 22) (.lit 1)),bg 1005 26,bg 1004 20,bg 1002 18,bg 1000 16])))))))
 (.inv 1 25 (sg 1000 [bv 1008 24,bv 1003 19,bv 1001 17,bt 1009 (.lit 7),bt 1010 (.arith .mul .u64 (.conv .u64 (.var 1)) (.lit 8)),bv 1007 23,bv 1006 22,bg 1005 21,bg 1004 20,bg 1002 18,bg 1000 16]) (.fresh 25 (.fresh 26 (.fresh 27 (.fresh 28 (.fresh 29 (.fresh 30 (.fresh 31 (.fresh 32 (.fresh 33 (.fresh 34 (.fresh 35 (.hyp 1 25 (.br (.cmp .geq (.var 34) (.lit 0))
 (.need (.cmp .geq (.arith .mul .u64 (.lit 8) (.conv .u64 (.var 34))) (.lit 0)) (.fresh 36 (.need (.cmp .eql (.var 31) (.dlen (.var 33))) (.need (.cmp .leq (.tims (.lit 1) (.plus (.var 31) (.lit 1))) (.lit 140737488355328)) (.fresh 37 (.fresh 38 (.back 1 25 (sg 1000 [bt 1008 (.dapp (.var 33) (.rcons (.vint .u8 (.conv .u8 (.arith .shr .u64 (.var 35) (.arith .mul .u64 (.lit 8) (.conv .u64 (.var 34)))))) .rnil)),bv 1003 28,bv 1001 26,bt 1009 (.arith .sub .i64 (.var 34) (.lit 1)),bv 1010 35,bv 1007 38,bt 1006 (.plus (.var 31) (.lit 1)),bg 1005 37,bg 1004 29,bg 1002 27,bg 1000 25]))))))))
 (.inv 2 36 (sg 1000 [bv 1008 33,bv 1003 28,bv 1001 26,bt 1009 (.lit 0),bv 1007 32,bv 1006 31,bg 1005 30,bg 1004 29,bg 1002 27,bg 1000 25]) (.fresh 36 (.fresh 37 (.fresh 38 (.fresh 39 (.fresh 40 (.fresh 41 (.fresh 42 (.fresh 43 (.fresh 44 (.fresh 45 (.hyp 2 36 (.need (.cmp .leq (.lit 0) (.var 42)) (.br (.cmp .lss (.var 45) (.var 42))
 (.need (.cmp .lss (.lit 0) (.dlen (.var 39))) (.need (.cmp .lss (.lit 0) (.dlen (.var 37))) (.know (.cmp .leq (.dlen (.var 44)) (.var 43)) (.need (.cmp .leq (.lit 0) (.var 43)) (.need (.cmp .leq (.lit 0) (.var 45)) (.need (.cmp .leq (.var 45) (.arith .add .i64 (.var 45) (.lit 64))) (.need (.cmp .leq (.arith .add .i64 (.var 45) (.lit 64)) (.var 43)) (.both (.pre 0 o_fold_1 (.both (.fresh 46 (.post 0 0 o_fold_1 46 (.both (.back 2 36 (sg 1000 [bv 1008 44,bt 1003 (.dput (.var 39) (.lit 0) 0 (.rcons (.vint .u32 (.c2 (.xint 0) (.var 46) (.lit 0))) (.rcons (.vint .u32 (.c2 (.xint 1) (.var 46) (.lit 0))) (.rcons (.vint .u32 (.c2 (.xint 2) (.var 46) (.lit 0))) (.rcons (.vint .u32 (.c2 (.xint 3) (.var 46) (.lit 0))) (.rcons (.vint .u32 (.c2 (.xint 4) (.var 46) (.lit 0))) (.rcons (.vint .u32 (.c2 (.xint 5) (.var 46) (.lit 0))) (.rcons (.vint .u32 (.c2 (.xint 6) (.var 46) (.lit 0))) (.rcons (.vint .u32 (.c2 (.xint 7) (.var 46) (.lit 0))) .rnil))))))))),bv 1001 37,bt 1009 (.arith .add .i64 (.var 45) (.lit 64)),bv 1007 43,bv 1006 42,bg 1005 41,bg 1004 40,bg 1002 38,bg 1000 36])) .top))) .top)) .top))))))))
 (.fresh 46 (.inv 3 47 (sg 1000 [bt 1006 z8,bv 1003 39,bt 1007 (.lit 0),bg 1005 46,bg 1004 40,bg 1002 38]) (.fresh 47 (.fresh 48 (.fresh 49 (.fresh 50 (.fresh 51 (.fresh 52 (.fresh 53 (.fresh 54 (.hyp 3 47 (.br (.cmp .lss (.var 54) (.lit 32))
 (.need (.cmp .leq (.lit 0) (.arith .quo .i64 (.var 54) (.lit 4))) (.need (.cmp .lss (.arith .quo .i64 (.var 54) (.lit 4)) (.lit 8)) (.need (.cmp .lss (.lit 0) (.dlen (.var 50))) (.need (.cmp .geq (.arith .sub .u64 (.lit 24) (.arith .mul .u64 (.lit 8) (.conv .u64 (.arith .rem .i64 (.var 54) (.lit 4))))) (.lit 0)) (.need (.cmp .leq (.lit 0) (.var 54)) (.need (.cmp .lss (.lit 0) (.dlen (.var 53))) (.back 3 47 (sg 1000 [bt 1006 (.c3 (.xput 0) (.var 53) (.var 54) (.vint .u8 (.conv .u8 (.arith .shr .u32 (.c2 (.xint 0) (.var 50) (.arith .quo .i64 (.var 54) (.lit 4))) (.arith .sub .u64 (.lit 24) (.arith .mul .u64 (.lit 8) (.conv .u64 (.arith .rem .i64 (.var 54) (.lit 4))))))))),bv 1003 50,bt 1007 (.arith .add .i64 (.var 54) (.lit 1)),bg 1005 52,bg 1004 51,bg 1002 49]))))))))
 (.need (.cmp .lss (.lit 0) (.dlen (.var 53))) (.ret 0 (sg 7 [bt 7 (.rcons (.vint .u8 (.icell (.var 53) (.lit 0) 0)) (.rcons (.vint .u8 (.icell (.var 53) (.lit 0) 1)) (.rcons (.vint .u8 (.icell (.var 53) (.lit 0) 2)) (.rcons (.vint .u8 (.icell (.var 53) (.lit 0) 3)) (.rcons (.vint .u8 (.icell (.var 53) (.lit 0) 4)) (.rcons (.vint .u8 (.icell (.var 53) (.lit 0) 5)) (.rcons (.vint .u8 (.icell (.var 53) (.lit 0) 6)) (.rcons (.vint .u8 (.icell (.var 53) (.lit 0) 7)) (.rcons (.vint .u8 (.icell (.var 53) (.lit 0) 8)) (.rcons (.vint .u8 (.icell (.var 53) (.lit 0) 9)) (.rcons (.vint .u8 (.icell (.var 53) (.lit 0) 10)) (.rcons (.vint .u8 (.icell (.var 53) (.lit 0) 11)) (.rcons (.vint .u8 (.icell (.var 53) (.lit 0) 12)) (.rcons (.vint .u8 (.icell (.var 53) (.lit 0) 13)) (.rcons (.vint .u8 (.icell (.var 53) (.lit 0) 14)) (.rcons (.vint .u8 (.icell (.var 53) (.lit 0) 15)) (.rcons (.vint .u8 (.icell (.var 53) (.lit 0) 16)) (.rcons (.vint .u8 (.icell (.var 53) (.lit 0) 17)) (.rcons (.vint .u8 (.icell (.var 53) (.lit 0) 18)) (.rcons (.vint .u8 (.icell (.var 53) (.lit 0) 19)) (.rcons (.vint .u8 (.icell (.var 53) (.lit 0) 20)) (.rcons (.vint .u8 (.icell (.var 53) (.lit 0) 21)) (.rcons (.vint .u8 (.icell (.var 53) (.lit 0) 22)) (.rcons (.vint .u8 (.icell (.var 53) (.lit 0) 23)) (.rcons (.vint .u8 (.icell (.var 53) (.lit 0) 24)) (.rcons (.vint .u8 (.icell (.var 53) (.lit 0) 25)) (.rcons (.vint .u8 (.icell (.var 53) (.lit 0) 26)) (.rcons (.vint .u8 (.icell (.var 53) (.lit 0) 27)) (.rcons (.vint .u8 (.icell (.var 53) (.lit 0) 28)) (.rcons (.vint .u8 (.icell (.var 53) (.lit 0) 29)) (.rcons (.vint .u8 (.icell (.var 53) (.lit 0) 30)) (.rcons (.vint .u8 (.icell (.var 53) (.lit 0) 31)) .rnil))))))))))))))))))))))))))))))))]))))))))))))))))))))))))))))))))))))))))))))))))))))))))))))))))))))))
theorem o_fold_eq:treeOf ⟨Tryz.prog,foldC,[roundC],[foldA,foldB,foldD,foldE]⟩ 100000 Tryz.f117 = o_fold:=by kernel_rfl
theorem fold_of (hd:∀ c ∈ ([roundC]:List Ctr),c.ok Tryz.prog) (h:∀ ρ:Env,ρ.good→(foldC).pre ρ→o_fold.den ⟨Tryz.prog,foldC,[roundC],[foldA,foldB,foldD,foldE]⟩ ρ):(foldC).ok Tryz.prog :=
 ok_of_tree Tryz.func117 (fun a w=>Tryz.call117 a w) hd 100000 (fun ρ hg hp=>by rw [o_fold_eq]; exact h ρ hg hp)
@[simp] def o_sumR_1:Sg:=sg 0 [bv 4 4,bv 3 3,bt 6 (.rcons (.vint .u32 (.lit 1779033703)) (.rcons (.vint .u32 (.lit 3144134277)) (.rcons (.vint .u32 (.lit 1013904242)) (.rcons (.vint .u32 (.lit 2773480762)) (.rcons (.vint .u32 (.lit 1359893119)) (.rcons (.vint .u32 (.lit 2600822924)) (.rcons (.vint .u32 (.lit 528734635)) (.rcons (.vint .u32 (.lit 1541459225)) .rnil)))))))),bt 5 (.rcons (.vint .u32 (.icell (.var 6) (.lit 0) 0)) (.rcons (.vint .u32 (.icell (.var 6) (.lit 0) 1)) (.rcons (.vint .u32 (.icell (.var 6) (.lit 0) 2)) (.rcons (.vint .u32 (.icell (.var 6) (.lit 0) 3)) (.rcons (.vint .u32 (.icell (.var 6) (.lit 0) 4)) (.rcons (.vint .u32 (.icell (.var 6) (.lit 0) 5)) (.rcons (.vint .u32 (.icell (.var 6) (.lit 0) 6)) (.rcons (.vint .u32 (.icell (.var 6) (.lit 0) 7)) (.rcons (.vint .u32 (.icell (.var 6) (.lit 0) 8)) (.rcons (.vint .u32 (.icell (.var 6) (.lit 0) 9)) (.rcons (.vint .u32 (.icell (.var 6) (.lit 0) 10)) (.rcons (.vint .u32 (.icell (.var 6) (.lit 0) 11)) (.rcons (.vint .u32 (.icell (.var 6) (.lit 0) 12)) (.rcons (.vint .u32 (.icell (.var 6) (.lit 0) 13)) (.rcons (.vint .u32 (.icell (.var 6) (.lit 0) 14)) (.rcons (.vint .u32 (.icell (.var 6) (.lit 0) 15)) (.rcons (.vint .u32 (.icell (.var 6) (.lit 0) 16)) (.rcons (.vint .u32 (.icell (.var 6) (.lit 0) 17)) (.rcons (.vint .u32 (.icell (.var 6) (.lit 0) 18)) (.rcons (.vint .u32 (.icell (.var 6) (.lit 0) 19)) (.rcons (.vint .u32 (.icell (.var 6) (.lit 0) 20)) (.rcons (.vint .u32 (.icell (.var 6) (.lit 0) 21)) (.rcons (.vint .u32 (.icell (.var 6) (.lit 0) 22)) (.rcons (.vint .u32 (.icell (.var 6) (.lit 0) 23)) (.rcons (.vint .u32 (.icell (.var 6) (.lit 0) 24)) (.rcons (.vint .u32 (.icell (.var 6) (.lit 0) 25)) (.rcons (.vint .u32 (.icell (.var 6) (.lit 0) 26)) (.rcons (.vint .u32 (.icell (.var 6) (.lit 0) 27)) (.rcons (.vint .u32 (.icell (.var 6) (.lit 0) 28)) (.rcons (.vint .u32 (.icell (.var 6) (.lit 0) 29)) (.rcons (.vint .u32 (.icell (.var 6) (.lit 0) 30)) (.rcons (.vint .u32 (.icell (.var 6) (.lit 0) 31)) (.rcons (.vint .u32 (.icell (.var 6) (.lit 0) 32)) (.rcons (.vint .u32 (.icell (.var 6) (.lit 0) 33)) (.rcons (.vint .u32 (.icell (.var 6) (.lit 0) 34)) (.rcons (.vint .u32 (.icell (.var 6) (.lit 0) 35)) (.rcons (.vint .u32 (.icell (.var 6) (.lit 0) 36)) (.rcons (.vint .u32 (.icell (.var 6) (.lit 0) 37)) (.rcons (.vint .u32 (.icell (.var 6) (.lit 0) 38)) (.rcons (.vint .u32 (.icell (.var 6) (.lit 0) 39)) (.rcons (.vint .u32 (.icell (.var 6) (.lit 0) 40)) (.rcons (.vint .u32 (.icell (.var 6) (.lit 0) 41)) (.rcons (.vint .u32 (.icell (.var 6) (.lit 0) 42)) (.rcons (.vint .u32 (.icell (.var 6) (.lit 0) 43)) (.rcons (.vint .u32 (.icell (.var 6) (.lit 0) 44)) (.rcons (.vint .u32 (.icell (.var 6) (.lit 0) 45)) (.rcons (.vint .u32 (.icell (.var 6) (.lit 0) 46)) (.rcons (.vint .u32 (.icell (.var 6) (.lit 0) 47)) (.rcons (.vint .u32 (.icell (.var 6) (.lit 0) 48)) (.rcons (.vint .u32 (.icell (.var 6) (.lit 0) 49)) (.rcons (.vint .u32 (.icell (.var 6) (.lit 0) 50)) (.rcons (.vint .u32 (.icell (.var 6) (.lit 0) 51)) (.rcons (.vint .u32 (.icell (.var 6) (.lit 0) 52)) (.rcons (.vint .u32 (.icell (.var 6) (.lit 0) 53)) (.rcons (.vint .u32 (.icell (.var 6) (.lit 0) 54)) (.rcons (.vint .u32 (.icell (.var 6) (.lit 0) 55)) (.rcons (.vint .u32 (.icell (.var 6) (.lit 0) 56)) (.rcons (.vint .u32 (.icell (.var 6) (.lit 0) 57)) (.rcons (.vint .u32 (.icell (.var 6) (.lit 0) 58)) (.rcons (.vint .u32 (.icell (.var 6) (.lit 0) 59)) (.rcons (.vint .u32 (.icell (.var 6) (.lit 0) 60)) (.rcons (.vint .u32 (.icell (.var 6) (.lit 0) 61)) (.rcons (.vint .u32 (.icell (.var 6) (.lit 0) 62)) (.rcons (.vint .u32 (.icell (.var 6) (.lit 0) 63)) .rnil)))))))))))))))))))))))))))))))))))))))))))))))))))))))))))))))),bv 2 2,bv 1 1,bg 0 0]
def o_sumR:Out:=(.fresh 7 (.need (.c1 (.isg 0) (.var 5)) (.need (.cmp .lss (.lit 0) (.dlen (.var 6))) (.pre 0 o_sumR_1 (.both (.fresh 8 (.post 0 0 o_sumR_1 8 (.ret 0 (sg 7 [bt 7 (r8 8)])))) .top)))))
theorem o_sumR_eq:treeOf ⟨Tryz.prog,sumRC,[foldC],[]⟩ 100000 Tryz.f79 = o_sumR:=by kernel_rfl
theorem sumR_of (hd:∀ c ∈ ([foldC]:List Ctr),c.ok Tryz.prog) (h:∀ ρ:Env,ρ.good→(sumRC).pre ρ→o_sumR.den ⟨Tryz.prog,sumRC,[foldC],[]⟩ ρ):(sumRC).ok Tryz.prog :=
 ok_of_tree Tryz.func79 (fun a w=>Tryz.call79 a w) hd 100000 (fun ρ hg hp=>by rw [o_sumR_eq]; exact h ρ hg hp)
end Go.Proofs

set_option linter.unusedSimpArgs false
set_option linter.unusedVariables false
namespace Go.Proofs
open Go Go.Eng
set_option maxRecDepth 20000
theorem mulN {x y:Nat} (h:x * y < 18446744073709551616):arithOf .mul .u64 (x:Int) (y:Int) = ((x * y:Nat):Int):=by
 show IntKind.u64.wrap ((x:Int) * (y:Int)) = _
 rw [wrap64u,← Int.natCast_mul]; omega
def wCells (f:Nat→Int) (n:Nat):List Value:=(List.range n).map fun j=>.int .u32 (f j)
theorem wCells_get {f:Nat→Int} {n j:Nat} (h:j < n):cellX [wCells f n] j = f j:=by
 rw [cellX_row]; simp [wCells,h,vInt]
end Go.Proofs

set_option linter.unusedSimpArgs false
set_option linter.unusedVariables false
namespace Go.Proofs
open Go Go.Eng
set_option maxRecDepth 20000
theorem segB_get64 {d:Rows'} {o:Int} {j:Nat} (h0:0 ≤ o) (hl:o + 64 ≤ d.length) (hj:j < 64):(segB d o 64).getD j 0 = cellI d (o + j) 0:=by
 have hg:=bI_get (d:=d) (i:=o + j) (by omega) (by omega)
 unfold segB
 rw [List.getD_eq_getElem?_getD,List.getElem?_take,if_pos (show j < (64:Int).toNat from hj),List.getElem?_drop,show o.toNat + j = (o + j).toNat by omega,hg]
 rfl
theorem wordsAt_len {m:List Int} {o:Nat}:(wordsAt m o).length = 16:=by simp [wordsAt]
theorem wordsAt_get {m:List Int} {o t:Nat} (h:t < 16):(wordsAt m o).getD t 0 = wordAt m (o + 4 * t):=by
 simp [wordsAt,List.getD_eq_getElem?_getD,h]
theorem kW_get {d:Rows'} {t:Nat} (h:t < 64):(kW d).getD t 0 = toW (cellX d t):=by
 simp [kW,wordsK,rowL,List.getD_eq_getElem?_getD,h]
theorem not32 {x:Int}:arithOf .xor .u32 4294967295 x = ofW (~~~ toW x):=by
 rw [xor32]
 refine congrArg ofW ?_
 apply BitVec.eq_of_getLsbD_eq
 intro j hj
 have h1:∀ i:Nat,i < 32→(toW 4294967295).getLsbD i = true:=by decide
 rw [BitVec.getLsbD_xor,BitVec.getLsbD_not,h1 j hj]
 simp [hj]
theorem st_ext {d:Rows'}:stOf (rowL d 8) = ⟨toW (cellX d 0),toW (cellX d 1),toW (cellX d 2),toW (cellX d 3),toW (cellX d 4),toW (cellX d 5),toW (cellX d 6),toW (cellX d 7)⟩:=rfl
theorem put_all {d:Rows'} {n:Nat} {vs:List Value} (h:oneRow d n) (hv:vs.length = n):putD d 0 0 vs = [vs]:=by
 obtain ⟨row,rfl,hl⟩:=h
 simp [putD,splice]
 omega
theorem rowL_eq8 {d e:List (List Value)} (h:rowL d 8 = rowL e 8):∀ j,j < 8→cellX d j = cellX e j:=fun j hj=>by
 have:=rowL_get (d:=d) hj
 rw [h,rowL_get hj] at this
 exact this.symm
theorem rowL_eq64 {d e:List (List Value)} (h:rowL d 64 = rowL e 64):∀ j,j < 64→cellX d j = cellX e j:=fun j hj=>by
 have:=rowL_get (d:=d) hj
 rw [h,rowL_get hj] at this
 exact this.symm
theorem wCells_one {f:Nat→Int} {n:Nat}:oneRow [wCells f n] n:=⟨_,rfl,by simp [wCells]⟩
theorem wCells_row {d:Rows'} {n:Nat}:rowL [wCells (cellX d) n] n = rowL d n:=rowL_congr fun j hj=>wCells_get hj
theorem wCells_rowI {d:Rows'} {n:Nat}:rowL [wCells (cellI d 0) n] n = rowL d n:=rowL_congr fun j hj=>(wCells_get hj).trans cellI_0
theorem round_ok:roundC.ok Tryz.prog:=round_of (by simp [turn_ok]) fun ρ hg hp=>by
 obtain ⟨hw8,hw64,ho,h64,hol,hB⟩:=hp
 simp (config:={ maxSteps:=2000000 }) [o_round,roundC,roundA,roundB,roundD,roundIn,blkS,turnC]
 have c64:oneRow [wCells (cellX (ρ 1).d) 64] 64∧rowL [wCells (cellX (ρ 1).d) 64] 64 = rowL (ρ 1).d 64:=⟨wCells_one,wCells_row⟩
 have c8:oneRow [wCells (cellX (ρ 0).d) 8] 8∧rowL [wCells (cellX (ρ 0).d) 8] 8 = rowL (ρ 0).d 8:=⟨wCells_one,wCells_row⟩
 refine ⟨⟨c64,c8.1,c8.2,⟨_,rfl,rfl⟩,fun j hj=>absurd hj (by omega)⟩,fun h _ k _ w _ t _ hk hk2 hh hh2 t0 t1 hA=>⟨fun hlt=>⟨fun h16=>?_,fun h16=>?_⟩,fun hge=>⟨by rw [oneRow_len hh]; decide,⟨⟨hk,hk2⟩,hh,hh2,?_,⟨_,rfl,rfl⟩,?_,?_⟩,fun h2 _ k2 _ w2 _ t2 _ v _ hk3 hk4 hh3 hh4 u0 u1 hW hv hvw hR=>⟨fun hlt=>?_,fun hge2=>⟨⟨hh3,hv,hvw,?_,fun j hj=>?_⟩,fun h5 _ t5 _ v5 _ hh5 s0 s1 hv5 hvw5 hR5 hc5=>⟨fun hlt=>?_,fun hge5=>⟨by rw [oneRow_len hh5]; decide,?_,?_⟩⟩⟩⟩⟩⟩⟩
 ·obtain ⟨T,hT⟩:∃ T:Nat,t.i = T:=⟨t.i.toNat,by omega⟩
  have m0:arithOf .mul .i64 4 t.i = ((4 * T:Nat):Int):=by rw [mul64 (by omega) (by omega)]; omega
  have m1:arithOf .add .i64 (arithOf .mul .i64 4 t.i) 1 = ((4 * T + 1:Nat):Int):=by rw [m0,add64 (by omega) (by omega)]; omega
  have m2:arithOf .add .i64 (arithOf .mul .i64 4 t.i) 2 = ((4 * T + 2:Nat):Int):=by rw [m0,add64 (by omega) (by omega)]; omega
  have m3:arithOf .add .i64 (arithOf .mul .i64 4 t.i) 3 = ((4 * T + 3:Nat):Int):=by rw [m0,add64 (by omega) (by omega)]; omega
  have m5:arithOf .add .i64 t.i 1 = ((T + 1:Nat):Int):=by rw [add64 (by omega) (by omega)]; omega
  rw [m1,m2,m3,m0,m5]
  rw [hT,Int.toNat_natCast] at hA
  rw [hT]
  simp only [Int.toNat_natCast]
  have e2:=oneRow_len hA.1
  refine ⟨by omega,by omega,ho,by omega,by omega,by omega,by omega,by omega,by omega,by omega,by omega,by omega,by omega,by omega,by omega,by omega,by omega,by omega,by omega,⟨⟨hk,hk2⟩,hh,hh2,by omega,by omega,wordIs_put hA (by omega) ?_⟩,by omega⟩
  rw [be32_int,schedL_low (by rw [wordsAt_len]; omega),wordsAt_get (by omega),wordAt,Nat.zero_add,segB_get64 ho hol (by omega),segB_get64 ho hol (by omega),segB_get64 ho hol (by omega),segB_get64 ho hol (by omega)]
 ·obtain ⟨T,hT⟩:∃ T:Nat,t.i = ((16 + T:Nat):Int):=⟨t.i.toNat - 16,by omega⟩
  have m15:arithOf .sub .i64 t.i 15 = ((1 + T:Nat):Int):=by rw [sub64 (by omega) (by omega)]; omega
  have m2:arithOf .sub .i64 t.i 2 = ((14 + T:Nat):Int):=by rw [sub64 (by omega) (by omega)]; omega
  have m16:arithOf .sub .i64 t.i 16 = (T:Int):=by rw [sub64 (by omega) (by omega)]; omega
  have m7:arithOf .sub .i64 t.i 7 = ((9 + T:Nat):Int):=by rw [sub64 (by omega) (by omega)]; omega
  have m5:arithOf .add .i64 t.i 1 = ((16 + T + 1:Nat):Int):=by rw [add64 (by omega) (by omega)]; omega
  rw [m15,m2,m16,m7,m5]
  rw [hT,Int.toNat_natCast] at hA
  rw [hT]
  simp only [Int.toNat_natCast]
  have e2:=oneRow_len hA.1
  refine ⟨by omega,by omega,by omega,wordIs_isW hA (by omega),fun r1 _ g1=>⟨wordIs_isW hA (by omega),fun r2 _ g2=>⟨by omega,by omega,wordIs_isW hA (by omega),fun r3 _ g3=>⟨wordIs_isW hA (by omega),fun r4 _ g4=>⟨by omega,by omega,by omega,by omega,by omega,⟨⟨hk,hk2⟩,hh,hh2,by omega,by omega,wordIs_put hA (by omega) ?_⟩,by omega⟩⟩⟩⟩⟩
  rw [g1,g2,g3,g4]
  rw [shr3 (wordIs_isW hA (by omega)),shr10 (wordIs_isW hA (by omega))]
  simp only [add32,xor32,toW_ofW]
  rw [toW_word hA (by omega:1 + T < 16 + T),toW_word hA (by omega:14 + T < 16 + T),toW_word hA (by omega:T < 16 + T),toW_word hA (by omega:9 + T < 16 + T),schedL_step wordsAt_len (by omega)]
  generalize (schedL (wordsAt (segB (ρ 6).d (ρ 3).i 64) 0) 48).getD (1 + T) 0 = p1
  generalize (schedL (wordsAt (segB (ρ 6).d (ρ 3).i 64) 0) 48).getD (14 + T) 0 = p14
  generalize (schedL (wordsAt (segB (ρ 6).d (ρ 3).i 64) 0) 48).getD (9 + T) 0 = p9
  generalize (schedL (wordsAt (segB (ρ 6).d (ρ 3).i 64) 0) 48).getD T 0 = p0
  refine congrArg ofW ?_
  simp only [sg0,sg1]
 ·have:t.i = 64:=by omega
  rw [this] at hA; exact hA
 ·have e:words8 [wCells (cellI h.d 0) 8]:=fun j hj=>by
   rw [wCells_get hj,cellI_0,rowL_eq8 hh2 j hj]; exact hw8 j hj
  exact e
 ·have e:stOf (rowL [wCells (cellI h.d 0) 8] 8) = stOf (rowL (ρ 0).d 8):=by rw [wCells_rowI,hh2]
  exact e
 ·obtain ⟨T,hT⟩:∃ T:Nat,t2.i = T:=⟨t2.i.toNat,by omega⟩
  have m5:arithOf .add .i64 t2.i 1 = ((T + 1:Nat):Int):=by rw [add64 (by omega) (by omega)]; omega
  rw [m5]
  rw [hT,Int.toNat_natCast] at hR
  rw [hT]
  simp only [Int.toNat_natCast,cellI_0]
  refine ⟨by rw [oneRow_len hv]; decide,by omega,by rw [oneRow_len hk3]; decide,by rw [oneRow_len hW.1]; decide,hvw 4 (by omega),fun r1 _ g1=>⟨hvw 4 (by omega),fun r2 _ g2=>⟨hvw 4 (by omega),fun r3 _ g3=>⟨hvw 0 (by omega),fun r4 _ g4=>⟨hvw 0 (by omega),fun r5 _ g5=>⟨hvw 0 (by omega),fun r6 _ g6=>?_⟩⟩⟩⟩⟩⟩
  rw [put_all hv rfl,g1,g2,g3,g4,g5,g6]
  refine ⟨⟨⟨hk3,hk4⟩,hh3,hh4,by omega,by omega,hW,⟨_,rfl,rfl⟩,fun j hj=>?_,?_⟩,by omega⟩
  ·match j,hj with
   | 0,_=>show isW (arithOf .add .u32 _ _); rw [add32]; exact isW_ofW
   | 1,_=>exact hvw 0 (by omega)
   | 2,_=>exact hvw 1 (by omega)
   | 3,_=>exact hvw 2 (by omega)
   | 4,_=>show isW (arithOf .add .u32 _ _); rw [add32]; exact isW_ofW
   | 5,_=>exact hvw 4 (by omega)
   | 6,_=>exact hvw 5 (by omega)
   | 7,_=>exact hvw 6 (by omega)
  ·rw [rnds,← hR,kW_get (by omega),← rowL_eq64 hk4 T (by omega),← toW_word hW (by omega:T < 64)]
   simp only [add32,xor32,and32,not32,toW_ofW]
   rw [st_ext,st_ext]
   simp only [cellX_row,List.getElem?_cons_zero,List.getElem?_cons_succ,Option.getD_some,vInt,toW_ofW]
   rfl
 ·have:t2.i = 64:=by omega
  rw [this] at hR; exact hR
 ·rw [if_neg (by omega)]; exact rowL_eq8 hh4 j hj
 ·obtain ⟨T,hT⟩:∃ T:Nat,t5.i = T:=⟨t5.i.toNat,by omega⟩
  have m5:arithOf .add .i64 t5.i 1 = ((T + 1:Nat):Int):=by rw [add64 (by omega) (by omega)]; omega
  rw [m5]
  rw [hT] at hc5
  rw [hT]
  simp only [Int.toNat_natCast]
  refine ⟨by omega,by rw [oneRow_len hh5]; decide,by rw [oneRow_len hv5]; decide,⟨oneRow_putX hh5,by omega,by omega,hv5,hvw5,hR5,fun j hj=>?_⟩,by omega⟩
  by_cases e:j = T
  ·rw [e,cellX_putX hh5 (by omega),hc5 T (by omega),if_neg (by omega),if_pos (by omega),add32]
  ·rw [cellX_putX_ne e,hc5 j hj]
   by_cases e2:j < T
   ·rw [if_pos (by omega),if_pos (by omega)]
   ·rw [if_neg (by omega),if_neg (by omega)]
 ·have e:words8 [wCells (cellI h5.d 0) 8]:=fun j hj=>by
   rw [wCells_get hj,cellI_0,hc5 j hj,if_pos (by omega)]; exact isW_ofW
  exact e
 ·have e:stOf (rowL [wCells (cellI h5.d 0) 8] 8) = blockS (kW (ρ 1).d) (stOf (rowL (ρ 0).d 8)) (wordsAt (segB (ρ 6).d (ρ 3).i 64) 0):=by
   rw [wCells_rowI,blockS,← hR5,st_ext,st_ext,st_ext]
   have hc:∀ j,j < 8→cellX h5.d j = ofW (toW (cellX (ρ 0).d j) + toW (cellX v5.d j)):=fun j hj=>by rw [hc5 j hj,if_pos (by omega)]
   rw [hc 0 (by omega),hc 1 (by omega),hc 2 (by omega),hc 3 (by omega),hc 4 (by omega),hc 5 (by omega),hc 6 (by omega),hc 7 (by omega)]
   simp only [toW_ofW,addS]
  exact e
end Go.Proofs

set_option linter.unusedSimpArgs false
set_option linter.unusedVariables false
namespace Go.Proofs
open Go Go.Eng
set_option maxRecDepth 20000
theorem wordsAt_seg {l:List Int} {o:Nat}:wordsAt ((l.drop o).take 64) 0 = wordsAt l o:=by
 unfold wordsAt
 refine List.map_congr_left fun t ht=>?_
 have ht:=List.mem_range.1 ht
 have e:∀ j,j < 64→((l.drop o).take 64).getD j 0 = l.getD (o + j) 0:=fun j hj=>by
  rw [List.getD_eq_getElem?_getD,List.getD_eq_getElem?_getD,List.getElem?_take,if_pos hj,List.getElem?_drop]
 unfold wordAt
 rw [e _ (by omega),e _ (by omega),e _ (by omega),e _ (by omega),show o + (0 + 4 * t) = o + 4 * t by omega,show o + (0 + 4 * t + 1) = o + 4 * t + 1 by omega,show o + (0 + 4 * t + 2) = o + 4 * t + 2 by omega,show o + (0 + 4 * t + 3) = o + 4 * t + 3 by omega]
theorem stL_get8 {d:Rows'} (h:words8 d) {k:Nat} (hk:k < 8):(stL (stOf (rowL d 8))).getD k 0 = cellX d k:=by
 have h8:stL (stOf (rowL d 8)) = [ofW (toW (cellX d 0)),ofW (toW (cellX d 1)),ofW (toW (cellX d 2)),ofW (toW (cellX d 3)),ofW (toW (cellX d 4)),ofW (toW (cellX d 5)),ofW (toW (cellX d 6)),ofW (toW (cellX d 7))]:=rfl
 rw [h8,ofW_toW (h 0 (by omega)),ofW_toW (h 1 (by omega)),ofW_toW (h 2 (by omega)),ofW_toW (h 3 (by omega)),ofW_toW (h 4 (by omega)),ofW_toW (h 5 (by omega)),ofW_toW (h 6 (by omega)),ofW_toW (h 7 (by omega))]
 match k,hk with
 | 0,_=>rfl
 | 1,_=>rfl
 | 2,_=>rfl
 | 3,_=>rfl
 | 4,_=>rfl
 | 5,_=>rfl
 | 6,_=>rfl
 | 7,_=>rfl
theorem bytesS_get8 {d:Rows'} (h:words8 d) {t:Nat} (ht:t < 32):(bytesS (stOf (rowL d 8)))[t]?.getD 0 = ((cellX d (t / 4)).fdiv (2 ^ (24 - 8 * (t % 4)))) % 256:=by
 rw [← stL_get8 h (by omega)]
 simp [bytesS,ht]
theorem sub24 {x:Nat} (h:x ≤ 24):arithOf .sub .u64 24 (x:Int) = ((24 - x:Nat):Int):=by
 show IntKind.u64.wrap (24 - (x:Int)) = _
 rw [wrap64u]; omega
theorem wrapN {x:Nat} (h:x < 18446744073709551616):IntKind.u64.wrap (x:Int) = (x:Int):=by rw [wrap64u]; omega
theorem mul8 {x:Nat} (h:x < 1000000000000000):arithOf .mul .u64 8 (x:Int) = ((8 * x:Nat):Int):=mulN (x:=8) (by omega)
theorem fold_ok:foldC.ok Tryz.prog:=fold_of (by simp [round_ok]) fun ρ hg hp=>by
 obtain ⟨hl,hle,hB,hw64,hw8⟩:=hp
 simp (config:={ maxSteps:=2000000 }) [o_fold,foldC,foldA,foldB,foldD,foldE,foldIn,roundC]
 have hbl:(bI (ρ 3).d).length = (ρ 3).d.length:=bI_len
 refine ⟨by omega,by omega,by omega,by omega,by omega,⟨⟨fun j hj=>wCells_get (f:=cellX (ρ 5).d) (n:=64) hj,⟨_,rfl,rfl⟩,⟨_,rfl,rfl⟩,by omega,?_⟩,fun j hj=>wCells_get (f:=cellX (ρ 6).d) (n:=8) hj,0,by omega,?_⟩,fun k _ h _ n _ m _ hk hk1 hh hn hmB hh2 z hz hm=>⟨by omega,fun hne=>?_,fun heq=>?_⟩⟩
 ·refine allB_app (allB_tk hB) fun r hr=>?_
  obtain rfl:=List.mem_singleton.1 hr
  decide
 ·rw [bI_app,List.take_of_length_le (by omega)]; rfl
 ·have hml:m.d.length = (ρ 3).d.length + 1 + z:=by
   have:=congrArg List.length hm
   rw [bI_len,List.length_append,hbl,List.length_cons,List.length_replicate] at this; omega
  rw [hn,rem64] at hne
  have hzlt:z < padZ (ρ 3).d.length:=by unfold padZ at hz ⊢; omega
  refine ⟨hn,by unfold padZ at hz; omega,⟨⟨hk,hk1,hh,hn,allB_app hmB fun r hr=>?_⟩,hh2,z + 1,hzlt,?_⟩,by omega⟩
  ·obtain rfl:=List.mem_singleton.1 hr
   decide
  ·rw [bI_app,hm,List.replicate_succ',← List.cons_append,← List.append_assoc]; rfl
 ·have hml:m.d.length = (ρ 3).d.length + 1 + z:=by
   have:=congrArg List.length hm
   rw [bI_len,List.length_append,hbl,List.length_cons,List.length_replicate] at this; omega
  rw [hn,rem64] at heq
  have hzz:z = padZ (ρ 3).d.length:=by unfold padZ at hz ⊢; omega
  rw [hzz] at hm
  refine ⟨⟨⟨hk,hk1,hh,hn,hmB⟩,hh2,?_,hm⟩,fun k2 _ h2 _ n2 _ m2 _ i _ q _ hk2 hk3 hh3 hn2 hmB2 hh4 i0 i1 hq hm2=>⟨fun hi=>?_,fun hi=>⟨⟨⟨hk2,hk3,hh3,hn2,hmB2⟩,?_,?_,0,rfl,by omega,?_⟩,fun k4 _ h4 _ n4 _ c4 _ m4 _ t _ hk4 hk5 hh5 hn4 hmB4 hw4 hm4 x hx hxl hst=>?_⟩⟩⟩
  ·rw [hl,wrapN (by omega)]
   exact (mulN (x:=(ρ 3).d.length) (y:=8) (by omega)).trans (by omega)
  ·obtain ⟨I,hI⟩:∃ I:Nat,i.i = I:=⟨i.i.toNat,by omega⟩
   have m1:arithOf .sub .i64 i.i 1 = i.i - 1:=by rw [Go.Proofs.sub64 (by omega) (by omega)]
   have hml2:m2.d.length ≤ (ρ 3).d.length + 1 + padZ (ρ 3).d.length + 8:=by
    have:=congrArg List.length hm2
    rw [bI_len,List.length_append,hbl,List.length_cons,List.length_append,List.length_replicate,List.length_take,beL_len] at this; omega
   have hp64:padZ (ρ 3).d.length ≤ 63:=by unfold padZ; omega
   rw [m1,hI,wrapN (by omega),mul8 (by omega),shr_u64 (by omega),wrap8,hq]
   rw [hI] at hm2
   refine ⟨by omega,hn2,by omega,⟨⟨hk2,hk3,hh3,hn2,allB_app hmB2 fun r hr=>?_⟩,hh4,by omega,by omega,rfl,?_⟩,by omega⟩
   ·obtain rfl:=List.mem_singleton.1 hr
    show 0 ≤ _ % 256∧_ % 256 < 256
    omega
   ·have hg:=beL_get (v:=(ρ 1).i * 8) (n:=8) (j:=7 - I) (by omega)
    rw [show 8 - 1 - (7 - I) = I by omega] at hg
    rw [show (7 - ((I:Int) - 1)).toNat = (7 - I) + 1 by omega,List.take_add_one,List.getElem?_eq_getElem (by rw [beL_len]; omega)]
    rw [List.getElem?_eq_getElem (by rw [beL_len]; omega)] at hg
    rw [bI_app,hm2,show (7 - (I:Int)).toNat = 7 - I by omega,← hg]
    simp [bI,rowI,vInt]
  ·exact fun j hj=>by rw [hh4 j hj]; exact hw8 j hj
  ·have h8:(7 - i.i).toNat = 8:=by omega
   rw [hm2,h8,List.take_of_length_le (by rw [beL_len]; omega),padL,hbl,hl]
   rfl
  ·exact congrArg stOf (rowL_congr hh4)
  ·have hpl:=padL_len (m:=bI (ρ 3).d)
   have hml4:m4.d.length = (padL (bI (ρ 3).d)).length:=by rw [← hm4,bI_len]
   refine ⟨by omega,fun hlt=>⟨by rw [oneRow_len hh5]; decide,by rw [oneRow_len hk5]; decide,fun hcap=>?_⟩,fun hge=>⟨⟨hh5,hw4,?_,⟨_,rfl,rfl⟩,fun j hj=>absurd hj (by omega)⟩,fun h6 _ d6 _ t6 _ hh6 hw6 hst6 hd6 s0 s1 hc6=>⟨fun hlt=>?_,fun hge2=>⟨by rw [oneRow_len hd6]; decide,?_⟩⟩⟩⟩
   ·have m1:arithOf .add .i64 t.i 64 = t.i + 64:=by rw [Go.Proofs.add64 (by omega) (by omega)]
    have h9:64 * x + 64 ≤ m4.d.length:=by omega
    rw [if_neg (by omega),m1]
    refine ⟨by omega,by omega,by omega,by omega,⟨fun j hj=>?_,fun j hj=>?_,by omega,by omega,by omega,hmB4⟩,fun g _ hgw hgs=>?_⟩
    ·have:cellX [wCells (cellI h4.d 0) 8] j = cellX h4.d j:=(wCells_get hj).trans cellI_0
     exact (congrArg isW this).mpr (hw4 j hj)
    ·have:cellX [wCells (cellI k4.d 0) 64] j = cellX (ρ 5).d j:=((wCells_get hj).trans cellI_0).trans (hk4 j hj)
     exact (congrArg isW this).mpr (hw64 j hj)
    ·rw [put_all hh5 rfl]
     have hgs':stOf (rowL g.d 8) = blockS (kW [wCells (cellI k4.d 0) 64]) (stOf (rowL [wCells (cellI h4.d 0) 8] 8)) (wordsAt (segB m4.d t.i 64) 0):=hgs
     have e1:kW [wCells (cellI k4.d 0) 64] = kW (ρ 5).d:=by
      unfold kW; rw [wCells_rowI]; exact congrArg wordsK (rowL_congr hk4)
     have e2:wordsAt (segB m4.d t.i 64) 0 = wordsAt (padL (bI (ρ 3).d)) (64 * x):=by
      rw [segB,hm4,hx,show ((64:Int) * (x:Int)).toNat = 64 * x by omega]
      exact wordsAt_seg
     rw [e1,e2,wCells_rowI,hst] at hgs'
     refine ⟨⟨⟨hk4,hk5,⟨_,rfl,rfl⟩,hn4,hmB4⟩,fun j hj=>?_,hm4,x + 1,by omega,by omega,?_⟩,by omega⟩
     ·have:cellX [wCells (cellX g.d) 8] j = cellX g.d j:=wCells_get hj
      exact (congrArg isW this).mpr (hgw j hj)
     ·have e3:stOf (rowL [wCells (cellX g.d) 8] 8) = stAt (kW (ρ 5).d) (stOf (rowL (ρ 6).d 8)) (padL (bI (ρ 3).d)) (x + 1):=by
       rw [wCells_row,hgs',stAt]
      exact e3
   ·rw [hst]
    refine congrArg _ ?_
    omega
   ·obtain ⟨T,hT⟩:∃ T:Nat,t6.i = T:=⟨t6.i.toNat,by omega⟩
    have m3:arithOf .add .i64 t6.i 1 = ((T + 1:Nat):Int):=by rw [Go.Proofs.add64 (by omega) (by omega)]; omega
    have m1:arithOf .sub .u64 24 (arithOf .mul .u64 8 (IntKind.u64.wrap (arithOf .rem .i64 t6.i 4))) = ((24 - 8 * (T % 4):Nat):Int):=by
     rw [hT,rem4,wrapN (by omega),mul8 (by omega),sub24 (by omega)]
    rw [m1,m3,hT,quo4 (by omega),shr_u32 (by omega),wrap8]
    rw [hT] at hc6
    simp only [Int.toNat_natCast]
    refine ⟨by omega,by omega,by rw [oneRow_len hh6]; decide,by omega,by omega,by rw [oneRow_len hd6]; decide,⟨hh6,hw6,hst6,oneRow_putX hd6,by omega,by omega,fun j hj=>?_⟩,by omega⟩
    by_cases ej:j = T
    ·rw [ej,cellX_putX hd6 (by omega),bytesS_get8 hw6 (by omega)]
    ·rw [cellX_putX_ne ej,hc6 j (by omega)]
   ·have e:rowL [dgCells (cellI d6.d 0)] 32 = bytesS (stOf (rowL h6.d 8)):=rowL_eq bytesS_len fun j hj=>by
     rw [dgCells_get hj,cellI_0]; exact hc6 j (by omega)
    rw [hst6] at e
    exact e
theorem roundK_isW:∀ x ∈ roundK,isW x:=by unfold isW; decide
theorem initH_isW:∀ x ∈ initH,isW x:=by unfold isW; decide
theorem kW_round {d:Rows'} (h:rowL d 64 = roundK):kW d = wordsK roundK:=by rw [kW,h]
theorem words64_of {d:Rows'} (h:rowL d 64 = roundK):words64 d:=fun j hj=>by
 rw [← rowL_get hj,h]
 refine roundK_isW _ ?_
 rw [List.getD_eq_getElem?_getD,List.getElem?_eq_getElem (by rw [roundK_len]; exact hj)]
 exact List.getElem_mem _
theorem words8_of {d:Rows'} (h:rowL d 8 = initH):words8 d:=fun j hj=>by
 rw [← rowL_get hj,h]
 refine initH_isW _ ?_
 rw [List.getD_eq_getElem?_getD,List.getElem?_eq_getElem (by show j < 8; exact hj)]
 exact List.getElem_mem _
theorem glob_row {d:Rows'} (h:d = [roundK.map (Value.int .u32)]):rowL d 64 = roundK:=rowL_eq roundK_len fun j hj=>by
 rw [h,glob_cell hj,List.getD_eq_getElem?_getD]
theorem sumR_ok:sumRC.ok Tryz.prog:=sumR_of (by simp [fold_ok]) fun ρ hg hp=>by
 obtain ⟨hl,hle,hB,hGr,hGd⟩:=hp
 simp (config:={ maxSteps:=2000000 }) [o_sumR,sumRC,foldC,gOk]
 have ek:rowL [wCells (cellI (ρ 6).d 0) 64] 64 = roundK:=wCells_rowI.trans (glob_row hGd)
 refine ⟨hGr,by rw [hGd]; decide,⟨hl,hle,hB,words64_of ek,words8_of rfl⟩,fun d _ hd=>?_⟩
 have hd':rowL d.d 32 = shaK (kW [wCells (cellI (ρ 6).d 0) 64]) (stOf initH) (bI (ρ 3).d):=hd
 rw [kW_round ek] at hd'
 exact hd'
end Go.Proofs

set_option linter.unusedSimpArgs false
set_option linter.unusedVariables false
set_option maxRecDepth 100000
namespace Go.Proofs
open Go Go.Eng

end Go.Proofs

set_option linter.unusedSimpArgs false
set_option linter.unusedVariables false
namespace Go.Proofs
open Go Go.Eng
set_option maxRecDepth 20000
end Go.Proofs

set_option linter.unusedSimpArgs false
set_option linter.unusedVariables false
set_option maxRecDepth 100000
namespace Go.Proofs
open Go Go.Eng

def o_sizes3:Out:=(.br (.cmp .leq (.lit 1) (.var 0))
 (.br (.cmp .leq (.var 0) (.var 1))
 (.br (.cmp .leq (.var 1) (.var 2))
 (.ret 0 (sg 3 [bt 3 (.cmp .leq (.var 2) (.lit 255))]))
 (.ret 0 (sg 3 [bt 3 (.bl false)])))
 (.ret 0 (sg 3 [bt 3 (.bl false)])))
 (.ret 0 (sg 3 [bt 3 (.bl false)])))
theorem o_sizes3_eq:treeOf ⟨Tryz.prog,sizes3C,[],[]⟩ 100000 Tryz.f86 = o_sizes3:=by kernel_rfl
theorem sizes3_of (hd:∀ c ∈ ([]:List Ctr),c.ok Tryz.prog) (h:∀ ρ:Env,ρ.good→(sizes3C).pre ρ→o_sizes3.den ⟨Tryz.prog,sizes3C,[],[]⟩ ρ):(sizes3C).ok Tryz.prog :=
 ok_of_tree Tryz.func86 (fun a w=>Tryz.call86 a w) hd 100000 (fun ρ hg hp=>by rw [o_sizes3_eq]; exact h ρ hg hp)
def o_checkM:Out:=(.fresh 10 (.pre 0 (sg 0 [bv 2 2,bv 1 1,bv 0 0]) (.both (.fresh 11 (.post 0 0 (sg 0 [bv 2 2,bv 1 1,bv 0 0]) 11 (.br (.not (.var 11))
 (.ret 0 (sg 10 [bt 10 (.lit 2)]))
 (.br (.cmp .lss (.var 3) (.lit 0))
 (.ret 0 (sg 10 [bt 10 (.lit 2)]))
 (.br (.cmp .gtr (.var 3) (.lit 8192))
 (.ret 0 (sg 10 [bt 10 (.lit 2)]))
 (.need (.cmp .leq (.lit 0) (.var 6)) (.br (.cmp .neq (.var 6) (.var 2))
 (.ret 0 (sg 10 [bt 10 (.lit 2)]))
 (.ret 0 (sg 10 [bt 10 (.lit 0)]))))))))) .top)))
theorem o_checkM_eq:treeOf ⟨Tryz.prog,checkMC,[sizes3C],[]⟩ 100000 Tryz.f74 = o_checkM:=by kernel_rfl
theorem checkM_of (hd:∀ c ∈ ([sizes3C]:List Ctr),c.ok Tryz.prog) (h:∀ ρ:Env,ρ.good→(checkMC).pre ρ→o_checkM.den ⟨Tryz.prog,checkMC,[sizes3C],[]⟩ ρ):(checkMC).ok Tryz.prog :=
 ok_of_tree Tryz.func74 (fun a w=>Tryz.call74 a w) hd 100000 (fun ρ hg hp=>by rw [o_checkM_eq]; exact h ρ hg hp)
@[simp] def o_pieceDg_1:Sg:=sg 0 [bv 9 8,bt 7 (.lit 2),bt 6 (.dapp (.rcons (.vint .u8 (.conv .u8 (.arith .shr .i64 (.var 0) (.lit 8)))) .rnil) (.rcons (.vint .u8 (.conv .u8 (.var 0))) .rnil)),bv 1 11,bt 5 (.lit 2),bt 4 (.lit 2),bt 3 (.lit 0),bg 2 12,bg 0 10,bg 8 7]
def o_pieceDg:Out:=(.fresh 9 (.pre 0 (sg 0 []) (.both (.fresh 10 (.fresh 11 (.post 0 0 (sg 0 []) 10 (.fresh 12 (.pre 1 o_pieceDg_1 (.both (.fresh 13 (.post 1 0 o_pieceDg_1 13 (.pre 1 (sg 0 [bv 9 8,bv 7 6,bv 6 5,bv 1 13,bv 5 4,bv 4 3,bv 3 2,bg 2 1,bg 0 10,bg 8 7]) (.both (.fresh 14 (.post 1 0 (sg 0 [bv 9 8,bv 7 6,bv 6 5,bv 1 13,bv 5 4,bv 4 3,bv 3 2,bg 2 1,bg 0 10,bg 8 7]) 14 (.pre 2 (sg 0 [bv 3 8,bv 1 14,bg 0 10,bg 2 7]) (.both (.fresh 15 (.post 2 0 (sg 0 [bv 3 8,bv 1 14,bg 0 10,bg 2 7]) 15 (.ret 0 (sg 9 [bt 9 (r8 15)])))) .top)))) .top)))) .top)))))) .top)))
theorem o_pieceDg_eq:treeOf ⟨Tryz.prog,pieceDgC,[newHashC,writeC,sumC],[]⟩ 100000 Tryz.f88 = o_pieceDg:=by kernel_rfl
theorem pieceDg_of (hd:∀ c ∈ ([newHashC,writeC,sumC]:List Ctr),c.ok Tryz.prog) (h:∀ ρ:Env,ρ.good→(pieceDgC).pre ρ→o_pieceDg.den ⟨Tryz.prog,pieceDgC,[newHashC,writeC,sumC],[]⟩ ρ):(pieceDgC).ok Tryz.prog :=
 ok_of_tree Tryz.func88 (fun a w=>Tryz.call88 a w) hd 100000 (fun ρ hg hp=>by rw [o_pieceDg_eq]; exact h ρ hg hp)
@[simp] def o_encMan_4:Sg:=sg 0 [bv 6 52,bv 5 51,bv 4 50,bg 3 49,bv 2 48,bv 1 47,bg 0 46]
@[simp] def o_encMan_3:Sg:=sg 0 [bt 6 .dnil,bt 5 (.lit 0),bt 4 (.lit 0),(3,.nil),bt 2 (.bl false),bv 1 13,bt 7 (.lit 19713),bg 0 12]
@[simp] def o_encMan_2:Sg:=sg 0 [bt 8 (.rcons (i8 8 53 0) (.rcons (i8 8 53 1) (.rcons (i8 8 53 2) (.rcons (i8 8 53 3) (.rcons (i8 8 53 4) (.rcons (i8 8 53 5) (.rcons (i8 8 53 6) (.rcons (i8 8 53 7) (.rcons (i8 8 53 8) (.rcons (i8 8 53 9) (.rcons (i8 8 53 10) (.rcons (i8 8 53 11) (.rcons (i8 8 53 12) (.rcons (i8 8 53 13) (.rcons (i8 8 53 14) (.rcons (i8 8 53 15) (.rcons (i8 8 53 16) (.rcons (i8 8 53 17) (.rcons (i8 8 53 18) (.rcons (i8 8 53 19) (.rcons (i8 8 53 20) (.rcons (i8 8 53 21) (.rcons (i8 8 53 22) (.rcons (i8 8 53 23) (.rcons (i8 8 53 24) (.rcons (i8 8 53 25) (.rcons (i8 8 53 26) (.rcons (i8 8 53 27) (.rcons (i8 8 53 28) (.rcons (i8 8 53 29) (.rcons (i8 8 53 30) (.rcons (i8 8 53 31) .rnil)))))))))))))))))))))))))))))))),bv 6 52,bv 5 51,bv 4 50,bg 3 49,bv 2 48,bv 1 47,bg 7 54,bg 0 46]
@[simp] def o_encMan_1:Sg:=sg 0 [bt 8 (.rcons (.vint .i64 (.var 0)) (.rcons (.vint .i64 (.var 1)) (.rcons (.vint .i64 (.var 2)) (.rcons (.vint .i64 (.var 3)) (.rcons (x8 0 4) (.rcons (x8 1 4) (.rcons (x8 2 4) (.rcons (x8 3 4) (.rcons (x8 4 4) (.rcons (x8 5 4) (.rcons (x8 6 4) (.rcons (x8 7 4) (.rcons (x8 8 4) (.rcons (x8 9 4) (.rcons (x8 10 4) (.rcons (x8 11 4) (.rcons (x8 12 4) (.rcons (x8 13 4) (.rcons (x8 14 4) (.rcons (x8 15 4) (.rcons (x8 16 4) (.rcons (x8 17 4) (.rcons (x8 18 4) (.rcons (x8 19 4) (.rcons (x8 20 4) (.rcons (x8 21 4) (.rcons (x8 22 4) (.rcons (x8 23 4) (.rcons (x8 24 4) (.rcons (x8 25 4) (.rcons (x8 26 4) (.rcons (x8 27 4) (.rcons (x8 28 4) (.rcons (x8 29 4) (.rcons (x8 30 4) (.rcons (x8 31 4) (.rcons (.vslice 5 (.lit 0) (.var 6) (.var 7) 32) .rnil))))))))))))))))))))))))))))))))))))),bv 6 40,bv 5 39,bv 4 38,bg 3 37,bv 2 36,bv 1 13,bg 7 10,bg 0 12]
def o_encMan:Out:=(.fresh 10 (.pre 0 (sg 0 [bv 9 9,bv 8 8,bv 7 7,bv 6 6,bg 5 5,bv 3 3,bv 2 2,bv 1 1,bv 0 0,bt 4 (r8 4)]) (.both (.fresh 11 (.post 0 0 (sg 0 [bv 9 9,bv 8 8,bv 7 7,bv 6 6,bg 5 5,bv 3 3,bv 2 2,bv 1 1,bv 0 0,bt 4 (r8 4)]) 11 (.br (.cmp .neq (.var 11) (.lit 0))
 (.need (.cmp .eql (.lit 2) (.var 11)) (.ret 0 (sg 10 [])))
 (.pre 1 (sg 0 [bt 0 (.arith .add .i64 (.lit 39) (.arith .mul .i64 (.lit 32) (.var 2)))]) (.both (.fresh 12 (.fresh 13 (.fresh 14 (.fresh 15 (.post 1 0 (sg 0 [bt 0 (.arith .add .i64 (.lit 39) (.arith .mul .i64 (.lit 32) (.var 2)))]) 12 (.pre 3 o_encMan_3 (.both (.fresh 16 (.fresh 17 (.fresh 18 (.fresh 19 (.fresh 20 (.post 3 0 o_encMan_3 16 (.pre 2 (sg 0 [bv 6 20,bv 5 19,bv 4 18,bg 3 17,bv 2 16,bv 1 13,bt 7 (.conv .u8 (.var 0)),bg 0 12]) (.both (.fresh 21 (.fresh 22 (.fresh 23 (.fresh 24 (.fresh 25 (.post 2 0 (sg 0 [bv 6 20,bv 5 19,bv 4 18,bg 3 17,bv 2 16,bv 1 13,bt 7 (.conv .u8 (.var 0)),bg 0 12]) 21 (.pre 2 (sg 0 [bv 6 25,bv 5 24,bv 4 23,bg 3 22,bv 2 21,bv 1 13,bt 7 (.conv .u8 (.var 1)),bg 0 12]) (.both (.fresh 26 (.fresh 27 (.fresh 28 (.fresh 29 (.fresh 30 (.post 2 0 (sg 0 [bv 6 25,bv 5 24,bv 4 23,bg 3 22,bv 2 21,bv 1 13,bt 7 (.conv .u8 (.var 1)),bg 0 12]) 26 (.pre 2 (sg 0 [bv 6 30,bv 5 29,bv 4 28,bg 3 27,bv 2 26,bv 1 13,bt 7 (.conv .u8 (.var 2)),bg 0 12]) (.both (.fresh 31 (.fresh 32 (.fresh 33 (.fresh 34 (.fresh 35 (.post 2 0 (sg 0 [bv 6 30,bv 5 29,bv 4 28,bg 3 27,bv 2 26,bv 1 13,bt 7 (.conv .u8 (.var 2)),bg 0 12]) 31 (.pre 3 (sg 0 [bv 6 35,bv 5 34,bv 4 33,bg 3 32,bv 2 31,bv 1 13,bt 7 (.conv .u16 (.var 3)),bg 0 12]) (.both (.fresh 36 (.fresh 37 (.fresh 38 (.fresh 39 (.fresh 40 (.post 3 0 (sg 0 [bv 6 35,bv 5 34,bv 4 33,bg 3 32,bv 2 31,bv 1 13,bt 7 (.conv .u16 (.var 3)),bg 0 12]) 36 (.pre 4 o_encMan_1 (.both (.fresh 41 (.fresh 42 (.fresh 43 (.fresh 44 (.fresh 45 (.post 4 0 o_encMan_1 41 (.need (.cmp .leq (.lit 0) (.var 6)) (.inv 0 46 (sg 1000 [bv 1006 45,bv 1005 44,bv 1004 43,bg 1003 42,bv 1002 41,bv 1001 13,bt 1007 (.lit 0),bg 1000 12]) (.fresh 46 (.fresh 47 (.fresh 48 (.fresh 49 (.fresh 50 (.fresh 51 (.fresh 52 (.fresh 53 (.hyp 0 46 (.br (.cmp .lss (.var 53) (.var 6))
 (.need (.cmp .leq (.lit 0) (.var 53)) (.need (.cmp .lss (.var 53) (.dlen (.var 8))) (.fresh 54 (.pre 5 o_encMan_2 (.both (.fresh 55 (.fresh 56 (.fresh 57 (.fresh 58 (.fresh 59 (.post 5 0 o_encMan_2 55 (.back 0 46 (sg 1000 [bv 1006 59,bv 1005 58,bv 1004 57,bg 1003 56,bv 1002 55,bv 1001 47,bt 1007 (.arith .add .i64 (.var 53) (.lit 1)),bg 1000 46])))))))) .top)))))
 (.pre 6 o_encMan_4 (.both (.post 6 0 o_encMan_4 54 (.stuck 7 0 0)) (.both (.fresh 54 (.fresh 55 (.fresh 56 (.fresh 57 (.post 6 1 o_encMan_4 54 (.ret 1 (sg 10 [bv 13 56,bv 12 55,bv 11 50,bg 10 54]))))))) .top))))))))))))))))))))) .top)))))))) .top)))))))) .top)))))))) .top)))))))) .top)))))))) .top))))))) .top))))) .top)))
theorem o_encMan_eq:treeOf ⟨Tryz.prog,encManC,[checkMC,newWriterC,u8C,u16C,rawMC,raw32C,bytesC],[encManI]⟩ 100000 Tryz.f73 = o_encMan:=by kernel_rfl
theorem encMan_of (hd:∀ c ∈ ([checkMC,newWriterC,u8C,u16C,rawMC,raw32C,bytesC]:List Ctr),c.ok Tryz.prog) (h:∀ ρ:Env,ρ.good→(encManC).pre ρ→o_encMan.den ⟨Tryz.prog,encManC,[checkMC,newWriterC,u8C,u16C,rawMC,raw32C,bytesC],[encManI]⟩ ρ):(encManC).ok Tryz.prog :=
 ok_of_tree Tryz.func73 (fun a w=>Tryz.call73 a w) hd 100000 (fun ρ hg hp=>by rw [o_encMan_eq]; exact h ρ hg hp)
@[simp] def o_make_4:Sg:=sg 0 [bv 8 9,bv 7 8,bv 1 1,bv 6 7,bv 5 6,bg 4 5,bv 3 4,bv 2 2,bg 0 0]
@[simp] def o_make_3:Sg:=sg 0 [bv 7 11,bv 5 9,bv 4 8,bv 3 7,bv 2 6,bt 1 (.lit 0),bg 0 5,bg 6 10]
@[simp] def o_make_2:Sg:=sg 0 [bv 8 11,bv 6 35,bv 5 36,bv 4 35,bt 3 (.dlen (.var 36)),bt 2 (.lit 0),bg 1 34,bt 0 (.icell (.var 29) (.var 26) 0),bg 7 10]
@[simp] def o_make_1:Sg:=sg 0 [bv 8 11,bv 6 33,bv 5 34,bv 4 33,bt 3 (.dlen (.var 34)),bt 2 (.lit 0),bg 1 32,bt 0 (.icell (.var 27) (.var 24) 0),bg 7 10]
def o_make:Out:=(.fresh 12 (.br (.and (.cmp .eql (.dlen (.var 1)) (.lit 0)) (.isnil 0))
 (.ret 0 (sg 12 [bv 13 1,bt 12 (.lit 1)]))
 (.pre 0 (sg 0 [bv 2 4,bv 1 3,bv 0 2]) (.both (.fresh 13 (.post 0 0 (sg 0 [bv 2 4,bv 1 3,bv 0 2]) 13 (.br (.not (.var 13))
 (.ret 0 (sg 12 [bv 13 1,bt 12 (.lit 2)]))
 (.pre 1 o_make_4 (.both (.fresh 14 (.fresh 15 (.post 1 0 o_make_4 14 (.br (.cmp .neq (.var 14) (.lit 0))
 (.ret 0 (sg 12 [bv 13 15,bv 12 14]))
 (.need (.cmp .leq (.lit 0) (.var 6)) (.pre 2 o_make_3 (.both (.fresh 16 (.post 2 0 o_make_3 16 (.fresh 17 (.pack [] 18 (.need (.cmp .eql (.var 4) (.lit 0)) (.inv 0 19 (sg 1000 [bg 1011 18,bt 1008 .dnil,bt 1007 .dnil,bt 1006 (.lit 0),(1004,.nil),bt 1003 (r8 16),bv 1010 15,bt 1005 (.lit 0),bg 1002 17,bt 1009 (.lit 0),(1001,.nil),bg 1000 12]) (.fresh 19 (.fresh 20 (.fresh 21 (.fresh 22 (.fresh 23 (.fresh 24 (.fresh 25 (.fresh 26 (.fresh 27 (.fresh 28 (.fresh 29 (.fresh 30 (.hyp 0 19 (.br (.cmp .lss (.var 24) (.var 4))
 (.need (.cmp .leq (.lit 0) (.var 24)) (.need (.cmp .lss (.var 24) (.dlen (.var 27))) (.fresh 31 (.both (.viewL (.vcell (.var 27) (.var 24) 1) [CK.int .u8] [30] 32 (.pre 3 o_make_1 (.both (.fresh 35 (.post 3 0 o_make_1 35 (.both (.fresh 36 (.both (.need (.cmp .eql (.var 24) (.dlen (.var 26))) (.need (.cmp .leq (.tims (.lit 32) (.plus (.var 24) (.lit 1))) (.lit 140737488355328)) (.fresh 37 (.fresh 38 (.both (.both (.pack [.cells 36 24 [(x8 0 35),(x8 1 35),(x8 2 35),(x8 3 35),(x8 4 35),(x8 5 35),(x8 6 35),(x8 7 35),(x8 8 35),(x8 9 35),(x8 10 35),(x8 11 35),(x8 12 35),(x8 13 35),(x8 14 35),(x8 15 35),(x8 16 35),(x8 17 35),(x8 18 35),(x8 19 35),(x8 20 35),(x8 21 35),(x8 22 35),(x8 23 35),(x8 24 35),(x8 25 35),(x8 26 35),(x8 27 35),(x8 28 35),(x8 29 35),(x8 30 35),(x8 31 35)],.cells 31 86 [(.vint .i64 (.icell (.var 27) (.var 24) 0)),(.vcell (.var 27) (.var 24) 1)],.abs 30 2] 39 (.need (.cmp .eql (.arith .add .i64 (.var 24) (.lit 1)) (.plus (.var 24) (.lit 1))) (.back 0 19 (sg 1000 [bg 1011 39,bv 1008 27,bt 1007 (.dapp (.var 26) (r8 35)),bv 1006 38,bg 1004 37,bt 1003 (r8 22),bv 1010 29,bt 1005 (.arith .add .i64 (.var 24) (.lit 1)),bg 1002 21,bv 1009 28,bg 1001 20,bg 1000 19])))) .top) .top))))) .top)) .top))) .top))) .top))))
 (.pack [.cells 19 27 [(.vint .i64 (.var 2)),(.vint .i64 (.var 3)),(.vint .i64 (.var 4)),(.vint .i64 (.var 6)),(x8 0 22),(x8 1 22),(x8 2 22),(x8 3 22),(x8 4 22),(x8 5 22),(x8 6 22),(x8 7 22),(x8 8 22),(x8 9 22),(x8 10 22),(x8 11 22),(x8 12 22),(x8 13 22),(x8 14 22),(x8 15 22),(x8 16 22),(x8 17 22),(x8 18 22),(x8 19 22),(x8 20 22),(x8 21 22),(x8 22 22),(x8 23 22),(x8 24 22),(x8 25 22),(x8 26 22),(x8 27 22),(x8 28 22),(x8 29 22),(x8 30 22),(x8 31 22),(.vslice 23 (.lit 0) (.var 24) (.var 25) 32)],.cells 21 27 [(.vint .i64 (.var 2)),(.vint .i64 (.var 3)),(.vint .i64 (.var 4)),(.vint .i64 (.var 6)),(x8 0 22),(x8 1 22),(x8 2 22),(x8 3 22),(x8 4 22),(x8 5 22),(x8 6 22),(x8 7 22),(x8 8 22),(x8 9 22),(x8 10 22),(x8 11 22),(x8 12 22),(x8 13 22),(x8 14 22),(x8 15 22),(x8 16 22),(x8 17 22),(x8 18 22),(x8 19 22),(x8 20 22),(x8 21 22),(x8 22 22),(x8 23 22),(x8 24 22),(x8 25 22),(x8 26 22),(x8 27 22),(x8 28 22),(x8 29 22),(x8 30 22),(x8 31 22),(.vslice 23 (.lit 0) (.var 24) (.var 25) 32)],.abs 30 2] 31 (.need (.cmp .eql (.var 4) (.var 24)) (.ret 1 (sg 12 [bg 20 31,bv 19 27,bv 18 26,bv 17 29,bv 16 28,bg 15 20,bv 14 25,bg 13 23,bt 12 (r8 22)])))))))))))))))))))))))) .top))))))) (.both (.fresh 14 (.fresh 15 (.fresh 16 (.fresh 17 (.fresh 18 (.post 1 1 o_make_4 14 (.need (.cmp .leq (.lit 0) (.var 6)) (.pre 2 o_make_3 (.both (.fresh 19 (.post 2 0 o_make_3 19 (.fresh 20 (.need (.cmp .leq (.lit 0) (.var 4)) (.inv 0 21 (sg 1000 [bg 1011 18,bv 1008 17,bt 1007 .dnil,bt 1006 (.lit 0),(1004,.nil),bt 1003 (r8 19),bv 1010 16,bt 1005 (.lit 0),bg 1002 20,bv 1009 15,bg 1001 14,bg 1000 12]) (.fresh 21 (.fresh 22 (.fresh 23 (.fresh 24 (.fresh 25 (.fresh 26 (.fresh 27 (.fresh 28 (.fresh 29 (.fresh 30 (.fresh 31 (.fresh 32 (.hyp 0 21 (.br (.cmp .lss (.var 26) (.var 4))
 (.need (.cmp .leq (.lit 0) (.var 26)) (.need (.cmp .lss (.var 26) (.dlen (.var 29))) (.fresh 33 (.both (.viewL (.vcell (.var 29) (.var 26) 1) [CK.int .u8] [32] 34 (.pre 3 o_make_2 (.both (.fresh 37 (.post 3 0 o_make_2 37 (.both (.fresh 38 (.both (.need (.cmp .eql (.var 26) (.dlen (.var 28))) (.need (.cmp .leq (.tims (.lit 32) (.plus (.var 26) (.lit 1))) (.lit 140737488355328)) (.fresh 39 (.fresh 40 (.both (.both (.pack [.cells 38 24 [(x8 0 37),(x8 1 37),(x8 2 37),(x8 3 37),(x8 4 37),(x8 5 37),(x8 6 37),(x8 7 37),(x8 8 37),(x8 9 37),(x8 10 37),(x8 11 37),(x8 12 37),(x8 13 37),(x8 14 37),(x8 15 37),(x8 16 37),(x8 17 37),(x8 18 37),(x8 19 37),(x8 20 37),(x8 21 37),(x8 22 37),(x8 23 37),(x8 24 37),(x8 25 37),(x8 26 37),(x8 27 37),(x8 28 37),(x8 29 37),(x8 30 37),(x8 31 37)],.cells 33 86 [(.vint .i64 (.icell (.var 29) (.var 26) 0)),(.vcell (.var 29) (.var 26) 1)],.abs 32 2] 41 (.need (.cmp .eql (.arith .add .i64 (.var 26) (.lit 1)) (.plus (.var 26) (.lit 1))) (.back 0 21 (sg 1000 [bg 1011 41,bv 1008 29,bt 1007 (.dapp (.var 28) (r8 37)),bv 1006 40,bg 1004 39,bt 1003 (r8 24),bv 1010 31,bt 1005 (.arith .add .i64 (.var 26) (.lit 1)),bg 1002 23,bv 1009 30,bg 1001 22,bg 1000 21])))) .top) .top))))) .top)) .top))) .top))) .top))))
 (.pack [.cells 21 27 [(.vint .i64 (.var 2)),(.vint .i64 (.var 3)),(.vint .i64 (.var 4)),(.vint .i64 (.var 6)),(x8 0 24),(x8 1 24),(x8 2 24),(x8 3 24),(x8 4 24),(x8 5 24),(x8 6 24),(x8 7 24),(x8 8 24),(x8 9 24),(x8 10 24),(x8 11 24),(x8 12 24),(x8 13 24),(x8 14 24),(x8 15 24),(x8 16 24),(x8 17 24),(x8 18 24),(x8 19 24),(x8 20 24),(x8 21 24),(x8 22 24),(x8 23 24),(x8 24 24),(x8 25 24),(x8 26 24),(x8 27 24),(x8 28 24),(x8 29 24),(x8 30 24),(x8 31 24),(.vslice 25 (.lit 0) (.var 26) (.var 27) 32)],.cells 23 27 [(.vint .i64 (.var 2)),(.vint .i64 (.var 3)),(.vint .i64 (.var 4)),(.vint .i64 (.var 6)),(x8 0 24),(x8 1 24),(x8 2 24),(x8 3 24),(x8 4 24),(x8 5 24),(x8 6 24),(x8 7 24),(x8 8 24),(x8 9 24),(x8 10 24),(x8 11 24),(x8 12 24),(x8 13 24),(x8 14 24),(x8 15 24),(x8 16 24),(x8 17 24),(x8 18 24),(x8 19 24),(x8 20 24),(x8 21 24),(x8 22 24),(x8 23 24),(x8 24 24),(x8 25 24),(x8 26 24),(x8 27 24),(x8 28 24),(x8 29 24),(x8 30 24),(x8 31 24),(.vslice 25 (.lit 0) (.var 26) (.var 27) 32)],.abs 32 2] 33 (.need (.cmp .eql (.var 4) (.var 26)) (.ret 1 (sg 12 [bg 20 33,bv 19 29,bv 18 28,bv 17 31,bv 16 30,bg 15 22,bv 14 27,bg 13 25,bt 12 (r8 24)]))))))))))))))))))))))) .top))))))))) .top)))))) .top))))
theorem o_make_eq:treeOf ⟨Tryz.prog,makeC,[sizes3C,encode31C,sha256C,pieceDgC],[makeI]⟩ 100000 Tryz.f43 = o_make:=by kernel_rfl
theorem make_of (hd:∀ c ∈ ([sizes3C,encode31C,sha256C,pieceDgC]:List Ctr),c.ok Tryz.prog) (h:∀ ρ:Env,ρ.good→(makeC).pre ρ→o_make.den ⟨Tryz.prog,makeC,[sizes3C,encode31C,sha256C,pieceDgC],[makeI]⟩ ρ):(makeC).ok Tryz.prog :=
 ok_of_tree Tryz.func43 (fun a w=>Tryz.call43 a w) hd 100000 (fun ρ hg hp=>by rw [o_make_eq]; exact h ρ hg hp)
end Go.Proofs

set_option linter.unusedSimpArgs false
set_option linter.unusedVariables false
set_option maxRecDepth 100000
namespace Go.Proofs
open Go Go.Eng

def o_sizes74:Out:=(.br (.cmp .leq (.lit 1) (.var 0))
 (.br (.cmp .leq (.var 0) (.var 1))
 (.ret 0 (sg 2 [bt 2 (.cmp .leq (.var 1) (.lit 255))]))
 (.ret 0 (sg 2 [bt 2 (.bl false)])))
 (.ret 0 (sg 2 [bt 2 (.bl false)])))
theorem o_sizes74_eq:treeOf ⟨Tryz.prog,sizes74C,[],[]⟩ 100000 Tryz.f109 = o_sizes74:=by kernel_rfl
theorem sizes74_of (hd:∀ c ∈ ([]:List Ctr),c.ok Tryz.prog) (h:∀ ρ:Env,ρ.good→(sizes74C).pre ρ→o_sizes74.den ⟨Tryz.prog,sizes74C,[],[]⟩ ρ):(sizes74C).ok Tryz.prog :=
 ok_of_tree Tryz.func109 (fun a w=>Tryz.call109 a w) hd 100000 (fun ρ hg hp=>by rw [o_sizes74_eq]; exact h ρ hg hp)
def o_piece26:Out:=(.br (.cmp .lss (.var 0) (.lit 1))
 (.ret 0 (sg 2 [bt 3 (.lit 2),bt 2 (.lit 0)]))
 (.br (.cmp .gtr (.var 0) (.lit 255))
 (.ret 0 (sg 2 [bt 3 (.lit 2),bt 2 (.lit 0)]))
 (.br (.cmp .lss (.var 1) (.lit 0))
 (.ret 0 (sg 2 [bt 3 (.lit 2),bt 2 (.lit 0)]))
 (.br (.cmp .gtr (.var 1) (.lit 8192))
 (.ret 0 (sg 2 [bt 3 (.lit 2),bt 2 (.lit 0)]))
 (.need (.cmp .neq (.var 0) (.lit 0)) (.ret 0 (sg 2 [bt 3 (.lit 0),bt 2 (.arith .quo .i64 (.arith .sub .i64 (.arith .add .i64 (.var 1) (.var 0)) (.lit 1)) (.var 0))])))))))
theorem o_piece26_eq:treeOf ⟨Tryz.prog,piece26C,[],[]⟩ 100000 Tryz.f99 = o_piece26:=by kernel_rfl
theorem piece26_of (hd:∀ c ∈ ([]:List Ctr),c.ok Tryz.prog) (h:∀ ρ:Env,ρ.good→(piece26C).pre ρ→o_piece26.den ⟨Tryz.prog,piece26C,[],[]⟩ ρ):(piece26C).ok Tryz.prog :=
 ok_of_tree Tryz.func99 (fun a w=>Tryz.call99 a w) hd 100000 (fun ρ hg hp=>by rw [o_piece26_eq]; exact h ρ hg hp)
def o_zero82:Out:=(.fresh 2 (.need (.cmp .leq (.lit 0) (.arith .mul .i64 (.var 0) (.var 1))) (.need (.cmp .leq (.tims (.lit 1) (.arith .mul .i64 (.var 0) (.var 1))) (.lit 281474976710656)) (.fresh 3 (.ret 0 (sg 2 [bt 5 (.drep (.arith .mul .i64 (.var 0) (.var 1)) (.rcons (.vint .u8 (.lit 0)) .rnil)),bt 4 (.arith .mul .i64 (.var 0) (.var 1)),bt 3 (.arith .mul .i64 (.var 0) (.var 1)),bg 2 3]))))))
theorem o_zero82_eq:treeOf ⟨Tryz.prog,zero82C,[],[]⟩ 100000 Tryz.f165 = o_zero82:=by kernel_rfl
theorem zero82_of (hd:∀ c ∈ ([]:List Ctr),c.ok Tryz.prog) (h:∀ ρ:Env,ρ.good→(zero82C).pre ρ→o_zero82.den ⟨Tryz.prog,zero82C,[],[]⟩ ρ):(zero82C).ok Tryz.prog :=
 ok_of_tree Tryz.func165 (fun a w=>Tryz.call165 a w) hd 100000 (fun ρ hg hp=>by rw [o_zero82_eq]; exact h ρ hg hp)
def o_row75:Out:=(.fresh 8 (.need (.cmp .leq (.lit 0) (.var 3)) (.need (.cmp .leq (.lit 0) (.var 4)) (.need (.cmp .leq (.lit 0) (.arith .mul .i64 (.var 7) (.var 1))) (.need (.cmp .leq (.arith .mul .i64 (.var 7) (.var 1)) (.arith .mul .i64 (.arith .add .i64 (.var 7) (.lit 1)) (.var 1))) (.need (.cmp .leq (.arith .mul .i64 (.arith .add .i64 (.var 7) (.lit 1)) (.var 1)) (.var 4)) (.ret 0 (sg 8 [bt 10 (.minus (.arith .mul .i64 (.arith .add .i64 (.var 7) (.lit 1)) (.var 1)) (.arith .mul .i64 (.var 7) (.var 1))),bt 9 (.minus (.arith .mul .i64 (.arith .add .i64 (.var 7) (.lit 1)) (.var 1)) (.arith .mul .i64 (.var 7) (.var 1))),bt 8 (.ife (.arith .mul .i64 (.arith .add .i64 (.var 7) (.lit 1)) (.var 1)) (.arith .mul .i64 (.var 7) (.var 1)) (.lit 0) (.arith .mul .i64 (.var 7) (.var 1)))]))))))))
theorem o_row75_eq:treeOf ⟨Tryz.prog,row75C,[],[]⟩ 100000 Tryz.f123 = o_row75:=by kernel_rfl
theorem row75_of (hd:∀ c ∈ ([]:List Ctr),c.ok Tryz.prog) (h:∀ ρ:Env,ρ.good→(row75C).pre ρ→o_row75.den ⟨Tryz.prog,row75C,[],[]⟩ ρ):(row75C).ok Tryz.prog :=
 ok_of_tree Tryz.func123 (fun a w=>Tryz.call123 a w) hd 100000 (fun ρ hg hp=>by rw [o_row75_eq]; exact h ρ hg hp)
def o_valid36:Out:=(.fresh 7 (.br (.cmp .geq (.var 0) (.lit 1))
 (.br (.cmp .leq (.var 0) (.lit 255))
 (.br (.cmp .geq (.var 1) (.lit 1))
 (.br (.cmp .leq (.var 1) (.lit 255))
 (.need (.cmp .leq (.lit 0) (.var 3)) (.ret 0 (sg 7 [bt 7 (.cmp .eql (.var 3) (.arith .mul .i64 (.var 0) (.var 1)))])))
 (.ret 0 (sg 7 [bt 7 (.bl false)])))
 (.ret 0 (sg 7 [bt 7 (.bl false)])))
 (.ret 0 (sg 7 [bt 7 (.bl false)])))
 (.ret 0 (sg 7 [bt 7 (.bl false)]))))
theorem o_valid36_eq:treeOf ⟨Tryz.prog,valid36C,[],[]⟩ 100000 Tryz.f164 = o_valid36:=by kernel_rfl
theorem valid36_of (hd:∀ c ∈ ([]:List Ctr),c.ok Tryz.prog) (h:∀ ρ:Env,ρ.good→(valid36C).pre ρ→o_valid36.den ⟨Tryz.prog,valid36C,[],[]⟩ ρ):(valid36C).ok Tryz.prog :=
 ok_of_tree Tryz.func164 (fun a w=>Tryz.call164 a w) hd 100000 (fun ρ hg hp=>by rw [o_valid36_eq]; exact h ρ hg hp)
def o_clone84:Out:=(.fresh 7 (.fresh 8 (.both (.fresh 9 (.both (.need (.cmp .leq (.lit 0) (.var 3)) (.need (.cmp .leq (.var 3) (.dlen (.var 5))) (.need (.cmp .leq (.tims (.lit 1) (.var 3)) (.lit 140737488355328)) (.fresh 10 (.fresh 11 (.both (.both (.ret 0 (sg 7 [bt 9 (.dtake (.var 5) (.var 3)),bv 8 11,bg 7 10])) .top) .top)))))) .top)) .top)))
theorem o_clone84_eq:treeOf ⟨Tryz.prog,clone84C,[],[]⟩ 100000 Tryz.f168 = o_clone84:=by kernel_rfl
theorem clone84_of (hd:∀ c ∈ ([]:List Ctr),c.ok Tryz.prog) (h:∀ ρ:Env,ρ.good→(clone84C).pre ρ→o_clone84.den ⟨Tryz.prog,clone84C,[],[]⟩ ρ):(clone84C).ok Tryz.prog :=
 ok_of_tree Tryz.func168 (fun a w=>Tryz.call168 a w) hd 100000 (fun ρ hg hp=>by rw [o_clone84_eq]; exact h ρ hg hp)
def o_addTo:Out:=(.br (.cmp .eql (.var 14) (.lit 0))
 (.ret 0 (sg 15 [bv 16 6,bv 15 1]))
 (.need (.cmp .leq (.lit 0) (.var 10)) (.inv 0 15 (sg 1000 [bv 1002 6,bv 1001 1,bt 1000 (.lit 0)]) (.fresh 15 (.fresh 16 (.fresh 17 (.hyp 0 15 (.br (.cmp .lss (.var 15) (.var 10))
 (.need (.cmp .leq (.lit 0) (.var 15)) (.need (.cmp .leq (.lit 0) (.var 9)) (.need (.cmp .leq (.lit 0) (.plus (.var 9) (.var 15))) (.need (.cmp .lss (.plus (.var 9) (.var 15)) (.dlen (.var 12))) (.need (.cmp .lss (.var 15) (.var 4)) (.need (.cmp .leq (.lit 0) (.var 3)) (.need (.cmp .leq (.lit 0) (.plus (.var 3) (.var 15))) (.need (.cmp .lss (.plus (.var 3) (.var 15)) (.dlen (.var 17))) (.both (.pre 0 (sg 0 [bv 1 16,bt 3 (.icell (.var 12) (.plus (.var 9) (.var 15)) 0),bv 2 14,bg 0 0]) (.both (.fresh 18 (.fresh 19 (.post 0 0 (sg 0 [bv 1 16,bt 3 (.icell (.var 12) (.plus (.var 9) (.var 15)) 0),bv 2 14,bg 0 0]) 18 (.both (.back 0 15 (sg 1000 [bt 1002 (.dput (.var 17) (.plus (.var 3) (.var 15)) 0 (.rcons (.vint .u8 (.arith .xor .u8 (.icell (.var 17) (.plus (.var 3) (.var 15)) 0) (.var 18))) .rnil)),bv 1001 19,bt 1000 (.arith .add .i64 (.var 15) (.lit 1))])) .top)))) .top)) .top)))))))))
 (.ret 0 (sg 15 [bv 16 17,bv 15 16]))))))))))
theorem o_addTo_eq:treeOf ⟨Tryz.prog,addToC,[mulC],[addToI]⟩ 100000 Tryz.f124 = o_addTo:=by kernel_rfl
theorem addTo_of (hd:∀ c ∈ ([mulC]:List Ctr),c.ok Tryz.prog) (h:∀ ρ:Env,ρ.good→(addToC).pre ρ→o_addTo.den ⟨Tryz.prog,addToC,[mulC],[addToI]⟩ ρ):(addToC).ok Tryz.prog :=
 ok_of_tree Tryz.func124 (fun a w=>Tryz.call124 a w) hd 100000 (fun ρ hg hp=>by rw [o_addTo_eq]; exact h ρ hg hp)
def o_addToSame:Out:=(.br (.cmp .eql (.var 11) (.lit 0))
 (.ret 0 (sg 12 [bv 13 6,bv 12 1]))
 (.need (.cmp .leq (.lit 0) (.var 9)) (.inv 0 12 (sg 1000 [bv 1002 6,bv 1001 1,bt 1000 (.lit 0)]) (.fresh 12 (.fresh 13 (.fresh 14 (.hyp 0 12 (.br (.cmp .lss (.var 12) (.var 9))
 (.need (.cmp .leq (.lit 0) (.var 12)) (.need (.cmp .leq (.lit 0) (.var 8)) (.need (.cmp .leq (.lit 0) (.plus (.var 8) (.var 12))) (.need (.cmp .lss (.plus (.var 8) (.var 12)) (.dlen (.var 14))) (.need (.cmp .lss (.var 12) (.var 4)) (.need (.cmp .leq (.lit 0) (.var 3)) (.need (.cmp .leq (.lit 0) (.plus (.var 3) (.var 12))) (.need (.cmp .lss (.plus (.var 3) (.var 12)) (.dlen (.var 14))) (.both (.pre 0 (sg 0 [bv 1 13,bt 3 (.icell (.var 14) (.plus (.var 8) (.var 12)) 0),bv 2 11,bg 0 0]) (.both (.fresh 15 (.fresh 16 (.post 0 0 (sg 0 [bv 1 13,bt 3 (.icell (.var 14) (.plus (.var 8) (.var 12)) 0),bv 2 11,bg 0 0]) 15 (.both (.back 0 12 (sg 1000 [bt 1002 (.dput (.var 14) (.plus (.var 3) (.var 12)) 0 (.rcons (.vint .u8 (.arith .xor .u8 (.icell (.var 14) (.plus (.var 3) (.var 12)) 0) (.var 15))) .rnil)),bv 1001 16,bt 1000 (.arith .add .i64 (.var 12) (.lit 1))])) .top)))) .top)) .top)))))))))
 (.ret 0 (sg 12 [bv 13 14,bv 12 13]))))))))))
theorem o_addToSame_eq:treeOf ⟨Tryz.prog,addToS,[mulC],[addToSI]⟩ 100000 Tryz.f124 = o_addToSame:=by kernel_rfl
theorem addToSame_of (hd:∀ c ∈ ([mulC]:List Ctr),c.ok Tryz.prog) (h:∀ ρ:Env,ρ.good→(addToS).pre ρ→o_addToSame.den ⟨Tryz.prog,addToS,[mulC],[addToSI]⟩ ρ):(addToS).ok Tryz.prog :=
 ok_of_tree Tryz.func124 (fun a w=>Tryz.call124 a w) hd 100000 (fun ρ hg hp=>by rw [o_addToSame_eq]; exact h ρ hg hp)
def o_scale:Out:=(.need (.cmp .leq (.lit 0) (.var 4)) (.inv 0 9 (sg 1000 [bv 1002 6,bv 1001 1,bt 1000 (.lit 0)]) (.fresh 9 (.fresh 10 (.fresh 11 (.hyp 0 9 (.br (.cmp .lss (.var 9) (.var 4))
 (.need (.cmp .leq (.lit 0) (.var 9)) (.need (.cmp .leq (.lit 0) (.var 3)) (.need (.cmp .leq (.lit 0) (.plus (.var 3) (.var 9))) (.need (.cmp .lss (.plus (.var 3) (.var 9)) (.dlen (.var 11))) (.pre 0 (sg 0 [bv 1 10,bv 3 8,bt 2 (.icell (.var 11) (.plus (.var 3) (.var 9)) 0),bg 0 0]) (.both (.fresh 12 (.fresh 13 (.post 0 0 (sg 0 [bv 1 10,bv 3 8,bt 2 (.icell (.var 11) (.plus (.var 3) (.var 9)) 0),bg 0 0]) 12 (.back 0 9 (sg 1000 [bt 1002 (.dput (.var 11) (.plus (.var 3) (.var 9)) 0 (.rcons (.vint .u8 (.var 12)) .rnil)),bv 1001 13,bt 1000 (.arith .add .i64 (.var 9) (.lit 1))]))))) .top))))))
 (.ret 0 (sg 9 [bv 10 11,bv 9 10])))))))))
theorem o_scale_eq:treeOf ⟨Tryz.prog,scaleC,[mulC],[scaleI]⟩ 100000 Tryz.f185 = o_scale:=by kernel_rfl
theorem scale_of (hd:∀ c ∈ ([mulC]:List Ctr),c.ok Tryz.prog) (h:∀ ρ:Env,ρ.good→(scaleC).pre ρ→o_scale.den ⟨Tryz.prog,scaleC,[mulC],[scaleI]⟩ ρ):(scaleC).ok Tryz.prog :=
 ok_of_tree Tryz.func185 (fun a w=>Tryz.call185 a w) hd 100000 (fun ρ hg hp=>by rw [o_scale_eq]; exact h ρ hg hp)
def o_inv51:Out:=(.br (.and (.cmp .eql (.dlen (.var 1)) (.lit 0)) (.isnil 0))
 (.ret 0 (sg 3 [bv 5 1,bt 4 (.lit 1),bt 3 (.lit 0)]))
 (.br (.cmp .eql (.var 2) (.lit 0))
 (.ret 0 (sg 3 [bv 5 1,bt 4 (.lit 2),bt 3 (.lit 0)]))
 (.need (.cmp .lss (.lit 0) (.dlen (.var 1))) (.pre 0 (sg 0 [bv 1 1,bg 0 0]) (.both (.fresh 3 (.post 0 0 (sg 0 [bv 1 1,bg 0 0]) 3 (.need (.cmp .lss (.lit 0) (.dlen (.var 3))) (.need (.cmp .leq (.lit 0) (.var 2)) (.need (.cmp .lss (.var 2) (.lit 256)) (.need (.cmp .leq (.lit 0) (.arith .sub .i64 (.lit 255) (.c2 (.xint 513) (.var 3) (.var 2)))) (.need (.cmp .lss (.arith .sub .i64 (.lit 255) (.c2 (.xint 513) (.var 3) (.var 2))) (.lit 510)) (.ret 0 (sg 3 [bv 5 3,bt 4 (.lit 0),bt 3 (.c2 (.xint 3) (.var 3) (.arith .sub .i64 (.lit 255) (.c2 (.xint 513) (.var 3) (.var 2))))]))))))))) .top)))))
theorem o_inv51_eq:treeOf ⟨Tryz.prog,inv51C,[onceC],[]⟩ 100000 Tryz.f184 = o_inv51:=by kernel_rfl
theorem inv51_of (hd:∀ c ∈ ([onceC]:List Ctr),c.ok Tryz.prog) (h:∀ ρ:Env,ρ.good→(inv51C).pre ρ→o_inv51.den ⟨Tryz.prog,inv51C,[onceC],[]⟩ ρ):(inv51C).ok Tryz.prog :=
 ok_of_tree Tryz.func184 (fun a w=>Tryz.call184 a w) hd 100000 (fun ρ hg hp=>by rw [o_inv51_eq]; exact h ρ hg hp)
@[simp] def o_pow37_1:T:=.arith .rem .i64 (.arith .mul .i64 (.c2 (.xint 513) (.var 4) (.var 2)) (.arith .rem .i64 (.var 3) (.lit 255))) (.lit 255)
def o_pow37:Out:=(.br (.and (.cmp .eql (.dlen (.var 1)) (.lit 0)) (.isnil 0))
 (.ret 0 (sg 4 [bv 5 1,bt 4 (.lit 0)]))
 (.br (.cmp .leq (.var 3) (.lit 0))
 (.ret 0 (sg 4 [bv 5 1,bt 4 (.lit 1)]))
 (.br (.cmp .eql (.var 2) (.lit 0))
 (.ret 0 (sg 4 [bv 5 1,bt 4 (.lit 0)]))
 (.need (.cmp .lss (.lit 0) (.dlen (.var 1))) (.pre 0 (sg 0 [bv 1 1,bg 0 0]) (.both (.fresh 4 (.post 0 0 (sg 0 [bv 1 1,bg 0 0]) 4 (.need (.cmp .lss (.lit 0) (.dlen (.var 4))) (.need (.cmp .leq (.lit 0) (.var 2)) (.need (.cmp .lss (.var 2) (.lit 256)) (.need (.cmp .leq (.lit 0) o_pow37_1) (.need (.cmp .lss o_pow37_1 (.lit 510)) (.ret 0 (sg 4 [bv 5 4,bt 4 (.c2 (.xint 3) (.var 4) o_pow37_1)]))))))))) .top))))))
theorem o_pow37_eq:treeOf ⟨Tryz.prog,pow37C,[onceC],[]⟩ 100000 Tryz.f177 = o_pow37:=by kernel_rfl
theorem pow37_of (hd:∀ c ∈ ([onceC]:List Ctr),c.ok Tryz.prog) (h:∀ ρ:Env,ρ.good→(pow37C).pre ρ→o_pow37.den ⟨Tryz.prog,pow37C,[onceC],[]⟩ ρ):(pow37C).ok Tryz.prog :=
 ok_of_tree Tryz.func177 (fun a w=>Tryz.call177 a w) hd 100000 (fun ρ hg hp=>by rw [o_pow37_eq]; exact h ρ hg hp)
end Go.Proofs

set_option linter.unusedSimpArgs false
set_option linter.unusedVariables false
set_option maxRecDepth 100000
namespace Go.Proofs
open Go Go.Eng

def o_newField:Out:=(.fresh 0 (.ret 0 (sg 0 [bt 1 (.rcons (.vint .u32 (.lit 0)) (.rcons (.vint .i32 (.lit 0)) (.rcons (.vint .u32 (.lit 0)) (.rcons (.vint .u8 (.lit 0)) (.rcons (.vint .u8 (.lit 0)) (.rcons (.vint .u8 (.lit 0)) (.rcons (.vint .u8 (.lit 0)) (.rcons (.vint .u8 (.lit 0)) (.rcons (.vint .u8 (.lit 0)) (.rcons (.vint .u8 (.lit 0)) (.rcons (.vint .u8 (.lit 0)) (.rcons (.vint .u8 (.lit 0)) (.rcons (.vint .u8 (.lit 0)) (.rcons (.vint .u8 (.lit 0)) (.rcons (.vint .u8 (.lit 0)) (.rcons (.vint .u8 (.lit 0)) (.rcons (.vint .u8 (.lit 0)) (.rcons (.vint .u8 (.lit 0)) (.rcons (.vint .u8 (.lit 0)) (.rcons (.vint .u8 (.lit 0)) (.rcons (.vint .u8 (.lit 0)) (.rcons (.vint .u8 (.lit 0)) (.rcons (.vint .u8 (.lit 0)) (.rcons (.vint .u8 (.lit 0)) (.rcons (.vint .u8 (.lit 0)) (.rcons (.vint .u8 (.lit 0)) (.rcons (.vint .u8 (.lit 0)) (.rcons (.vint .u8 (.lit 0)) (.rcons (.vint .u8 (.lit 0)) (.rcons (.vint .u8 (.lit 0)) (.rcons (.vint .u8 (.lit 0)) (.rcons (.vint .u8 (.lit 0)) (.rcons (.vint .u8 (.lit 0)) (.rcons (.vint .u8 (.lit 0)) (.rcons (.vint .u8 (.lit 0)) (.rcons (.vint .u8 (.lit 0)) (.rcons (.vint .u8 (.lit 0)) (.rcons (.vint .u8 (.lit 0)) (.rcons (.vint .u8 (.lit 0)) (.rcons (.vint .u8 (.lit 0)) (.rcons (.vint .u8 (.lit 0)) (.rcons (.vint .u8 (.lit 0)) (.rcons (.vint .u8 (.lit 0)) (.rcons (.vint .u8 (.lit 0)) (.rcons (.vint .u8 (.lit 0)) (.rcons (.vint .u8 (.lit 0)) (.rcons (.vint .u8 (.lit 0)) (.rcons (.vint .u8 (.lit 0)) (.rcons (.vint .u8 (.lit 0)) (.rcons (.vint .u8 (.lit 0)) (.rcons (.vint .u8 (.lit 0)) (.rcons (.vint .u8 (.lit 0)) (.rcons (.vint .u8 (.lit 0)) (.rcons (.vint .u8 (.lit 0)) (.rcons (.vint .u8 (.lit 0)) (.rcons (.vint .u8 (.lit 0)) (.rcons (.vint .u8 (.lit 0)) (.rcons (.vint .u8 (.lit 0)) (.rcons (.vint .u8 (.lit 0)) (.rcons (.vint .u8 (.lit 0)) (.rcons (.vint .u8 (.lit 0)) (.rcons (.vint .u8 (.lit 0)) (.rcons (.vint .u8 (.lit 0)) (.rcons (.vint .u8 (.lit 0)) (.rcons (.vint .u8 (.lit 0)) (.rcons (.vint .u8 (.lit 0)) (.rcons (.vint .u8 (.lit 0)) (.rcons (.vint .u8 (.lit 0)) (.rcons (.vint .u8 (.lit 0)) (.rcons (.vint .u8 (.lit 0)) (.rcons (.vint .u8 (.lit 0)) (.rcons (.vint .u8 (.lit 0)) (.rcons (.vint .u8 (.lit 0)) (.rcons (.vint .u8 (.lit 0)) (.rcons (.vint .u8 (.lit 0)) (.rcons (.vint .u8 (.lit 0)) (.rcons (.vint .u8 (.lit 0)) (.rcons (.vint .u8 (.lit 0)) (.rcons (.vint .u8 (.lit 0)) (.rcons (.vint .u8 (.lit 0)) (.rcons (.vint .u8 (.lit 0)) (.rcons (.vint .u8 (.lit 0)) (.rcons (.vint .u8 (.lit 0)) (.rcons (.vint .u8 (.lit 0)) (.rcons (.vint .u8 (.lit 0)) (.rcons (.vint .u8 (.lit 0)) (.rcons (.vint .u8 (.lit 0)) (.rcons (.vint .u8 (.lit 0)) (.rcons (.vint .u8 (.lit 0)) (.rcons (.vint .u8 (.lit 0)) (.rcons (.vint .u8 (.lit 0)) (.rcons (.vint .u8 (.lit 0)) (.rcons (.vint .u8 (.lit 0)) (.rcons (.vint .u8 (.lit 0)) (.rcons (.vint .u8 (.lit 0)) (.rcons (.vint .u8 (.lit 0)) (.rcons (.vint .u8 (.lit 0)) (.rcons (.vint .u8 (.lit 0)) (.rcons (.vint .u8 (.lit 0)) (.rcons (.vint .u8 (.lit 0)) (.rcons (.vint .u8 (.lit 0)) (.rcons (.vint .u8 (.lit 0)) (.rcons (.vint .u8 (.lit 0)) (.rcons (.vint .u8 (.lit 0)) (.rcons (.vint .u8 (.lit 0)) (.rcons (.vint .u8 (.lit 0)) (.rcons (.vint .u8 (.lit 0)) (.rcons (.vint .u8 (.lit 0)) (.rcons (.vint .u8 (.lit 0)) (.rcons (.vint .u8 (.lit 0)) (.rcons (.vint .u8 (.lit 0)) (.rcons (.vint .u8 (.lit 0)) (.rcons (.vint .u8 (.lit 0)) (.rcons (.vint .u8 (.lit 0)) (.rcons (.vint .u8 (.lit 0)) (.rcons (.vint .u8 (.lit 0)) (.rcons (.vint .u8 (.lit 0)) (.rcons (.vint .u8 (.lit 0)) (.rcons (.vint .u8 (.lit 0)) (.rcons (.vint .u8 (.lit 0)) (.rcons (.vint .u8 (.lit 0)) (.rcons (.vint .u8 (.lit 0)) (.rcons (.vint .u8 (.lit 0)) (.rcons (.vint .u8 (.lit 0)) (.rcons (.vint .u8 (.lit 0)) (.rcons (.vint .u8 (.lit 0)) (.rcons (.vint .u8 (.lit 0)) (.rcons (.vint .u8 (.lit 0)) (.rcons (.vint .u8 (.lit 0)) (.rcons (.vint .u8 (.lit 0)) (.rcons (.vint .u8 (.lit 0)) (.rcons (.vint .u8 (.lit 0)) (.rcons (.vint .u8 (.lit 0)) (.rcons (.vint .u8 (.lit 0)) (.rcons (.vint .u8 (.lit 0)) (.rcons (.vint .u8 (.lit 0)) (.rcons (.vint .u8 (.lit 0)) (.rcons (.vint .u8 (.lit 0)) (.rcons (.vint .u8 (.lit 0)) (.rcons (.vint .u8 (.lit 0)) (.rcons (.vint .u8 (.lit 0)) (.rcons (.vint .u8 (.lit 0)) (.rcons (.vint .u8 (.lit 0)) (.rcons (.vint .u8 (.lit 0)) (.rcons (.vint .u8 (.lit 0)) (.rcons (.vint .u8 (.lit 0)) (.rcons (.vint .u8 (.lit 0)) (.rcons (.vint .u8 (.lit 0)) (.rcons (.vint .u8 (.lit 0)) (.rcons (.vint .u8 (.lit 0)) (.rcons (.vint .u8 (.lit 0)) (.rcons (.vint .u8 (.lit 0)) (.rcons (.vint .u8 (.lit 0)) (.rcons (.vint .u8 (.lit 0)) (.rcons (.vint .u8 (.lit 0)) (.rcons (.vint .u8 (.lit 0)) (.rcons (.vint .u8 (.lit 0)) (.rcons (.vint .u8 (.lit 0)) (.rcons (.vint .u8 (.lit 0)) (.rcons (.vint .u8 (.lit 0)) (.rcons (.vint .u8 (.lit 0)) (.rcons (.vint .u8 (.lit 0)) (.rcons (.vint .u8 (.lit 0)) (.rcons (.vint .u8 (.lit 0)) (.rcons (.vint .u8 (.lit 0)) (.rcons (.vint .u8 (.lit 0)) (.rcons (.vint .u8 (.lit 0)) (.rcons (.vint .u8 (.lit 0)) (.rcons (.vint .u8 (.lit 0)) (.rcons (.vint .u8 (.lit 0)) (.rcons (.vint .u8 (.lit 0)) (.rcons (.vint .u8 (.lit 0)) (.rcons (.vint .u8 (.lit 0)) (.rcons (.vint .u8 (.lit 0)) (.rcons (.vint .u8 (.lit 0)) (.rcons (.vint .u8 (.lit 0)) (.rcons (.vint .u8 (.lit 0)) (.rcons (.vint .u8 (.lit 0)) (.rcons (.vint .u8 (.lit 0)) (.rcons (.vint .u8 (.lit 0)) (.rcons (.vint .u8 (.lit 0)) (.rcons (.vint .u8 (.lit 0)) (.rcons (.vint .u8 (.lit 0)) (.rcons (.vint .u8 (.lit 0)) (.rcons (.vint .u8 (.lit 0)) (.rcons (.vint .u8 (.lit 0)) (.rcons (.vint .u8 (.lit 0)) (.rcons (.vint .u8 (.lit 0)) (.rcons (.vint .u8 (.lit 0)) (.rcons (.vint .u8 (.lit 0)) (.rcons (.vint .u8 (.lit 0)) (.rcons (.vint .u8 (.lit 0)) (.rcons (.vint .u8 (.lit 0)) (.rcons (.vint .u8 (.lit 0)) (.rcons (.vint .u8 (.lit 0)) (.rcons (.vint .u8 (.lit 0)) (.rcons (.vint .u8 (.lit 0)) (.rcons (.vint .u8 (.lit 0)) (.rcons (.vint .u8 (.lit 0)) (.rcons (.vint .u8 (.lit 0)) (.rcons (.vint .u8 (.lit 0)) (.rcons (.vint .u8 (.lit 0)) (.rcons (.vint .u8 (.lit 0)) (.rcons (.vint .u8 (.lit 0)) (.rcons (.vint .u8 (.lit 0)) (.rcons (.vint .u8 (.lit 0)) (.rcons (.vint .u8 (.lit 0)) (.rcons (.vint .u8 (.lit 0)) (.rcons (.vint .u8 (.lit 0)) (.rcons (.vint .u8 (.lit 0)) (.rcons (.vint .u8 (.lit 0)) (.rcons (.vint .u8 (.lit 0)) (.rcons (.vint .u8 (.lit 0)) (.rcons (.vint .u8 (.lit 0)) (.rcons (.vint .u8 (.lit 0)) (.rcons (.vint .u8 (.lit 0)) (.rcons (.vint .u8 (.lit 0)) (.rcons (.vint .u8 (.lit 0)) (.rcons (.vint .u8 (.lit 0)) (.rcons (.vint .u8 (.lit 0)) (.rcons (.vint .u8 (.lit 0)) (.rcons (.vint .u8 (.lit 0)) (.rcons (.vint .u8 (.lit 0)) (.rcons (.vint .u8 (.lit 0)) (.rcons (.vint .u8 (.lit 0)) (.rcons (.vint .u8 (.lit 0)) (.rcons (.vint .u8 (.lit 0)) (.rcons (.vint .u8 (.lit 0)) (.rcons (.vint .u8 (.lit 0)) (.rcons (.vint .u8 (.lit 0)) (.rcons (.vint .u8 (.lit 0)) (.rcons (.vint .u8 (.lit 0)) (.rcons (.vint .u8 (.lit 0)) (.rcons (.vint .u8 (.lit 0)) (.rcons (.vint .u8 (.lit 0)) (.rcons (.vint .u8 (.lit 0)) (.rcons (.vint .u8 (.lit 0)) (.rcons (.vint .u8 (.lit 0)) (.rcons (.vint .u8 (.lit 0)) (.rcons (.vint .u8 (.lit 0)) (.rcons (.vint .u8 (.lit 0)) (.rcons (.vint .u8 (.lit 0)) (.rcons (.vint .u8 (.lit 0)) (.rcons (.vint .u8 (.lit 0)) (.rcons (.vint .u8 (.lit 0)) (.rcons (.vint .u8 (.lit 0)) (.rcons (.vint .u8 (.lit 0)) (.rcons (.vint .u8 (.lit 0)) (.rcons (.vint .u8 (.lit 0)) (.rcons (.vint .u8 (.lit 0)) (.rcons (.vint .u8 (.lit 0)) (.rcons (.vint .u8 (.lit 0)) (.rcons (.vint .u8 (.lit 0)) (.rcons (.vint .u8 (.lit 0)) (.rcons (.vint .u8 (.lit 0)) (.rcons (.vint .u8 (.lit 0)) (.rcons (.vint .u8 (.lit 0)) (.rcons (.vint .u8 (.lit 0)) (.rcons (.vint .u8 (.lit 0)) (.rcons (.vint .u8 (.lit 0)) (.rcons (.vint .u8 (.lit 0)) (.rcons (.vint .u8 (.lit 0)) (.rcons (.vint .u8 (.lit 0)) (.rcons (.vint .u8 (.lit 0)) (.rcons (.vint .u8 (.lit 0)) (.rcons (.vint .u8 (.lit 0)) (.rcons (.vint .u8 (.lit 0)) (.rcons (.vint .u8 (.lit 0)) (.rcons (.vint .u8 (.lit 0)) (.rcons (.vint .u8 (.lit 0)) (.rcons (.vint .u8 (.lit 0)) (.rcons (.vint .u8 (.lit 0)) (.rcons (.vint .u8 (.lit 0)) (.rcons (.vint .u8 (.lit 0)) (.rcons (.vint .u8 (.lit 0)) (.rcons (.vint .u8 (.lit 0)) (.rcons (.vint .u8 (.lit 0)) (.rcons (.vint .u8 (.lit 0)) (.rcons (.vint .u8 (.lit 0)) (.rcons (.vint .u8 (.lit 0)) (.rcons (.vint .u8 (.lit 0)) (.rcons (.vint .u8 (.lit 0)) (.rcons (.vint .u8 (.lit 0)) (.rcons (.vint .u8 (.lit 0)) (.rcons (.vint .u8 (.lit 0)) (.rcons (.vint .u8 (.lit 0)) (.rcons (.vint .u8 (.lit 0)) (.rcons (.vint .u8 (.lit 0)) (.rcons (.vint .u8 (.lit 0)) (.rcons (.vint .u8 (.lit 0)) (.rcons (.vint .u8 (.lit 0)) (.rcons (.vint .u8 (.lit 0)) (.rcons (.vint .u8 (.lit 0)) (.rcons (.vint .u8 (.lit 0)) (.rcons (.vint .u8 (.lit 0)) (.rcons (.vint .u8 (.lit 0)) (.rcons (.vint .u8 (.lit 0)) (.rcons (.vint .u8 (.lit 0)) (.rcons (.vint .u8 (.lit 0)) (.rcons (.vint .u8 (.lit 0)) (.rcons (.vint .u8 (.lit 0)) (.rcons (.vint .u8 (.lit 0)) (.rcons (.vint .u8 (.lit 0)) (.rcons (.vint .u8 (.lit 0)) (.rcons (.vint .u8 (.lit 0)) (.rcons (.vint .u8 (.lit 0)) (.rcons (.vint .u8 (.lit 0)) (.rcons (.vint .u8 (.lit 0)) (.rcons (.vint .u8 (.lit 0)) (.rcons (.vint .u8 (.lit 0)) (.rcons (.vint .u8 (.lit 0)) (.rcons (.vint .u8 (.lit 0)) (.rcons (.vint .u8 (.lit 0)) (.rcons (.vint .u8 (.lit 0)) (.rcons (.vint .u8 (.lit 0)) (.rcons (.vint .u8 (.lit 0)) (.rcons (.vint .u8 (.lit 0)) (.rcons (.vint .u8 (.lit 0)) (.rcons (.vint .u8 (.lit 0)) (.rcons (.vint .u8 (.lit 0)) (.rcons (.vint .u8 (.lit 0)) (.rcons (.vint .u8 (.lit 0)) (.rcons (.vint .u8 (.lit 0)) (.rcons (.vint .u8 (.lit 0)) (.rcons (.vint .u8 (.lit 0)) (.rcons (.vint .u8 (.lit 0)) (.rcons (.vint .u8 (.lit 0)) (.rcons (.vint .u8 (.lit 0)) (.rcons (.vint .u8 (.lit 0)) (.rcons (.vint .u8 (.lit 0)) (.rcons (.vint .u8 (.lit 0)) (.rcons (.vint .u8 (.lit 0)) (.rcons (.vint .u8 (.lit 0)) (.rcons (.vint .u8 (.lit 0)) (.rcons (.vint .u8 (.lit 0)) (.rcons (.vint .u8 (.lit 0)) (.rcons (.vint .u8 (.lit 0)) (.rcons (.vint .u8 (.lit 0)) (.rcons (.vint .u8 (.lit 0)) (.rcons (.vint .u8 (.lit 0)) (.rcons (.vint .u8 (.lit 0)) (.rcons (.vint .u8 (.lit 0)) (.rcons (.vint .u8 (.lit 0)) (.rcons (.vint .u8 (.lit 0)) (.rcons (.vint .u8 (.lit 0)) (.rcons (.vint .u8 (.lit 0)) (.rcons (.vint .u8 (.lit 0)) (.rcons (.vint .u8 (.lit 0)) (.rcons (.vint .u8 (.lit 0)) (.rcons (.vint .u8 (.lit 0)) (.rcons (.vint .u8 (.lit 0)) (.rcons (.vint .u8 (.lit 0)) (.rcons (.vint .u8 (.lit 0)) (.rcons (.vint .u8 (.lit 0)) (.rcons (.vint .u8 (.lit 0)) (.rcons (.vint .u8 (.lit 0)) (.rcons (.vint .u8 (.lit 0)) (.rcons (.vint .u8 (.lit 0)) (.rcons (.vint .u8 (.lit 0)) (.rcons (.vint .u8 (.lit 0)) (.rcons (.vint .u8 (.lit 0)) (.rcons (.vint .u8 (.lit 0)) (.rcons (.vint .u8 (.lit 0)) (.rcons (.vint .u8 (.lit 0)) (.rcons (.vint .u8 (.lit 0)) (.rcons (.vint .u8 (.lit 0)) (.rcons (.vint .u8 (.lit 0)) (.rcons (.vint .u8 (.lit 0)) (.rcons (.vint .u8 (.lit 0)) (.rcons (.vint .u8 (.lit 0)) (.rcons (.vint .u8 (.lit 0)) (.rcons (.vint .u8 (.lit 0)) (.rcons (.vint .u8 (.lit 0)) (.rcons (.vint .u8 (.lit 0)) (.rcons (.vint .u8 (.lit 0)) (.rcons (.vint .u8 (.lit 0)) (.rcons (.vint .u8 (.lit 0)) (.rcons (.vint .u8 (.lit 0)) (.rcons (.vint .u8 (.lit 0)) (.rcons (.vint .u8 (.lit 0)) (.rcons (.vint .u8 (.lit 0)) (.rcons (.vint .u8 (.lit 0)) (.rcons (.vint .u8 (.lit 0)) (.rcons (.vint .u8 (.lit 0)) (.rcons (.vint .u8 (.lit 0)) (.rcons (.vint .u8 (.lit 0)) (.rcons (.vint .u8 (.lit 0)) (.rcons (.vint .u8 (.lit 0)) (.rcons (.vint .u8 (.lit 0)) (.rcons (.vint .u8 (.lit 0)) (.rcons (.vint .u8 (.lit 0)) (.rcons (.vint .u8 (.lit 0)) (.rcons (.vint .u8 (.lit 0)) (.rcons (.vint .u8 (.lit 0)) (.rcons (.vint .u8 (.lit 0)) (.rcons (.vint .u8 (.lit 0)) (.rcons (.vint .u8 (.lit 0)) (.rcons (.vint .u8 (.lit 0)) (.rcons (.vint .u8 (.lit 0)) (.rcons (.vint .u8 (.lit 0)) (.rcons (.vint .u8 (.lit 0)) (.rcons (.vint .u8 (.lit 0)) (.rcons (.vint .u8 (.lit 0)) (.rcons (.vint .u8 (.lit 0)) (.rcons (.vint .u8 (.lit 0)) (.rcons (.vint .u8 (.lit 0)) (.rcons (.vint .u8 (.lit 0)) (.rcons (.vint .u8 (.lit 0)) (.rcons (.vint .u8 (.lit 0)) (.rcons (.vint .u8 (.lit 0)) (.rcons (.vint .u8 (.lit 0)) (.rcons (.vint .u8 (.lit 0)) (.rcons (.vint .u8 (.lit 0)) (.rcons (.vint .u8 (.lit 0)) (.rcons (.vint .u8 (.lit 0)) (.rcons (.vint .u8 (.lit 0)) (.rcons (.vint .u8 (.lit 0)) (.rcons (.vint .u8 (.lit 0)) (.rcons (.vint .u8 (.lit 0)) (.rcons (.vint .u8 (.lit 0)) (.rcons (.vint .u8 (.lit 0)) (.rcons (.vint .u8 (.lit 0)) (.rcons (.vint .u8 (.lit 0)) (.rcons (.vint .u8 (.lit 0)) (.rcons (.vint .u8 (.lit 0)) (.rcons (.vint .u8 (.lit 0)) (.rcons (.vint .u8 (.lit 0)) (.rcons (.vint .u8 (.lit 0)) (.rcons (.vint .u8 (.lit 0)) (.rcons (.vint .u8 (.lit 0)) (.rcons (.vint .u8 (.lit 0)) (.rcons (.vint .u8 (.lit 0)) (.rcons (.vint .u8 (.lit 0)) (.rcons (.vint .u8 (.lit 0)) (.rcons (.vint .u8 (.lit 0)) (.rcons (.vint .u8 (.lit 0)) (.rcons (.vint .u8 (.lit 0)) (.rcons (.vint .u8 (.lit 0)) (.rcons (.vint .u8 (.lit 0)) (.rcons (.vint .u8 (.lit 0)) (.rcons (.vint .u8 (.lit 0)) (.rcons (.vint .u8 (.lit 0)) (.rcons (.vint .u8 (.lit 0)) (.rcons (.vint .u8 (.lit 0)) (.rcons (.vint .u8 (.lit 0)) (.rcons (.vint .u8 (.lit 0)) (.rcons (.vint .u8 (.lit 0)) (.rcons (.vint .u8 (.lit 0)) (.rcons (.vint .u8 (.lit 0)) (.rcons (.vint .u8 (.lit 0)) (.rcons (.vint .u8 (.lit 0)) (.rcons (.vint .u8 (.lit 0)) (.rcons (.vint .u8 (.lit 0)) (.rcons (.vint .u8 (.lit 0)) (.rcons (.vint .u8 (.lit 0)) (.rcons (.vint .u8 (.lit 0)) (.rcons (.vint .u8 (.lit 0)) (.rcons (.vint .u8 (.lit 0)) (.rcons (.vint .u8 (.lit 0)) (.rcons (.vint .u8 (.lit 0)) (.rcons (.vint .u8 (.lit 0)) (.rcons (.vint .u8 (.lit 0)) (.rcons (.vint .u8 (.lit 0)) (.rcons (.vint .u8 (.lit 0)) (.rcons (.vint .u8 (.lit 0)) (.rcons (.vint .u8 (.lit 0)) (.rcons (.vint .u8 (.lit 0)) (.rcons (.vint .u8 (.lit 0)) (.rcons (.vint .u8 (.lit 0)) (.rcons (.vint .u8 (.lit 0)) (.rcons (.vint .u8 (.lit 0)) (.rcons (.vint .u8 (.lit 0)) (.rcons (.vint .u8 (.lit 0)) (.rcons (.vint .u8 (.lit 0)) (.rcons (.vint .u8 (.lit 0)) (.rcons (.vint .u8 (.lit 0)) (.rcons (.vint .u8 (.lit 0)) (.rcons (.vint .u8 (.lit 0)) (.rcons (.vint .u8 (.lit 0)) (.rcons (.vint .u8 (.lit 0)) (.rcons (.vint .u8 (.lit 0)) (.rcons (.vint .u8 (.lit 0)) (.rcons (.vint .u8 (.lit 0)) (.rcons (.vint .u8 (.lit 0)) (.rcons (.vint .u8 (.lit 0)) (.rcons (.vint .u8 (.lit 0)) (.rcons (.vint .u8 (.lit 0)) (.rcons (.vint .u8 (.lit 0)) (.rcons (.vint .u8 (.lit 0)) (.rcons (.vint .u8 (.lit 0)) (.rcons (.vint .u8 (.lit 0)) (.rcons (.vint .u8 (.lit 0)) (.rcons (.vint .u8 (.lit 0)) (.rcons (.vint .u8 (.lit 0)) (.rcons (.vint .u8 (.lit 0)) (.rcons (.vint .u8 (.lit 0)) (.rcons (.vint .u8 (.lit 0)) (.rcons (.vint .u8 (.lit 0)) (.rcons (.vint .u8 (.lit 0)) (.rcons (.vint .u8 (.lit 0)) (.rcons (.vint .u8 (.lit 0)) (.rcons (.vint .u8 (.lit 0)) (.rcons (.vint .u8 (.lit 0)) (.rcons (.vint .u8 (.lit 0)) (.rcons (.vint .u8 (.lit 0)) (.rcons (.vint .u8 (.lit 0)) (.rcons (.vint .u8 (.lit 0)) (.rcons (.vint .u8 (.lit 0)) (.rcons (.vint .u8 (.lit 0)) (.rcons (.vint .u8 (.lit 0)) (.rcons (.vint .u8 (.lit 0)) (.rcons (.vint .u8 (.lit 0)) (.rcons (.vint .u8 (.lit 0)) (.rcons (.vint .i64 (.lit 0)) (.rcons (.vint .i64 (.lit 0)) (.rcons (.vint .i64 (.lit 0)) (.rcons (.vint .i64 (.lit 0)) (.rcons (.vint .i64 (.lit 0)) (.rcons (.vint .i64 (.lit 0)) (.rcons (.vint .i64 (.lit 0)) (.rcons (.vint .i64 (.lit 0)) (.rcons (.vint .i64 (.lit 0)) (.rcons (.vint .i64 (.lit 0)) (.rcons (.vint .i64 (.lit 0)) (.rcons (.vint .i64 (.lit 0)) (.rcons (.vint .i64 (.lit 0)) (.rcons (.vint .i64 (.lit 0)) (.rcons (.vint .i64 (.lit 0)) (.rcons (.vint .i64 (.lit 0)) (.rcons (.vint .i64 (.lit 0)) (.rcons (.vint .i64 (.lit 0)) (.rcons (.vint .i64 (.lit 0)) (.rcons (.vint .i64 (.lit 0)) (.rcons (.vint .i64 (.lit 0)) (.rcons (.vint .i64 (.lit 0)) (.rcons (.vint .i64 (.lit 0)) (.rcons (.vint .i64 (.lit 0)) (.rcons (.vint .i64 (.lit 0)) (.rcons (.vint .i64 (.lit 0)) (.rcons (.vint .i64 (.lit 0)) (.rcons (.vint .i64 (.lit 0)) (.rcons (.vint .i64 (.lit 0)) (.rcons (.vint .i64 (.lit 0)) (.rcons (.vint .i64 (.lit 0)) (.rcons (.vint .i64 (.lit 0)) (.rcons (.vint .i64 (.lit 0)) (.rcons (.vint .i64 (.lit 0)) (.rcons (.vint .i64 (.lit 0)) (.rcons (.vint .i64 (.lit 0)) (.rcons (.vint .i64 (.lit 0)) (.rcons (.vint .i64 (.lit 0)) (.rcons (.vint .i64 (.lit 0)) (.rcons (.vint .i64 (.lit 0)) (.rcons (.vint .i64 (.lit 0)) (.rcons (.vint .i64 (.lit 0)) (.rcons (.vint .i64 (.lit 0)) (.rcons (.vint .i64 (.lit 0)) (.rcons (.vint .i64 (.lit 0)) (.rcons (.vint .i64 (.lit 0)) (.rcons (.vint .i64 (.lit 0)) (.rcons (.vint .i64 (.lit 0)) (.rcons (.vint .i64 (.lit 0)) (.rcons (.vint .i64 (.lit 0)) (.rcons (.vint .i64 (.lit 0)) (.rcons (.vint .i64 (.lit 0)) (.rcons (.vint .i64 (.lit 0)) (.rcons (.vint .i64 (.lit 0)) (.rcons (.vint .i64 (.lit 0)) (.rcons (.vint .i64 (.lit 0)) (.rcons (.vint .i64 (.lit 0)) (.rcons (.vint .i64 (.lit 0)) (.rcons (.vint .i64 (.lit 0)) (.rcons (.vint .i64 (.lit 0)) (.rcons (.vint .i64 (.lit 0)) (.rcons (.vint .i64 (.lit 0)) (.rcons (.vint .i64 (.lit 0)) (.rcons (.vint .i64 (.lit 0)) (.rcons (.vint .i64 (.lit 0)) (.rcons (.vint .i64 (.lit 0)) (.rcons (.vint .i64 (.lit 0)) (.rcons (.vint .i64 (.lit 0)) (.rcons (.vint .i64 (.lit 0)) (.rcons (.vint .i64 (.lit 0)) (.rcons (.vint .i64 (.lit 0)) (.rcons (.vint .i64 (.lit 0)) (.rcons (.vint .i64 (.lit 0)) (.rcons (.vint .i64 (.lit 0)) (.rcons (.vint .i64 (.lit 0)) (.rcons (.vint .i64 (.lit 0)) (.rcons (.vint .i64 (.lit 0)) (.rcons (.vint .i64 (.lit 0)) (.rcons (.vint .i64 (.lit 0)) (.rcons (.vint .i64 (.lit 0)) (.rcons (.vint .i64 (.lit 0)) (.rcons (.vint .i64 (.lit 0)) (.rcons (.vint .i64 (.lit 0)) (.rcons (.vint .i64 (.lit 0)) (.rcons (.vint .i64 (.lit 0)) (.rcons (.vint .i64 (.lit 0)) (.rcons (.vint .i64 (.lit 0)) (.rcons (.vint .i64 (.lit 0)) (.rcons (.vint .i64 (.lit 0)) (.rcons (.vint .i64 (.lit 0)) (.rcons (.vint .i64 (.lit 0)) (.rcons (.vint .i64 (.lit 0)) (.rcons (.vint .i64 (.lit 0)) (.rcons (.vint .i64 (.lit 0)) (.rcons (.vint .i64 (.lit 0)) (.rcons (.vint .i64 (.lit 0)) (.rcons (.vint .i64 (.lit 0)) (.rcons (.vint .i64 (.lit 0)) (.rcons (.vint .i64 (.lit 0)) (.rcons (.vint .i64 (.lit 0)) (.rcons (.vint .i64 (.lit 0)) (.rcons (.vint .i64 (.lit 0)) (.rcons (.vint .i64 (.lit 0)) (.rcons (.vint .i64 (.lit 0)) (.rcons (.vint .i64 (.lit 0)) (.rcons (.vint .i64 (.lit 0)) (.rcons (.vint .i64 (.lit 0)) (.rcons (.vint .i64 (.lit 0)) (.rcons (.vint .i64 (.lit 0)) (.rcons (.vint .i64 (.lit 0)) (.rcons (.vint .i64 (.lit 0)) (.rcons (.vint .i64 (.lit 0)) (.rcons (.vint .i64 (.lit 0)) (.rcons (.vint .i64 (.lit 0)) (.rcons (.vint .i64 (.lit 0)) (.rcons (.vint .i64 (.lit 0)) (.rcons (.vint .i64 (.lit 0)) (.rcons (.vint .i64 (.lit 0)) (.rcons (.vint .i64 (.lit 0)) (.rcons (.vint .i64 (.lit 0)) (.rcons (.vint .i64 (.lit 0)) (.rcons (.vint .i64 (.lit 0)) (.rcons (.vint .i64 (.lit 0)) (.rcons (.vint .i64 (.lit 0)) (.rcons (.vint .i64 (.lit 0)) (.rcons (.vint .i64 (.lit 0)) (.rcons (.vint .i64 (.lit 0)) (.rcons (.vint .i64 (.lit 0)) (.rcons (.vint .i64 (.lit 0)) (.rcons (.vint .i64 (.lit 0)) (.rcons (.vint .i64 (.lit 0)) (.rcons (.vint .i64 (.lit 0)) (.rcons (.vint .i64 (.lit 0)) (.rcons (.vint .i64 (.lit 0)) (.rcons (.vint .i64 (.lit 0)) (.rcons (.vint .i64 (.lit 0)) (.rcons (.vint .i64 (.lit 0)) (.rcons (.vint .i64 (.lit 0)) (.rcons (.vint .i64 (.lit 0)) (.rcons (.vint .i64 (.lit 0)) (.rcons (.vint .i64 (.lit 0)) (.rcons (.vint .i64 (.lit 0)) (.rcons (.vint .i64 (.lit 0)) (.rcons (.vint .i64 (.lit 0)) (.rcons (.vint .i64 (.lit 0)) (.rcons (.vint .i64 (.lit 0)) (.rcons (.vint .i64 (.lit 0)) (.rcons (.vint .i64 (.lit 0)) (.rcons (.vint .i64 (.lit 0)) (.rcons (.vint .i64 (.lit 0)) (.rcons (.vint .i64 (.lit 0)) (.rcons (.vint .i64 (.lit 0)) (.rcons (.vint .i64 (.lit 0)) (.rcons (.vint .i64 (.lit 0)) (.rcons (.vint .i64 (.lit 0)) (.rcons (.vint .i64 (.lit 0)) (.rcons (.vint .i64 (.lit 0)) (.rcons (.vint .i64 (.lit 0)) (.rcons (.vint .i64 (.lit 0)) (.rcons (.vint .i64 (.lit 0)) (.rcons (.vint .i64 (.lit 0)) (.rcons (.vint .i64 (.lit 0)) (.rcons (.vint .i64 (.lit 0)) (.rcons (.vint .i64 (.lit 0)) (.rcons (.vint .i64 (.lit 0)) (.rcons (.vint .i64 (.lit 0)) (.rcons (.vint .i64 (.lit 0)) (.rcons (.vint .i64 (.lit 0)) (.rcons (.vint .i64 (.lit 0)) (.rcons (.vint .i64 (.lit 0)) (.rcons (.vint .i64 (.lit 0)) (.rcons (.vint .i64 (.lit 0)) (.rcons (.vint .i64 (.lit 0)) (.rcons (.vint .i64 (.lit 0)) (.rcons (.vint .i64 (.lit 0)) (.rcons (.vint .i64 (.lit 0)) (.rcons (.vint .i64 (.lit 0)) (.rcons (.vint .i64 (.lit 0)) (.rcons (.vint .i64 (.lit 0)) (.rcons (.vint .i64 (.lit 0)) (.rcons (.vint .i64 (.lit 0)) (.rcons (.vint .i64 (.lit 0)) (.rcons (.vint .i64 (.lit 0)) (.rcons (.vint .i64 (.lit 0)) (.rcons (.vint .i64 (.lit 0)) (.rcons (.vint .i64 (.lit 0)) (.rcons (.vint .i64 (.lit 0)) (.rcons (.vint .i64 (.lit 0)) (.rcons (.vint .i64 (.lit 0)) (.rcons (.vint .i64 (.lit 0)) (.rcons (.vint .i64 (.lit 0)) (.rcons (.vint .i64 (.lit 0)) (.rcons (.vint .i64 (.lit 0)) (.rcons (.vint .i64 (.lit 0)) (.rcons (.vint .i64 (.lit 0)) (.rcons (.vint .i64 (.lit 0)) (.rcons (.vint .i64 (.lit 0)) (.rcons (.vint .i64 (.lit 0)) (.rcons (.vint .i64 (.lit 0)) (.rcons (.vint .i64 (.lit 0)) (.rcons (.vint .i64 (.lit 0)) (.rcons (.vint .i64 (.lit 0)) (.rcons (.vint .i64 (.lit 0)) (.rcons (.vint .i64 (.lit 0)) (.rcons (.vint .i64 (.lit 0)) (.rcons (.vint .i64 (.lit 0)) (.rcons (.vint .i64 (.lit 0)) (.rcons (.vint .i64 (.lit 0)) (.rcons (.vint .i64 (.lit 0)) (.rcons (.vint .i64 (.lit 0)) (.rcons (.vint .i64 (.lit 0)) (.rcons (.vint .i64 (.lit 0)) (.rcons (.vint .i64 (.lit 0)) (.rcons (.vint .i64 (.lit 0)) (.rcons (.vint .i64 (.lit 0)) (.rcons (.vint .i64 (.lit 0)) (.rcons (.vint .i64 (.lit 0)) (.rcons (.vint .i64 (.lit 0)) (.rcons (.vint .i64 (.lit 0)) (.rcons (.vint .i64 (.lit 0)) (.rcons (.vint .i64 (.lit 0)) (.rcons (.vint .i64 (.lit 0)) (.rcons (.vint .i64 (.lit 0)) (.rcons (.vint .i64 (.lit 0)) (.rcons (.vint .i64 (.lit 0)) (.rcons (.vint .i64 (.lit 0)) (.rcons (.vint .i64 (.lit 0)) (.rcons (.vint .i64 (.lit 0)) (.rcons (.vint .i64 (.lit 0)) (.rcons (.vint .i64 (.lit 0)) (.rcons (.vint .i64 (.lit 0)) (.rcons (.vint .i64 (.lit 0)) (.rcons (.vint .i64 (.lit 0)) (.rcons (.vint .i64 (.lit 0)) (.rcons (.vint .i64 (.lit 0)) (.rcons (.vint .i64 (.lit 0)) (.rcons (.vint .i64 (.lit 0)) (.rcons (.vint .i64 (.lit 0)) (.rcons (.vint .i64 (.lit 0)) (.rcons (.vint .i64 (.lit 0)) (.rcons (.vint .i64 (.lit 0)) (.rcons (.vint .i64 (.lit 0)) (.rcons (.vint .i64 (.lit 0)) (.rcons (.vint .i64 (.lit 0)) (.rcons (.vint .i64 (.lit 0)) (.rcons (.vint .i64 (.lit 0)) (.rcons (.vint .i64 (.lit 0)) (.rcons (.vint .i64 (.lit 0)) (.rcons (.vint .i64 (.lit 0)) (.rcons (.vint .i64 (.lit 0)) (.rcons (.vint .i64 (.lit 0)) (.rcons (.vint .i64 (.lit 0)) (.rcons (.vint .i64 (.lit 0)) (.rcons (.vint .i64 (.lit 0)) (.rcons (.vint .i64 (.lit 0)) (.rcons (.vint .i64 (.lit 0)) .rnil))))))))))))))))))))))))))))))))))))))))))))))))))))))))))))))))))))))))))))))))))))))))))))))))))))))))))))))))))))))))))))))))))))))))))))))))))))))))))))))))))))))))))))))))))))))))))))))))))))))))))))))))))))))))))))))))))))))))))))))))))))))))))))))))))))))))))))))))))))))))))))))))))))))))))))))))))))))))))))))))))))))))))))))))))))))))))))))))))))))))))))))))))))))))))))))))))))))))))))))))))))))))))))))))))))))))))))))))))))))))))))))))))))))))))))))))))))))))))))))))))))))))))))))))))))))))))))))))))))))))))))))))))))))))))))))))))))))))))))))))))))))))))))))))))))))))))))))))))))))))))))))))))))))))))))))))))))))))))))))))))))))))))))))))))))))))))))))))))))))))))))))))))))))))))))))))))))))))))))))))))))))))))))))))))))))))))))))))))))))))))))))))),bg 0 0])))
theorem o_newField_eq:treeOf ⟨Tryz.prog,newFieldC,[],[]⟩ 100000 Tryz.f20 = o_newField:=by kernel_rfl
theorem newField_of (hd:∀ c ∈ ([]:List Ctr),c.ok Tryz.prog) (h:∀ ρ:Env,ρ.good→(newFieldC).pre ρ→o_newField.den ⟨Tryz.prog,newFieldC,[],[]⟩ ρ):(newFieldC).ok Tryz.prog :=
 ok_of_tree Tryz.func20 (fun a w=>Tryz.call20 a w) hd 100000 (fun ρ hg hp=>by rw [o_newField_eq]; exact h ρ hg hp)
@[simp] def o_build_1:T:=.c3 (.xput 513) (.c3 (.xput 3) (.c3 (.xput 3) (.var 4) (.var 3) (.vint .u8 (.conv .u8 (.var 2)))) (.arith .add .i64 (.var 3) (.lit 255)) (.vint .u8 (.conv .u8 (.var 2)))) (.var 2) (.vint .i64 (.var 3))
def o_build:Out:=(.inv 0 2 (sg 1000 [bv 1002 1,bt 1001 (.lit 0),bt 1000 (.lit 1)]) (.fresh 2 (.fresh 3 (.fresh 4 (.hyp 0 2 (.br (.cmp .lss (.var 3) (.lit 255))
 (.need (.cmp .lss (.lit 0) (.dlen (.var 4))) (.need (.cmp .leq (.lit 0) (.var 3)) (.need (.cmp .lss (.var 3) (.lit 510)) (.need (.cmp .leq (.lit 0) (.arith .add .i64 (.var 3) (.lit 255))) (.need (.cmp .lss (.arith .add .i64 (.var 3) (.lit 255)) (.lit 510)) (.need (.cmp .leq (.lit 0) (.var 2)) (.need (.cmp .lss (.var 2) (.lit 256)) (.br (.cmp .geq (.arith .shl .i64 (.var 2) (.lit 1)) (.lit 256))
 (.back 0 2 (sg 1000 [bt 1002 o_build_1,bt 1001 (.arith .add .i64 (.var 3) (.lit 1)),bt 1000 (.arith .xor .i64 (.arith .shl .i64 (.var 2) (.lit 1)) (.lit 285))]))
 (.back 0 2 (sg 1000 [bt 1002 o_build_1,bt 1001 (.arith .add .i64 (.var 3) (.lit 1)),bt 1000 (.arith .shl .i64 (.var 2) (.lit 1))]))))))))))
 (.ret 0 (sg 2 [bv 2 4]))))))))
theorem o_build_eq:treeOf ⟨Tryz.prog,buildC,[],[buildI]⟩ 100000 Tryz.f179 = o_build:=by kernel_rfl
theorem build_of (hd:∀ c ∈ ([]:List Ctr),c.ok Tryz.prog) (h:∀ ρ:Env,ρ.good→(buildC).pre ρ→o_build.den ⟨Tryz.prog,buildC,[],[buildI]⟩ ρ):(buildC).ok Tryz.prog :=
 ok_of_tree Tryz.func179 (fun a w=>Tryz.call179 a w) hd 100000 (fun ρ hg hp=>by rw [o_build_eq]; exact h ρ hg hp)
@[simp] def o_mul_1:T:=.arith .add .i64 (.c2 (.xint 513) (.var 4) (.var 2)) (.c2 (.xint 513) (.var 4) (.var 3))
def o_mul:Out:=(.br (.and (.cmp .eql (.dlen (.var 1)) (.lit 0)) (.isnil 0))
 (.ret 0 (sg 4 [bv 5 1,bt 4 (.lit 0)]))
 (.br (.cmp .eql (.var 2) (.lit 0))
 (.ret 0 (sg 4 [bv 5 1,bt 4 (.lit 0)]))
 (.br (.cmp .eql (.var 3) (.lit 0))
 (.ret 0 (sg 4 [bv 5 1,bt 4 (.lit 0)]))
 (.need (.cmp .lss (.lit 0) (.dlen (.var 1))) (.pre 0 (sg 0 [bv 1 1,bg 0 0]) (.both (.fresh 4 (.post 0 0 (sg 0 [bv 1 1,bg 0 0]) 4 (.need (.cmp .lss (.lit 0) (.dlen (.var 4))) (.need (.cmp .leq (.lit 0) (.var 2)) (.need (.cmp .lss (.var 2) (.lit 256)) (.need (.cmp .leq (.lit 0) (.var 3)) (.need (.cmp .lss (.var 3) (.lit 256)) (.need (.cmp .leq (.lit 0) o_mul_1) (.need (.cmp .lss o_mul_1 (.lit 510)) (.ret 0 (sg 4 [bv 5 4,bt 4 (.c2 (.xint 3) (.var 4) o_mul_1)]))))))))))) .top))))))
theorem o_mul_eq:treeOf ⟨Tryz.prog,mulC,[onceC],[]⟩ 100000 Tryz.f152 = o_mul:=by kernel_rfl
theorem mul_of (hd:∀ c ∈ ([onceC]:List Ctr),c.ok Tryz.prog) (h:∀ ρ:Env,ρ.good→(mulC).pre ρ→o_mul.den ⟨Tryz.prog,mulC,[onceC],[]⟩ ρ):(mulC).ok Tryz.prog :=
 ok_of_tree Tryz.func152 (fun a w=>Tryz.call152 a w) hd 100000 (fun ρ hg hp=>by rw [o_mul_eq]; exact h ρ hg hp)
end Go.Proofs

set_option linter.unusedSimpArgs false
set_option linter.unusedVariables false
namespace Go.Proofs
open Go Go.Eng
set_option maxRecDepth 100000 in
theorem newField_ok:newFieldC.ok Tryz.prog:=newField_of (by simp) fun ρ hg hp=>by
 simp [o_newField,newFieldC]
 kernel_rfl
theorem nextX_range':∀ x:Fin 256,0 ≤ nextX (x.val:Int)∧nextX (x.val:Int) < 256:=by decide +kernel
theorem nextX_range {x:Int} (h0:0 ≤ x) (h1:x < 256):0 ≤ nextX x∧nextX x < 256:=by
 have:=nextX_range' ⟨x.toNat,by omega⟩
 simp only [Int.toNat_of_nonneg h0] at this
 exact this
theorem buildN_range (d:Rows'):∀ n,0 ≤ (buildN d n).2∧(buildN d n).2 < 256
 | 0=>by simp [buildN]
 | n + 1=>nextX_range (buildN_range d n).1 (buildN_range d n).2
theorem putX_len {d:Rows'} {i:Nat} {v:Value}:(putX d i v).length = d.length:=by cases d <;> simp [putX]
theorem buildN_len (d:Rows'):∀ n,(buildN d n).1.length = d.length
 | 0=>rfl
 | n + 1=>by simp only [buildN,buildStep,putX_len,buildN_len d n]
theorem build_ok:buildC.ok Tryz.prog:=build_of (by simp) fun ρ hg hp=>by
 have hl:(ρ 1).d.length = 1:=hp
 simp [o_build,buildC,buildI]
 refine ⟨rfl,fun x _ i _ d _ i0 i1 hd=>⟨fun hi=>?_,fun hi=>?_⟩⟩
 ·obtain ⟨x0,x1⟩:=buildN_range (ρ 1).d i.i.toNat
  have hlen:=buildN_len (ρ 1).d i.i.toNat
  rw [← hd] at x0 x1 hlen
  simp only at x0 x1 hlen
  have w1:arithOf .add .i64 i.i 255 = i.i + 255:=by simp [arithOf,IntKind.wrap,IntKind.bits,IntKind.signed]; omega
  have w2:arithOf .add .i64 i.i 1 = i.i + 1:=by simp [arithOf,IntKind.wrap,IntKind.bits,IntKind.signed]; omega
  have w3:arithOf .shl .i64 x.i 1 = 2 * x.i:=by simp [arithOf,IntKind.wrap,IntKind.bits,IntKind.signed]; omega
  have w4:IntKind.u8.wrap x.i = x.i:=by simp [IntKind.wrap,IntKind.bits,IntKind.signed]; omega
  have hstep:∀ y,y = nextX x.i→(putX (putX (putX d.d (i.i.toNat + 3) (.int .u8 x.i)) ((i.i + 255).toNat + 3) (.int .u8 x.i)) (x.i.toNat + 513) (.int .i64 i.i),y) = buildN (ρ 1).d (i.i + 1).toNat:=fun y hy=>by
   rw [show (i.i + 1).toNat = i.i.toNat + 1 by omega,buildN,← hd,buildStep,hy]
   simp only
   rw [show (i.i + 255).toNat = i.i.toNat + 255 by omega,Int.toNat_of_nonneg i0]
  rw [w1,w2,w3,w4]
  refine ⟨by omega,i0,by omega,by omega,by omega,x0,x1,fun h=>⟨⟨by omega,by omega,hstep _ ?_⟩,by omega⟩,fun h=>⟨⟨by omega,by omega,hstep _ ?_⟩,by omega⟩⟩
  ·rw [nextX,if_pos h]
  ·rw [nextX,if_neg (by omega)]
 ·have:i.i.toNat = 255:=by omega
  rw [this] at hd
  rw [← hd]
end Go.Proofs

set_option linter.unusedSimpArgs false
set_option linter.unusedVariables false
namespace Go.Proofs
open Go Go.Eng

theorem once_disable (w:World):(callFunc 198 #[]).run Tryz.prog w = .ok (.value (.tuple #[])) w:=run_call_mark0 Tryz.func198 (by kernel_rfl) (by kernel_rfl) (by kernel_rfl) .disable (by kernel_rfl) w
theorem once_enable (w:World):(callFunc 200 #[]).run Tryz.prog w = .ok (.value (.tuple #[])) w:=run_call_mark0 Tryz.func200 (by kernel_rfl) (by kernel_rfl) (by kernel_rfl) .enable (by kernel_rfl) w
theorem once_acquire (a:Addr) (w:World):(callFunc 201 #[.pointer (some a)]).run Tryz.prog w = .ok (.value (.tuple #[])) w:=run_call_marked Tryz.func201 (by kernel_rfl) (by kernel_rfl) (by kernel_rfl) .acquire (by kernel_rfl) a w
theorem once_release (a:Addr) (w:World):(callFunc 203 #[.pointer (some a)]).run Tryz.prog w = .ok (.value (.tuple #[])) w:=run_call_marked Tryz.func203 (by kernel_rfl) (by kernel_rfl) (by kernel_rfl) .releaseMerge (by kernel_rfl) a w
theorem once_store (a:Addr) (x:Value) (u:FrameMode) (w:World) (hc:w.cell? a = some x) (hz:w.frozen? a = false) :
  CallsD Tryz.prog 193 #[.pointer (some a),.bool true] u w fun e u' w'=>u' = u∧(e = .returned (.tuple #[])∧w' = w.drew.setCell a (.int .u32 1)):=by
 have hc':w.drew.cell? a = some x:=by go_simp
 have hz':w.drew.frozen? a = false:=by go_simp
 have hst:=run_call_store (P:=Tryz.prog) Tryz.func196 (by kernel_rfl) (by kernel_rfl) (by kernel_rfl) (by kernel_rfl) (k:=.u32) (y:=1) hc' hz'
 go_enter_d Tryz.func193,Tryz.ntmps193
 go_wp2
 go_region_calls
 all_goals (go_end0; exact ⟨rfl,rfl⟩)
set_option maxRecDepth 100000 in
set_option maxHeartbeats 1600000 in
theorem once_lock_in (a:Addr) (w:World) (hc:w.cell? a = some (.int .i32 0)) (hz:w.frozen? a = false) :
  Calls Tryz.prog 194 #[.pointer (some a)] w fun e w'=>e = .returned (.tuple #[])∧w' = w.setCell a (.int .i32 1):=by
 have hd:=once_disable
 have he:=once_enable
 have ha:=once_acquire
 have hcas:=run_call_cas_hit (P:=Tryz.prog) Tryz.func199 (by kernel_rfl) (by kernel_rfl) (by kernel_rfl) .i32 (by kernel_rfl) (y:=1) hc hz
 have hc':(w.setCell a (.int .i32 1)).cell? a = some (.int .i32 1):=World.cell?_setCell_same w a _ hc
 have hcv:=run_convert_to_unsafe (P:=Tryz.prog) (src:=283) (dst := 287) Tryz.underlying283 Tryz.underlying287 (by kernel_rfl) hc'
 go_enter Tryz.func194,Tryz.ntmps194
 go_wp2
 first | go_end0 | (simp only [Exit.inBlock,Exit.then]; refine bodyPost_ret (results_none rfl _ _ _) rfl ?_) | refine bodyPost_ret (results_none rfl _ _ _) rfl ?_
 go_wp2
 all_goals (go_end0; exact ⟨rfl,rfl⟩)
set_option maxRecDepth 100000 in
set_option maxHeartbeats 1600000 in
theorem once_unlock_in (a:Addr) (w:World) (hc:w.cell? a = some (.int .i32 1)) (hz:w.frozen? a = false) :
  Calls Tryz.prog 195 #[.pointer (some a)] w fun e w'=>e = .returned (.tuple #[])∧w' = w.setCell a (.int .i32 0):=by
 have hd:=once_disable
 have he:=once_enable
 have hr:=once_release
 have hadd:=run_call_add (P:=Tryz.prog) Tryz.func204 (by kernel_rfl) (by kernel_rfl) (by kernel_rfl) .i32 (by kernel_rfl) (y:=-1) (s:=0) hc hz (by simp [go_sem]; rfl)
 have hcv:=run_convert_to_unsafe (P:=Tryz.prog) (src:=283) (dst := 287) Tryz.underlying283 Tryz.underlying287 (by kernel_rfl) hc
 go_enter Tryz.func195,Tryz.ntmps195
 go_wp2
 all_goals (try go_end0)
 all_goals (try go_wp2)
 all_goals (try go_end0)
 all_goals (exact ⟨rfl,rfl⟩)
set_option maxRecDepth 100000 in
theorem once_lock (b off:Nat) (w:World) (hc:w.cell? ⟨b,off,none⟩ = some (.int .i32 0)) (hz:w.frozen? ⟨b,off,none⟩ = false) :
  Calls Tryz.prog 191 #[.pointer (some ⟨b,off,none⟩)] w fun e w'=>e = .returned (.tuple #[])∧w' = w.setCell ⟨b,off,none⟩ (.int .i32 1):=by
 go_enter Tryz.func191,Tryz.ntmps191
 go_wp2_with (go_at_call 194; refine (once_lock_in ⟨b,off,none⟩ _ (by go_simp) (by go_simp)).mono ?_; rintro e w' ⟨rfl,rfl⟩)
 all_goals (go_end0; exact ⟨rfl,rfl⟩)
set_option maxRecDepth 100000 in
theorem once_unlock (b off:Nat) (u:FrameMode) (w:World) (hc:w.cell? ⟨b,off,none⟩ = some (.int .i32 1)) (hz:w.frozen? ⟨b,off,none⟩ = false) :
  CallsD Tryz.prog 192 #[.pointer (some ⟨b,off,none⟩)] u w fun e u' w'=>u' = u∧(e = .returned (.tuple #[])∧w' = w.setCell ⟨b,off,none⟩ (.int .i32 0)):=by
 go_enter_d Tryz.func192,Tryz.ntmps192
 go_wp2_with (go_at_call 195; refine (once_unlock_in ⟨b,off,none⟩ _ (by go_simp) (by go_simp)).mono ?_; rintro e w' ⟨rfl,rfl⟩)
 all_goals (go_end0; exact ⟨rfl,rfl⟩)
end Go.Proofs

set_option linter.unusedSimpArgs false
set_option linter.unusedVariables false
namespace Go.Proofs
open Go Go.Eng


theorem fits_good' {k:CK} {v:Value} (h:CK.fits k v = true):v.oneCell' = true:=by
 cases k <;> cases v <;> simp_all [CK.fits,Value.oneCell']
def At (w:World) (b:Nat) (c:Array Value):Prop:=w.heap[b]? = some (.cells c 151 (0,0))
structure Else (w w':World) (b:Nat):Prop where
 blk:∀ b',b' ≠ b→∀ o,w.heap[b']? = some o→w'.heap[b']? = some o
 os:w'.os = w.os
 out:w'.output = w.output
theorem Else.trans {w1 w2 w3:World} {b:Nat} (h:Else w1 w2 b) (h':Else w2 w3 b):Else w1 w3 b :=
 ⟨fun b' hb o ho=>h'.blk b' hb o (h.blk b' hb o ho),h'.os.trans h.os,h'.out.trans h.out⟩
theorem At.set {w:World} {b:Nat} {c:Array Value} (h:At w b c) (k:Nat) (v:Value):At (w.setCell ⟨b,k,none⟩ v) b (c.setIfInBounds k v)∧Else w (w.setCell ⟨b,k,none⟩ v) b:=by
 refine ⟨?_,fun b' hb o ho=>?_,rfl,rfl⟩
 ·have h:w.heap[b]? = some (.cells c 151 (0,0)):=h
  simp only [At,World.setCell,Array.getElem?_modify,if_true,h,Option.map_some]
  simp
 ·simp only [World.setCell,Array.getElem?_modify]
  rw [if_neg (fun h=>hb h.symm)]; exact ho
theorem At.drew {w:World} {b:Nat} {c:Array Value} (h:At w b c):At w.drew b c∧Else w w.drew b:=⟨h,fun _ _ _ ho=>ho,rfl,rfl⟩
theorem At.cell {w:World} {b:Nat} {c:Array Value} (h:At w b c) {k:Nat} {v:Value} (hv:c[k]? = some v):w.cell? ⟨b,k,none⟩ = some v:=by rw [cell_of_heap h,hv]
theorem At.frozen {w:World} {b:Nat} {c:Array Value} (h:At w b c) (k:Nat):w.frozen? ⟨b,k,none⟩ = false:=by
 have h:w.heap[b]? = some (.cells c 151 (0,0)):=h
 simp [World.frozen?,h]
theorem toList_set {c:Array Value} {k:Nat} {v:Value}:(c.setIfInBounds k v).toList = c.toList.set k v:=by simp

theorem kField_len:kField.length = 769:=by simp only [kField,List.length_append,List.length_replicate,List.length_cons,List.length_nil]
set_option maxRecDepth 100000 in
theorem build_calls {w:World} {b:Nat} {c:Array Value} (hb:At w b c) (hf:fitsRow kField c.toList) :
  Calls Tryz.prog 179 #[.pointer (some ⟨b,0,none⟩)] w fun e w'=>e = .returned (.tuple #[])∧∃ c',At w' b c'∧[c'.toList] = (buildN [c.toList] 255).1∧Else w w' b:=by
 let us:List U:=[{ r:=some ⟨b,0,none⟩ },{ d:=[c.toList] }]
 have hgood:Env.good fun n=>us.getD n {}:=fun n=>by
  match n with
  | 0=>simp [us,U.good,Value.oneCell']
  | 1 =>
   refine ⟨rfl,fun row hr v hv=>?_⟩
   simp only [us,List.getD_cons_succ,List.getD_cons_zero,List.mem_singleton] at hr
   subst hr
   obtain ⟨k,hk⟩:=List.getElem?_of_mem hv
   have hlt:k < kField.length:=by rw [← hf.1]; exact (List.getElem?_eq_some_iff.1 hk).1
   exact fits_good' (hf.2 k _ v (List.getElem?_eq_getElem hlt) hk)
  | n + 2=>simp [us,U.good,Value.oneCell']
 have hsz:c.size = 769:=by have:=hf.1; rw [kField_len] at this; simpa using this
 have h:=build_ok.2 (fun n=>us.getD n {}) w ⟨fun b'=>if b' = b then none else w.heap[b']?,w.os,w.output⟩ (Hp.one b (.cells c 151 (0,0))) hgood
  (fun y=>by by_cases hy:y = b <;> simp [hy,Hp.one])
  ⟨fun y o hy=>by
   by_cases hyb:y = b
   ·subst hyb
    simp [Hp.union,Hp.one] at hy
    rw [← hy]; exact hb
   ·simpa [Hp.union,Hp.one,hyb] using hy,rfl,rfl⟩
  ⟨Hp.one b (.cells c 151 (0,0)),Hp.emp,Hp.disj_emp _,by funext y; simp [Hp.union,Hp.emp],.inr ⟨b,c,rfl,by simp [Hp.one],by rw [kField_len,hsz]; simp [T.den,O0.den],by simp [us,T.den,O0.den],fun i row hi=>by
   match i with
   | 0 =>
    simp only [T.den,us,List.getD_cons_succ,List.getD_cons_zero,List.getElem?_cons_zero,Option.some.injEq] at hi
    subst hi
    exact ⟨hf,fun k v hv=>by simpa using hv⟩
   | i + 1=>simp [T.den,us] at hi⟩,trivial⟩
  (fun x hx=>by cases hx) (show ([c.toList]:Rows').length = 1 from rfl)
 refine h.mono fun e w' hq=>?_
 obtain ⟨ai,al,ρ',hal,hg',hag,he,hpost,hO',hd',hst',hsub',hwi'⟩:=hq
 match ai,hal with
 | 0,hal =>
  obtain rfl:=Option.some.inj hal
  refine ⟨he,?_⟩
  obtain ⟨h1,h2,hdj,hu,hden,_⟩:=hst'
  have r0:(ρ' 0).r = some ⟨b,0,none⟩:=by rw [hag 0 (by decide)]; rfl
  have d1:(ρ' 1).d = [c.toList]:=by rw [hag 1 (by decide)]; rfl
  have hp2:(ρ' 2).d = (buildN (ρ' 1).d 255).1:=hpost
  rw [d1] at hp2
  have hl2:(ρ' 2).d.length = 1:=by rw [hp2,buildN_len]; rfl
  rcases hden with ⟨hn,_,_⟩ | ⟨b',c',g1,g2,g3,g4,g5⟩
  ·rw [r0] at hn; cases hn
  ·rw [r0] at g1
   simp only [Option.some.injEq,Addr.mk.injEq] at g1
   obtain ⟨rfl,_⟩:=g1
   obtain ⟨row,hrow⟩:∃ row,(ρ' 2).d = [row]:=List.length_eq_one_iff.1 hl2
   obtain ⟨f1,f2⟩:=g5 0 row (by simp only [T.den]; rw [hrow]; rfl)
   have hs':c'.size = 769:=by rw [g3,kField_len]; simp [T.den,O0.den]
   have hlr:row.length = 769:=by rw [f1.1,kField_len]
   have hcl:c'.toList = row:=by
    apply List.ext_getElem?
    intro k
    by_cases hk:k < row.length
    ·have:=f2 k _ (List.getElem?_eq_getElem hk)
     rw [Array.getElem?_toList,List.getElem?_eq_getElem hk]
     simpa using this
    ·rw [List.getElem?_eq_none (by simp; omega),List.getElem?_eq_none (by omega)]
   refine ⟨c',hsub' b _ ?_,by rw [hcl,← hrow,hp2],fun y hy o ho=>hsub' y o ?_,hwi'.1,hwi'.2⟩
   ·have:hO' b = some (.cells c' 151 (0,0)):=by rw [hu]; simp [Hp.union,g2]
    simp [Hp.union,this]
   ·simp [Hp.union,hy,ho]
 | n + 1,hal=>cases hal
end Go.Proofs

set_option linter.unusedSimpArgs false
set_option linter.unusedVariables false
namespace Go.Proofs
open Go Go.Eng
theorem once_not:∀ (x:Bool) (w:World),(Op.unary .not (.bool x)).run Tryz.prog w = .ok (.bool (!x)) w:=fun _ _=>rfl
set_option maxRecDepth 100000 in
theorem once_load (b:Nat) (x:Int) (w:World) (hc:w.cell? ⟨b,0,none⟩ = some (.int .u32 x)) :
  Calls Tryz.prog 187 #[.pointer (some ⟨b,0,none⟩)] w fun e w'=>e = .returned (.bool (x != 0))∧w' = w:=by
 have hl:=run_call_load (P:=Tryz.prog) Tryz.func190 (by kernel_rfl) (by kernel_rfl) (by kernel_rfl) .u32 (by kernel_rfl) hc
 go_enter Tryz.func187,Tryz.ntmps187
 go_wp2
 go_ret
 exact ⟨rfl,rfl⟩
set_option maxRecDepth 100000 in
theorem once_done (b:Nat) (d:Int) (hd:¬ d = 0) (fv:Value) (w:World) (h0:w.cell? ⟨b,0,none⟩ = some (.int .u32 d)) :
  Calls Tryz.prog 178 #[.pointer (some ⟨b,0,none⟩),fv] w fun e w'=>e = .returned (.tuple #[])∧w' = w:=by
 have hnot:=once_not
 have hd':(d != 0) = true:=by simp [hd]
 go_enter Tryz.func178,Tryz.ntmps178
 go_wp2_with (go_at_call 187; refine (once_load b d _ h0).mono ?_; rintro e w' ⟨rfl,rfl⟩)
 all_goals (try go_end0)
 all_goals (exact ⟨rfl,rfl⟩)
def fitsB:List CK→List Value→Bool
 | [],[]=>true
 | k :: ks,v :: vs=>CK.fits k v && fitsB ks vs
 | _,_=>false
theorem fitsB_row:∀ {ks:List CK} {vs:List Value},fitsB ks vs = true→fitsRow ks vs
 | [],[],_=>⟨rfl,fun c k v hk=>by simp at hk⟩
 | k :: ks,v :: vs,h=>by
  simp only [fitsB,Bool.and_eq_true] at h
  obtain ⟨h1,h2⟩:=fitsB_row h.2
  refine ⟨by simp [h1],fun c k' v' hk hv=>?_⟩
  cases c with
  | zero=>simp at hk hv; subst hk; subst hv; exact h.1
  | succ c=>exact h2 c k' v' (by simpa using hk) (by simpa using hv)
 | [],_ :: _,h=>by simp [fitsB] at h
 | _ :: _,[],h=>by simp [fitsB] at h
theorem fresh_fits:fitsRow kField (freshRow.set 1 (.int .i32 1)):=fitsB_row (by kernel_rfl)
theorem built_done:[(((buildN [freshRow.set 1 (.int .i32 1)] 255).1.headD []).set 0 (.int .u32 1)).set 1 (.int .i32 0)] = doneD:=by kernel_rfl
theorem built_1:((buildN [freshRow.set 1 (.int .i32 1)] 255).1.headD [])[1]? = some (.int .i32 1):=by kernel_rfl
theorem built_0:((buildN [freshRow.set 1 (.int .i32 1)] 255).1.headD [])[0]? = some (.int .u32 0):=by kernel_rfl
set_option maxRecDepth 100000 in
set_option maxHeartbeats 1600000 in
theorem once_slow (b:Nat) (c:Array Value) (w:World) (hb:At w b c) (hc:c.toList = freshRow) :
  Calls Tryz.prog 188 #[.pointer (some ⟨b,0,none⟩),.func (.func 179) #[.pointer (some ⟨b,0,none⟩)] #[]] w fun e w'=>e = .returned (.tuple #[])∧∃ c',At w' b c'∧[c'.toList] = doneD∧Else w w' b:=by
 have hnot:=once_not
 have hget:∀ k:Nat,c[k]? = freshRow[k]?:=fun k=>by rw [← hc]; simp
 have h1:w.cell? ⟨b,1,none⟩ = some (.int .i32 0):=hb.cell (by rw [hget]; rfl)
 have f1:w.frozen? ⟨b,1,none⟩ = false:=hb.frozen 1
 obtain ⟨a1,e1⟩:=hb.set 1 (.int .i32 1)
 have l1:(c.setIfInBounds 1 (.int .i32 1)).toList = freshRow.set 1 (.int .i32 1):=by rw [toList_set,hc]
 have h0:(w.setCell ⟨b,1,none⟩ (.int .i32 1)).cell? ⟨b,0,none⟩ = some (.int .u32 0):=a1.cell (by rw [← Array.getElem?_toList,l1]; rfl)
 have hbuild:=build_calls a1 (by rw [l1]; exact fresh_fits)
 rw [l1] at hbuild
 go_enter_defers Tryz.func188,Tryz.ntmps188
 go_wp2_with (first | (go_at_call 191; refine (once_lock b 1 _ h1 f1).mono ?_; rintro e w' ⟨rfl,rfl⟩) | (go_at_call 187; refine (once_load b 0 _ h0).mono ?_; rintro e w' ⟨rfl,rfl⟩) | (go_at_call 179; refine hbuild.mono ?_; rintro e w' ⟨rfl,c2,a2,l2,e2⟩))
 have hrow:c2.toList = (buildN [freshRow.set 1 (.int .i32 1)] 255).1.headD []:=by rw [← l2]; rfl
 have k0:c2[0]? = some (.int .u32 0):=by rw [← Array.getElem?_toList,hrow]; exact built_0
 have k1:c2[1]? = some (.int .i32 1):=by rw [← Array.getElem?_toList,hrow]; exact built_1
 obtain ⟨a3,e3⟩:=a2.drew
 obtain ⟨a4,e4⟩:=a3.set 0 (.int .u32 1)
 obtain ⟨a5,e5⟩:=a4.set 1 (.int .i32 0)
 refine leaves_cons (f := 193) (args:=#[.pointer (some ⟨b,0,none⟩),.bool true]) (by simp) (by simp [go_sem]) ?_
 refine (once_store ⟨b,0,none⟩ (.int .u32 0) .returning _ (a2.cell k0) (a2.frozen 0)).mono ?_
 rintro e u' w'' ⟨rfl,rfl,rfl⟩
 refine leaves_cons (f := 192) (args:=#[.pointer (some ⟨b,1,none⟩)]) (by simp [settle]) (by simp [go_sem]) ?_
 refine (once_unlock b 1 _ _ (a4.cell (by simp [k1])) (a4.frozen 1)).mono ?_
 rintro e u' w'' ⟨rfl,rfl,rfl⟩
 have hfin:[((c2.setIfInBounds 0 (.int .u32 1)).setIfInBounds 1 (.int .i32 0)).toList] = doneD:=by
  rw [toList_set,toList_set,hrow]; exact built_done
 simp [Leaves,settle,results,Tryz.results188]
 exact ⟨_,a5,hfin,e1.trans (e2.trans (e3.trans (e4.trans e5)))⟩
set_option maxRecDepth 100000 in
theorem once_first (b:Nat) (c:Array Value) (w:World) (hb:At w b c) (hc:c.toList = freshRow) :
  Calls Tryz.prog 178 #[.pointer (some ⟨b,0,none⟩),.func (.func 179) #[.pointer (some ⟨b,0,none⟩)] #[]] w fun e w'=>e = .returned (.tuple #[])∧∃ c',At w' b c'∧[c'.toList] = doneD∧Else w w' b:=by
 have hnot:=once_not
 have h0:w.cell? ⟨b,0,none⟩ = some (.int .u32 0):=hb.cell (by rw [← Array.getElem?_toList,hc]; rfl)
 have hslow:=once_slow b c w hb hc
 go_enter Tryz.func178,Tryz.ntmps178
 go_wp2_with (first | (go_at_call 187; refine (once_load b 0 _ h0).mono ?_; rintro e w' ⟨rfl,rfl⟩) | (go_at_call 188; refine hslow.mono ?_; rintro e w' ⟨rfl,c2,a2,l2,e2⟩))
 all_goals (try go_end0)
 exact ⟨rfl,c2,a2,l2,e2⟩
end Go.Proofs

set_option linter.unusedSimpArgs false
set_option linter.unusedVariables false
namespace Go.Proofs
open Go Go.Eng
theorem done_0:(doneD.headD [])[0]? = some (.int .u32 1):=by kernel_rfl
theorem done_len:doneD.length = 1:=by kernel_rfl
theorem done_fits:fitsRow kField (doneD.headD []):=fitsB_row (by kernel_rfl)
set_option maxRecDepth 100000 in
theorem once_ok:onceC.ok Tryz.prog:=by
 refine ⟨fun args w=>Tryz.call178 args w,fun ρ w hF hO hg hd hsub hst hro hpre=>?_⟩
 obtain ⟨h1,h2,hdj,hu,hden,_⟩:=hst
 have hlen:(ρ 1).d.length = 1:=by
  rcases hpre with h | h
  ·rw [h]; rfl
  ·rw [h]; exact done_len
 rcases hden with ⟨hn,hnil,_⟩ | ⟨b,c,g1,g2,g3,g4,g5⟩
 ·have:(ρ 1).d = []:=hnil
  rw [this] at hlen; cases hlen
 obtain ⟨row,hrow⟩:∃ row,(ρ 1).d = [row]:=List.length_eq_one_iff.1 hlen
 obtain ⟨f1,f2⟩:=g5 0 row (by simp only [T.den]; rw [hrow]; rfl)
 have hs':c.size = 769:=by rw [g3,kField_len]; simp [T.den,O0.den]
 have hlr:row.length = 769:=by rw [f1.1,kField_len]
 have hcl:c.toList = row:=by
  apply List.ext_getElem?
  intro k
  by_cases hk:k < row.length
  ·have:=f2 k _ (List.getElem?_eq_getElem hk)
   rw [Array.getElem?_toList,List.getElem?_eq_getElem hk]
   simpa using this
  ·rw [List.getElem?_eq_none (by simp; omega),List.getElem?_eq_none (by omega)]
 have hOb:hO b = some (.cells c 151 (0,0)):=by rw [hu]; simp [Hp.union,g2]
 have hFb:hF b = none:=(hd b).resolve_right (by rw [hOb]; simp)
 have hb:At w b c:=hsub.1 b _ (by simp [Hp.union,hFb,hOb])
 have fin:∀ w',(∃ c',At w' b c'∧[c'.toList] = doneD∧Else w w' b)→∃ (ai:Nat) (al:Alt) (ρ':Env),onceC.alts[ai]? = some al∧ρ'.good∧(∀ n,n < onceC.nv→ρ' n = ρ n)∧(Ending.returned (.tuple #[]):Ending) = .returned (al.ret.den ρ')∧al.post (ρ'.upto (onceC.nv + al.k))∧HeapOk ρ' hF al.heap w':=fun w' ⟨c',a',hl',he'⟩=>by
  have hgd:({ d:=doneD }:U).good:=by
   refine ⟨rfl,fun r hr v hv=>?_⟩
   have hr:r ∈ doneD:=hr
   rw [← hl',List.mem_singleton] at hr
   subst hr
   have hh:doneD.headD [] = c'.toList:=by rw [← hl']; rfl
   obtain ⟨k,hk⟩:=List.getElem?_of_mem hv
   have hfit:=done_fits
   rw [hh] at hfit
   have hlt:k < kField.length:=by rw [← hfit.1]; exact (List.getElem?_eq_some_iff.1 hk).1
   exact fits_good' (hfit.2 k _ v (List.getElem?_eq_getElem hlt) hk)
  refine ⟨0,_,ρ.set 2 { d:=doneD },rfl,fun n=>?_,fun n hn=>Env.set_ne ρ _ (by have:onceC.nv = 2:=rfl; omega),rfl,?_,Hp.upd hO b (.cells c' 151 (0,0)),?_,?_,?_,he'.os.trans hsub.2.1,he'.out.trans hsub.2.2⟩
  ·by_cases hn:n = 2
   ·subst hn; rw [Env.set_same]; exact hgd
   ·rw [Env.set_ne ρ _ hn]; exact hg n
  ·show ((ρ.set 2 { d:=doneD }).upto 3 2).d = doneD
   simp [Env.upto,Env.set_same]
  ·intro y
   by_cases hy:y = b
   ·subst hy; exact .inl hFb
   ·rcases hd y with h | h
    ·exact .inl h
    ·exact .inr (by simp [Hp.upd,hy,h])
  ·refine ⟨Hp.upd hO b (.cells c' 151 (0,0)),Hp.emp,Hp.disj_emp _,by funext y; simp [Hp.union,Hp.emp],.inr ⟨b,c',?_,by simp [Hp.upd],?_,?_,?_⟩,trivial⟩
   ·rw [Env.set_ne ρ _ (by omega)]; exact g1
   ·have hfit:=done_fits
    have hh:doneD.headD [] = c'.toList:=by rw [← hl']; rfl
    rw [hh] at hfit
    have:=hfit.1
    rw [kField_len] at this ⊢
    simp [T.den,O0.den] at this ⊢; omega
   ·simp only [T.den,Env.set_same,O0.den]; rw [done_len]; decide
   ·intro i r hi
    simp only [T.den,Env.set_same] at hi
    rw [← hl'] at hi
    match i with
    | 0 =>
     simp only [List.getElem?_cons_zero,Option.some.injEq] at hi
     subst hi
     have hfit:=done_fits
     have hh:doneD.headD [] = c'.toList:=by rw [← hl']; rfl
     rw [hh] at hfit
     exact ⟨hfit,fun k v hv=>by simpa using hv⟩
    | i + 1=>simp at hi
  ·intro y o ho
   by_cases hy:y = b
   ·subst hy
    simp [Hp.union,hFb,Hp.upd] at ho
    rw [← ho]; exact a'
   ·refine he'.blk y hy o (hsub.1 y o ?_)
    simpa [Hp.union,Hp.upd,hy] using ho
 have hargs:(onceC.args.map (SV.den ρ)).toArray = #[.pointer (some ⟨b,0,none⟩),.func (.func 179) #[.pointer (some ⟨b,0,none⟩)] #[]]:=by
  simp [onceC,fArg,SV.den,T.den,O0.den,O1.den,g1,addrOf,denVs]
 rw [hargs]
 rcases hpre with h | h
 ·refine (once_first b c w hb ?_).mono fun e w' ⟨he,hh⟩=>?_
  ·rw [hcl]
   have:[row] = [freshRow]:=hrow.symm.trans h
   exact (List.cons.inj this).1
  ·rw [he]; exact fin w' hh
 ·have hh:[row] = doneD:=hrow.symm.trans h
  have hr0:doneD.headD [] = row:=by rw [← hh]; rfl
  have h0:=done_0
  rw [hr0] at h0
  refine (once_done b 1 (by decide) _ w (hb.cell (by rw [← Array.getElem?_toList,hcl]; exact h0))).mono fun e w' ⟨he,hw⟩=>?_
  rw [he,hw]
  exact fin w ⟨c,hb,by rw [hcl]; exact hh,fun _ _ _ ho=>ho,rfl,rfl⟩
theorem mul_ok:mulC.ok Tryz.prog:=mul_of (by simp [once_ok]) fun ρ hg hp=>by
 obtain ⟨h1,a0,a1,b0,b1⟩:=hp
 simp [o_mul,mulC,onceC]
 obtain ⟨l0,l1⟩:=logT_range a0 a1
 obtain ⟨m0,m1⟩:=logT_range b0 b1
 have hz:∀ h:(ρ 2).i = 0∨(ρ 3).i = 0,0 = mulF (ρ 2).i (ρ 3).i:=fun h=>by rw [mulF,if_pos h]
 have hne:¬ (ρ 1).d = []:=fun h=>by
  have hl:=done_len
  rcases h1 with h' | h' <;> rw [h'] at h
  ·cases h
  ·rw [h] at hl; cases hl
 refine ⟨fun h=>(hne h).elim,fun _=>⟨fun h=>⟨h1,hz (.inl h)⟩,fun n2=>⟨fun h=>⟨h1,hz (.inr h)⟩,fun n3=>⟨List.length_pos_iff.2 hne,h1,fun u _ hu=>?_⟩⟩⟩⟩
 rw [hu]
 have e1:cellX doneD ((ρ 2).i.toNat + 513) = logT (ρ 2).i.toNat:=rfl
 have e2:cellX doneD ((ρ 3).i.toNat + 513) = logT (ρ 3).i.toNat:=rfl
 rw [e1,e2]
 have w:arithOf .add .i64 (logT (ρ 2).i.toNat) (logT (ρ 3).i.toNat) = logT (ρ 2).i.toNat + logT (ρ 3).i.toNat:=by
  simp [arithOf,IntKind.wrap,IntKind.bits,IntKind.signed]; omega
 rw [w]
 refine ⟨by rw [done_len]; decide,a0,a1,b0,b1,by omega,by omega,.inr rfl,?_⟩
 rw [mulF,if_neg (by omega)]; rfl
end Go.Proofs
