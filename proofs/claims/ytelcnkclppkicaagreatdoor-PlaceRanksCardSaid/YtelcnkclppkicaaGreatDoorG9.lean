/- Texts PV, P1, PX, PW, QA, QB, QC, QE, QD, QF, QG, QH, PY, PZ, QM, QI, QJ, QK. -/
import Derived.Test.YtelcnkclppkicaaGreatDoorG8
import Derived.Shelf.SlSortCmp.NoneTotal
import Derived.Deep.QuietTactic
import Derived.BigQuiet
import Derived.Test.YtelcnkclppkicaaGreatDoorProg
import Derived.Ground.SlsfProg
import Derived.Test.YtelcnkclppkicaaGreatDoorG3
import Derived.Test.YtelcnkclppkicaaGreatDoorG7
import Derived.Test.YtelcnkclppkicaaGreatDoorG5
set_option linter.unusedSimpArgs false
set_option linter.unusedVariables false
namespace Go.Proofs
open Go Go.Eng
set_option maxRecDepth 20000
theorem cellXB_map {l:List Bool} {i:Nat}:cellXB [l.map Value.bool] i = l.getD i false:=by
 unfold cellXB
 rw [List.headD_cons,List.getElem?_map,List.getD_eq_getElem?_getD]
 cases l[i]? <;> rfl
theorem seen_bools {l:List Bool} {L:List Int} {n:Nat} (h:boolsP l L) (hn:L.length ≤ n):seenTo [l.map Value.bool] L n:=by
 refine ⟨⟨_,rfl,by rw [List.length_map]; exact h.1⟩,fun x x0 x1=>?_⟩
 rw [cellXB_map,List.take_of_length_le hn]
 have:=h.2 x.toNat (by omega)
 rwa [Int.toNat_of_nonneg x0] at this
theorem ints_len' {D:Rows'}:(ints D).length ≤ D.length:=by simp [ints]
theorem seen_iff {d:Rows'} {L:List Int} {n:Nat} {x:Int} (h:seenTo d L n) (hn:L.length ≤ n) (x0:0 ≤ x) (x1:x < 16):cellXB d x.toNat = true↔x ∈ L:=by
 have:=h.2 x x0 x1
 rwa [List.take_of_length_le hn] at this
theorem seen_pos {d:Rows'} {L:List Int} {n:Nat} (h:seenTo d L n):0 < d.length:=by obtain ⟨⟨row,e,_⟩,_⟩:=h; rw [e]; exact Nat.one_pos
theorem add1 {i:Int} (h0:0 ≤ i) (h1:i < 1000000000000):arithOf .add .i64 i 1 = i + 1:=add64 (by omega) (by omega)
theorem seen_not {d:Rows'} {L:List Int} {n:Nat} {x:Int} (h:seenTo d L n) (hn:L.length ≤ n) (x0:0 ≤ x) (x1:x < 16) (hf:cellXB d x.toNat = false):x ∉ L:=fun hx=>by
 rw [(seen_iff h hn x0 x1).2 hx] at hf; cases hf
theorem rows_or {D:Rows'} {row:List Value} {v:Value} (hr:row ∈ D∨row = [v]) (h:∀ row,row ∈ D→row.length = 1):row.length = 1:=hr.elim (h row) fun h=>by rw [h]; rfl
theorem rows_in {D:Rows'} {row:List Value} (hr:row ∈ D) (h:∀ row,row ∈ D→row.length = 1):row.length = 1:=h row hr
theorem dec_t {b:Bool} {p:Prop} [Decidable p] (h:b = decide p) (hb:b = true):p:=of_decide_eq_true (h ▸ hb)
theorem dec_f {b:Bool} {p:Prop} [Decidable p] (h:b = decide p) (hb:b = false):¬ p:=of_decide_eq_false (h ▸ hb)
theorem len_peersL {L:List Int}:(peersL L).length ≤ 16:=by
 rw [peersL_eq]; unfold peersTo
 exact Nat.le_trans (List.length_filter_le ..) (by simp)
theorem len_chosenF {o L:List Int} {n:Int}:(chosenF o L n).length ≤ 16:=by
 unfold chosenF
 rw [List.length_take,len_sortF]
 have:=len_peersL (L:=L)
 omega
theorem ints_chosen {o L:List Int} {n:Int} {D:Rows'} (h:ints D = chosenF o L n):D.length ≤ 16:=by
 have h1:=congrArg List.length h
 rw [ints_len] at h1
 have:=len_chosenF (o:=o) (L:=L) (n:=n)
 omega
theorem duty_2 {o L:List Int} {self n x:Int} {D:Rows'} {held buried:Bool} (hD:ints D = chosenF o L n) (hx:x = (D.length:Int)) (hn:1 ≤ n) (hm:¬ self ∈ ints D) (hh:held = true) (hb:buried = false) (he:x = n):2 = dutyF o self L n held buried:=by
 have h1:((chosenF o L n).length:Int) = n:=by rw [← hD,ints_len]; omega
 rw [hD] at hm
 unfold dutyF
 rw [hh,hb,if_neg (by simp),if_neg (by omega),if_neg hm,if_pos ⟨rfl,h1⟩]
theorem duty_0 {o L:List Int} {self n x:Int} {D:Rows'} {held buried:Bool} (hD:ints D = chosenF o L n) (hx:x = (D.length:Int)) (hn:1 ≤ n) (hm:¬ self ∈ ints D) (hh:held = true) (hb:buried = false) (he:¬ x = n):0 = dutyF o self L n held buried:=by
 have h1:¬ ((chosenF o L n).length:Int) = n:=by rw [← hD,ints_len]; omega
 rw [hD] at hm
 unfold dutyF
 rw [hh,hb,if_neg (by simp),if_neg (by omega),if_neg hm,if_neg (fun h=>h1 h.2)]
theorem duty_ok (hch:chosenC.ok Tryz.prog):dutyC.ok Tryz.prog:=duty_of (by simp [contains_ok,hch]) fun ρ hg hp=>by
 obtain ⟨hO,⟨hl,h1,hr⟩,hGr,hGd⟩:=hp
 simp only [Nat.reduceAdd] at hl h1 hr
 simp (config:={ maxSteps:=4000000 }) [o_duty,dutyC,chosenC,containsC,chPre,iHpA,intsIn,isInts,gOk,hl,hO,hGr,hGd]
 repeat' (first | with_reducible apply And.intro | with_reducible intro _)
 all_goals first
  | assumption
  | omega
  | exact rows_in (by assumption) (by assumption)
  | exact (by have:=ints_chosen (by assumption); omega)
  | (unfold dutyF; simp_all [ints_len]; done)
  | exact duty_2 (by assumption) (by assumption) (by assumption) (dec_f (by assumption) (by assumption)) (by assumption) (by assumption) (by assumption)
  | exact duty_0 (by assumption) (by assumption) (by assumption) (dec_f (by assumption) (by assumption)) (by assumption) (by assumption) (by assumption)
theorem upTo_len {n:Int}:(upTo n).length = (min (max n 0) 16).toNat:=by simp [upTo]
theorem upTo_congr {i n:Int} (h:min (max i 0) 16 = min (max n 0) 16):upTo i = upTo n:=by unfold upTo; rw [h]
theorem upTo_next {i:Int} {D:Rows'} (hD:ints D = upTo i) (h0:0 ≤ i) (h1:i < 16):ints (D ++ [[.int .i64 i]]) = upTo (arithOf .add .i64 i 1):=by
 rw [add1 h0 (by omega),ints_snoc,hD]
 unfold upTo
 rw [show (min (max (i + 1) 0) 16).toNat = (min (max i 0) 16).toNat + 1 by omega,List.range_succ,List.map_append]
 congr 1
 show [i] = [(((min (max i 0) 16).toNat:Nat):Int)]
 congr 1; omega
theorem upTo_rows {i:Int} {D:Rows'} (hD:ints D = upTo i):D.length ≤ 16:=by
 have h1:=congrArg List.length hD
 rw [ints_len,upTo_len] at h1
 omega
theorem rank_end {o:List Int} {i n:Int} {D E:Rows'} (hE:ints E = chosenF o (ints D) 16) (hD:ints D = upTo i) (h:min (max i 0) 16 = min (max n 0) 16):ints E = rankingF o n:=by
 rw [hE,hD,upTo_congr h]; rfl
theorem ranking_ok (hch:chosenC.ok Tryz.prog):rankingC.ok Tryz.prog:=ranking_of (by simp [hch]) fun ρ hg hp=>by
 obtain ⟨hO,hGr,hGd⟩:=hp
 simp (config:={ maxSteps:=4000000 }) [o_ranking,rankingC,rankingI,chosenC,chPre,iHpA,intsIn,isInts,gOk,hO,hGr,hGd]
 repeat' (first | with_reducible apply And.intro | with_reducible intro _)
 all_goals first
  | assumption
  | omega
  | exact rows_in (by assumption) (by assumption)
  | exact rows_or (by assumption) (by assumption)
  | (rw [add1 (by assumption) (by omega)]; omega)
  | rfl
  | exact (by have:=upTo_rows (by assumption); omega)
  | exact upTo_next (by assumption) (by assumption) (by omega)
  | exact rank_end (by assumption) (by assumption) (by omega)
theorem rankingR_ok (hch:chosenRC.ok Tryz.prog):rankingRC.ok Tryz.prog:=rankingR_of (by simp [hch]) fun ρ hg hp=>by
 obtain ⟨hO,hGr,hGd⟩:=hp
 simp (config:={ maxSteps:=4000000 }) [o_rankingR,rankingRC,rankingC,rankingRI,chosenRC,chosenC,chPre,iHpA,intsIn,isInts,gOk,hO,hGr,hGd]
 repeat' (first | with_reducible apply And.intro | with_reducible intro _)
 all_goals first
  | assumption
  | omega
  | exact rows_in (by assumption) (by assumption)
  | exact rows_or (by assumption) (by assumption)
  | (rw [add1 (by assumption) (by omega)]; omega)
  | rfl
  | exact (by have:=upTo_rows (by assumption); omega)
  | exact upTo_next (by assumption) (by assumption) (by omega)
  | exact rank_end (by assumption) (by assumption) (by omega)
section
variable {o L:List Int}
theorem peersTo_len {L:List Int} {n:Nat}:(peersTo L n).length ≤ n:=by
 unfold peersTo
 exact Nat.le_trans (List.length_filter_le ..) (by simp)
theorem ch_len {D:Rows'} {i:Int} (h:D = (peersTo L i.toNat).map (rkRow o)) (h1:i ≤ 16):D.length ≤ 16:=by
 rw [h,List.length_map]
 have:=peersTo_len (L:=L) (n:=i.toNat)
 omega
theorem ch_add {D v:Rows'} {i:Int} {l:List Bool} (hD:D = (peersTo L i.toNat).map (rkRow o)) (h0:0 ≤ i) (h1:i < 16) (hb:boolsP l L) (hc:cellXB [l.map Value.bool] i.toNat = true) (hv:rowL v 32 = scoreF o i) :
  D ++ [Value.int .i64 i :: (rowL v 32).map (Value.int .u8)] = (peersTo L (arithOf .add .i64 i 1).toNat).map (rkRow o):=by
 have hm:i ∈ L:=(seen_iff (seen_bools hb (Nat.le_refl _)) (Nat.le_refl _) h0 h1).1 hc
 rw [add1 h0 (by omega),show (i + 1).toNat = i.toNat + 1 by omega,peersTo_next,Int.toNat_of_nonneg h0,if_pos hm,List.map_append,hD,hv]; rfl
theorem ch_skip {D:Rows'} {i:Int} {l:List Bool} (hD:D = (peersTo L i.toNat).map (rkRow o)) (h0:0 ≤ i) (h1:i < 16) (hb:boolsP l L) (hc:cellXB [l.map Value.bool] i.toNat = false) :
  D = (peersTo L (arithOf .add .i64 i 1).toNat).map (rkRow o):=by
 have hm:¬ i ∈ L:=seen_not (seen_bools hb (Nat.le_refl _)) (Nat.le_refl _) h0 h1 hc
 rw [add1 h0 (by omega),show (i + 1).toNat = i.toNat + 1 by omega,peersTo_next,Int.toNat_of_nonneg h0,if_neg hm,List.append_nil,hD]
theorem ch_sorted {D E:Rows'} {i:Int} (hO:allM o) (hD:D = (peersTo L i.toNat).map (rkRow o)) (h1:i ≤ 16) (h2:16 ≤ i) (h:∀ o L:List Int,allM o→D = L.map (rkRow o)→(∀ x,x ∈ L→0 ≤ x∧x < 16)→E = (sortF o L).map (rkRow o)):E = (sortF o (peersL L)).map (rkRow o)∧E.length = D.length:=by
 have hi:i.toNat = 16:=by omega
 rw [hi] at hD
 have hE:=h o (peersTo L 16) hO hD (fun x hx=>by have:=peersTo_mem.1 hx; omega)
 exact ⟨hE,by rw [hE,hD,List.length_map,List.length_map,len_sortF]⟩
theorem sort_pre {D:Rows'} {n:Nat} (hO:allM o) (hD:D = (peersTo L n).map (rkRow o)) (hn:n ≤ 16):∃ o:List Int,allM o∧∃ x:List Int,D = x.map (rkRow o)∧∀ y:Int,y ∈ x→0 ≤ y∧y < 16 :=
 ⟨o,hO,_,hD,fun x hx=>by have:=peersTo_mem.1 hx; omega⟩
theorem rk_at {M:List Int} {D:Rows'} {i:Int} (hD:D = M.map (rkRow o)) (h0:0 ≤ i) (h1:i < M.length):cellI D i 0 = M.getD i.toNat 0:=by
 have hl:i.toNat < M.length:=by omega
 subst hD
 rw [List.getD_eq_getElem?_getD,List.getElem?_eq_getElem hl]
 simp [cellI,cellV,List.getElem?_eq_getElem hl,rkRow,vInt]
theorem take_add {M:List Int} {D E:Rows'} {i:Int} (hE:E = M.map (rkRow o)) (hD:ints D = M.take i.toNat) (h0:0 ≤ i) (h1:i < M.length) (hb:i < 1000000):ints (D ++ [[.int .i64 (cellI E i 0)]]) = M.take (arithOf .add .i64 i 1).toNat:=by
 rw [add1 h0 (by omega),show (i + 1).toNat = i.toNat + 1 by omega,take_next (by omega),ints_snoc,hD,rk_at hE h0 h1]
theorem ch_rows {M:List Int} {D:Rows'} {i:Nat} (hD:ints D = M.take i):D.length ≤ i∧D.length ≤ M.length:=by
 have h1:=congrArg List.length hD
 rw [ints_len,List.length_take] at h1
 omega
theorem len_sorted {o L:List Int}:(sortF o (peersL L)).length ≤ 16:=by rw [len_sortF]; exact len_peersL
theorem ch_end {D:Rows'} {i n:Int} (hD:ints D = (sortF o (peersL L)).take i.toNat) (h:i = min (max n 0) ((sortF o (peersL L)).length:Int)):ints D = chosenF o L n:=by
 rw [hD]
 unfold chosenF
 by_cases hn:n.toNat ≤ (sortF o (peersL L)).length
 ·rw [show i.toNat = n.toNat by omega]
 ·rw [List.take_of_length_le (by omega),List.take_of_length_le (by omega)]
end
theorem chosen_ok (hs:sortC.ok Tryz.prog):chosenC.ok Tryz.prog:=chosen_of (by simp [hs,set_ok,rank_ok]) fun ρ hg hp=>by
 obtain ⟨hO,⟨hl,h1,hr⟩,hGr,hGd⟩:=hp
 simp only [Nat.reduceAdd] at hl h1 hr
 simp (config:={ maxSteps:=4000000 }) [o_chosen,chosenC,chosenI,chosenJ,setC,rankC,sortC,chPre,iHpA,intsIn,isInts,gOk,hl,hO,hGr,hGd]
 have hsl:=len_sorted (o:=rowL (ρ 0).d 32) (L:=ints (ρ 4).d)
 repeat' (first | with_reducible apply And.intro | with_reducible intro _)
 all_goals first
  | assumption
  | omega
  | exact rows_in (by assumption) (by assumption)
  | exact rows_or (by assumption) (by assumption)
  | (rw [add1 (by assumption) (by omega)]; omega)
  | rfl
  | exact (by have:=ch_len (by assumption) (by omega); omega)
  | exact ch_add (l:=[_,_,_,_,_,_,_,_,_,_,_,_,_,_,_,_]) (by assumption) (by assumption) (by assumption) (by assumption) (by assumption) (by assumption)
  | exact ch_skip (l:=[_,_,_,_,_,_,_,_,_,_,_,_,_,_,_,_]) (by assumption) (by assumption) (by assumption) (by assumption) (by assumption)
  | exact sort_pre hO (by assumption) (by omega)
  | exact (ch_sorted hO (by assumption) (by assumption) (by assumption) (by assumption)).1
  | (have h:=ch_sorted hO (by assumption) (by assumption) (by assumption) (by assumption); have h2:=congrArg List.length h.1; rw [List.length_map] at h2; have h3:=h.2; split <;> split <;> omega)
  | (have h:=ch_sorted hO (by assumption) (by assumption) (by assumption) (by assumption); have h2:=congrArg List.length h.1; rw [List.length_map] at h2; have h3:=h.2; split <;> omega)
  | exact take_add (by assumption) (by assumption) (by assumption) (by omega) (by omega)
  | exact ch_end (by assumption) (by omega)
  | (have h2:=ch_rows (by assumption); omega)
section
variable {o L:List Int} {D E:Rows'} {n m k b i:Int}
theorem chR_facts (h:chR o L D E n m k):n = (D.length:Int)∧m = (E.length:Int)∧D.length + E.length ≤ 16∧m ≤ max k 0:=by
 obtain ⟨⟨h1,_⟩,⟨h2,_⟩,_,_,h5,h6⟩:=h
 have h7:=congrArg List.length h6
 have h8:=len_sorted (o:=o) (L:=L)
 rw [List.length_append,len_sortF,ints_len,ints_len] at h7
 exact ⟨h1,h2,by omega,h5⟩
theorem nodup_ne {l:List Int} (h:l.Nodup) {i j:Nat} (hi:i < l.length) (hj:j < l.length) (hne:i ≠ j):l[i] ≠ l[j]:=by
 have hp:=List.pairwise_iff_getElem.1 h
 rcases Nat.lt_or_gt_of_ne hne with h1 | h1
 ·exact hp i j hi hj h1
 ·exact (hp j i hj hi h1).symm
theorem best_facts {l:List Int} {b n:Nat} (h:bestP o l b n):b < n∧n ≤ l.length:=⟨h.1,h.2.1⟩
theorem best_len {b n:Nat} (h:bestP o (ints D) b n):b < n∧n ≤ D.length:=by have:=best_facts h; rwa [ints_len] at this
theorem chR_start (hn:n = (D.length:Int)) (hD:ints D = peersL L) (hr:∀ row ∈ D,row.length = 1):chR o L D [] n 0 k:=by
 refine ⟨⟨hn,hr⟩,⟨rfl,fun r h=>by cases h⟩,?_,?_,by omega,?_⟩
 ·rw [hD]; exact peersTo_nodup
 ·rw [hD]; exact fun x hx=>⟨(peersL_mem.1 hx).1,(peersL_mem.1 hx).2.1⟩
 ·rw [hD]; rfl
theorem chR_rowE {row:List Value} (hr:row ∈ E) (h:chR o L D E n m k):row.length = 1:=h.2.1.2 row hr
theorem best_start (h:chR o L D E n m k) (hn:0 < n):bestP o (ints D) 0 1:=by
 have hc:=chR_facts h
 refine ⟨by omega,by rw [ints_len]; omega,fun j hj hne=>by omega⟩
theorem best_t {x:Bool} (hb:bestP o (ints D) b.toNat i.toNat) (b0:0 ≤ b) (i1:1 ≤ i) (hi:i < D.length) (hu:x = betF o (cellI D i 0) (cellI D b 0)) (hx:x = true) (hs:i < 1000000):bestP o (ints D) i.toNat (arithOf .add .i64 i 1).toNat:=by
 have hf:=best_len hb
 rw [hx,ints_at (by omega) hi,ints_at b0 (by omega)] at hu
 rw [add1 (by omega) (by omega),show (i + 1).toNat = i.toNat + 1 by omega]
 refine ⟨by omega,by rw [ints_len]; omega,fun j hj hne=>?_⟩
 by_cases hjb:j = b.toNat
 ·rw [hjb]; exact hu.symm
 ·exact bet_trans hu.symm (hb.2.2 j (by omega) hjb)
theorem best_f {x:Bool} (h:chR o L D E n m k) (hb:bestP o (ints D) b.toNat i.toNat) (b0:0 ≤ b) (i1:1 ≤ i) (hi:i < D.length) (hu:x = betF o (cellI D i 0) (cellI D b 0)) (hx:x = false) (hs:i < 1000000):bestP o (ints D) b.toNat (arithOf .add .i64 i 1).toNat:=by
 have hf:=best_len hb
 rw [hx,ints_at (by omega) hi,ints_at b0 (by omega)] at hu
 rw [add1 (by omega) (by omega),show (i + 1).toNat = i.toNat + 1 by omega]
 refine ⟨by omega,by rw [ints_len]; omega,fun j hj hne=>?_⟩
 by_cases hji:j = i.toNat
 ·subst hji
  have hne2:(ints D).getD b.toNat 0 ≠ (ints D).getD i.toNat 0:=by
   have hl:=ints_len (d:=D)
   rw [List.getD_eq_getElem?_getD,List.getD_eq_getElem?_getD,List.getElem?_eq_getElem (by omega),List.getElem?_eq_getElem (by omega),Option.getD_some,Option.getD_some]
   exact fun he=>nodup_ne h.2.2.1 (by omega) (by omega) (fun h'=>hne h'.symm) he
  rcases bet_total (o:=o) hne2 with h' | h'
  ·exact h'
  ·rw [h'] at hu; cases hu
 ·exact hb.2.2 j (by omega) hne
theorem chR_next {cap:Int} (h:chR o L D E n m k) (hmk:m < k) (b0:0 ≤ b) (hb:bestP o (ints D) b.toNat i.toNat) (hi:n ≤ i) (hc:(D.length:Int) ≤ cap) (hs:b < 1000000) :
  chR o L (D.take b.toNat ++ (D.drop (if cap = arithOf .add .i64 b 1 then 0 else arithOf .add .i64 b 1).toNat).take (n - arithOf .add .i64 b 1).toNat) (E ++ [[.int .i64 (cellI D b 0)]]) (b + (n - arithOf .add .i64 b 1)) (m + 1) k:=by
 have hf:=best_len hb
 have hF:=chR_facts h
 obtain ⟨⟨h1,r1⟩,⟨h2,r2⟩,h3,h4,h5,h6⟩:=h
 rw [add1 b0 (by omega)]
 have hlist:D.take b.toNat ++ (D.drop (if cap = b + 1 then 0 else b + 1).toNat).take (n - (b + 1)).toNat = D.take b.toNat ++ D.drop (b.toNat + 1):=by
  congr 1
  split
  ·rw [show (n - (b + 1)).toNat = 0 by omega,List.take_zero,List.drop_eq_nil_of_le (by omega)]
  ·rw [show (b + 1).toNat = b.toNat + 1 by omega,List.take_of_length_le (by rw [List.length_drop]; omega)]
 rw [hlist]
 have hin:ints (D.take b.toNat ++ D.drop (b.toNat + 1)) = (ints D).take b.toNat ++ (ints D).drop (b.toNat + 1):=by simp [ints,List.map_take,List.map_drop]
 have hb':bestP o (ints D) b.toNat (ints D).length:=by rw [ints_len,show D.length = i.toNat by omega]; exact hb
 have hsub:((ints D).take b.toNat ++ (ints D).drop (b.toNat + 1)).Sublist (ints D):=by
  conv=>rhs; rw [← List.take_append_drop b.toNat (ints D)]
  refine List.Sublist.append (List.Sublist.refl _) ?_
  rw [← List.drop_drop]
  exact List.drop_sublist 1 _
 refine ⟨⟨?_,?_⟩,⟨?_,?_⟩,?_,?_,by omega,?_⟩
 ·rw [List.length_append,List.length_take,List.length_drop]; omega
 ·intro row hr
  rcases List.mem_append.1 hr with hr | hr
  ·exact r1 row (List.mem_of_mem_take hr)
  ·exact r1 row (List.mem_of_mem_drop hr)
 ·rw [List.length_append]; simp; omega
 ·intro row hr
  rcases List.mem_append.1 hr with hr | hr
  ·exact r2 row hr
  ·rw [List.mem_singleton.1 hr]; rfl
 ·rw [hin]; exact h3.sublist hsub
 ·rw [hin]; exact fun x hx=>h4 x (hsub.subset hx)
 ·rw [hin,ints_snoc,List.append_assoc,ints_at b0 (by omega),← h6,sortF_best h3 hb']; rfl
theorem chR_end1 (h:chR o L D E n m k) (hk:k ≤ m):ints E = chosenF o L k:=by
 have hF:=chR_facts h
 obtain ⟨⟨h1,r1⟩,⟨h2,r2⟩,h3,h4,h5,h6⟩:=h
 unfold chosenF
 rw [← h6,List.take_append_of_le_length (by rw [ints_len]; omega),List.take_of_length_le (by rw [ints_len]; omega)]
theorem chR_end2 (h:chR o L D E n m k) (hn:n ≤ 0):ints E = chosenF o L k:=by
 have hF:=chR_facts h
 obtain ⟨⟨h1,r1⟩,⟨h2,r2⟩,h3,h4,h5,h6⟩:=h
 have hD:D = []:=List.length_eq_zero_iff.1 (by omega)
 subst hD
 unfold chosenF
 rw [← h6,List.take_of_length_le (by rw [List.length_append,len_sortF,ints_len,ints_len]; simp; omega)]
 simp [ints,sortF]
end
theorem chosenR_ok:chosenRC.ok Tryz.prog:=chosenR_of (by simp [peers_ok,betterR_ok]) fun ρ hg hp=>by
 obtain ⟨hO,⟨hl,h1,hr⟩,hGr,hGd⟩:=hp
 simp only [Nat.reduceAdd] at hl h1 hr
 simp (config:={ maxSteps:=4000000 }) [o_chosenR,chosenRC,chosenC,chosenRI,chosenRJ,peersC,betterRC,chPre,iHpA,intsIn,isInts,gOk,hl,hO,hGr,hGd]
 repeat' (first | with_reducible apply And.intro | with_reducible intro _)
 all_goals first
  | assumption
  | omega
  | exact rows_in (by assumption) (by assumption)
  | exact chR_rowE (by assumption) (by assumption)
  | exact chR_start (by assumption) (by assumption) (by assumption)
  | (have hc:=chR_facts (by assumption); omega)
  | (have hc:=chR_facts (by assumption); have hb:=best_len (by assumption); omega)
  | (have hc:=chR_facts (by assumption); have hb:=best_len (by assumption); rw [add1 (by omega) (by omega)]; omega)
  | (have hc:=chR_facts (by assumption); have hb:=best_len (by assumption); rw [add1 (by omega) (by omega)]; split <;> omega)
  | exact best_start (by assumption) (by assumption)
  | (have hc:=chR_facts (by assumption); exact best_t (by assumption) (by assumption) (by assumption) (by omega) (by assumption) (by assumption) (by omega))
  | (have hc:=chR_facts (by assumption); exact best_f (by assumption) (by assumption) (by assumption) (by assumption) (by omega) (by assumption) (by assumption) (by omega))
  | (have hc:=chR_facts (by assumption); have hb:=best_len (by assumption); exact chR_next (by assumption) (by assumption) (by assumption) (by assumption) (by assumption) (by assumption) (by omega))
  | exact chR_end1 (by assumption) (by assumption)
  | exact chR_end2 (by assumption) (by assumption)
end Go.Proofs

set_option linter.unusedSimpArgs false
set_option linter.unusedVariables false
namespace Go.Proofs
open Go Go.Eng Go.RowKit Go.Lib Go.Sort
def twoW (W:World) (p q:Int) (xs ys:List Int):World:=(W.alloc (Obj.cells (Value.int .i64 p :: xs.map (Value.int .u8)).toArray 153)).alloc (Obj.cells (Value.int .i64 q :: ys.map (Value.int .u8)).toArray 153)
theorem two_fst {W:World} {p q:Int} {xs ys:List Int}:(twoW W p q xs ys).heap[W.heap.size]? = some (Obj.cells (Value.int .i64 p :: xs.map (Value.int .u8)).toArray 153):=by
 simp only [twoW,World.alloc]
 rw [Array.getElem?_push,if_neg (by simp),Array.getElem?_push,if_pos rfl]
theorem two_snd {W:World} {p q:Int} {xs ys:List Int}:(twoW W p q xs ys).heap[W.heap.size + 1]? = some (Obj.cells (Value.int .i64 q :: ys.map (Value.int .u8)).toArray 153):=by
 simp only [twoW,World.alloc]
 rw [Array.getElem?_push,if_pos (by simp)]
theorem two_at {W:World} {b:Nat} {p:Int} {xs:List Int} {ty:TypeId} (h:W.heap[b]? = some (Obj.cells (Value.int .i64 p :: xs.map (Value.int .u8)).toArray ty)) (n j:Nat) (x:Int) (hx:xs[j]? = some x):(W.drewN n).cell? ((⟨b,1,none⟩:Addr).add j) = some (.int .u8 x):=by
 have e:((⟨b,1,none⟩:Addr).add j) = ⟨b,1 + j,none⟩:=by
  unfold Addr.add
  by_cases hj0:j = 0
  ·subst hj0; simp
  ·simp [hj0]
 have h':(W.drewN n).heap[b]? = some (Obj.cells (Value.int .i64 p :: xs.map (Value.int .u8)).toArray ty):=h
 rw [e]
 simp only [World.cell?,h']
 rw [show 1 + j = j + 1 by omega]
 simp [hx]
theorem two_zero {W:World} {b:Nat} {p:Int} {xs:List Int} {ty:TypeId} (h:W.heap[b]? = some (Obj.cells (Value.int .i64 p :: xs.map (Value.int .u8)).toArray ty)) (n:Nat):(W.drewN n).cell? ⟨b,0,none⟩ = some (.int .i64 p):=by
 have h':(W.drewN n).heap[b]? = some (Obj.cells (Value.int .i64 p :: xs.map (Value.int .u8)).toArray ty):=h
 simp only [World.cell?,h']
 simp
set_option maxHeartbeats 2000000 in
set_option maxRecDepth 100000 in
theorem cmp_calls (p q:Int) (xs ys:List Int) (hx:xs.length = 32) (hy:ys.length = 32) (W:World) :
  Calls Tryz.prog 81 #[.agg (Value.int .i64 p :: xs.map (Value.int .u8)).toArray,.agg (Value.int .i64 q :: ys.map (Value.int .u8)).toArray] W fun e w' =>
   e = .returned (.int .i64 (if compareBytes (Lib.bytesOf xs) (Lib.bytesOf ys) = 0 then RowKit.wrap64 (p - q) else compareBytes (Lib.bytesOf xs) (Lib.bytesOf ys)))∧∃ n os',w' = grow (W.drewN n) os':=by
 have hc:=fun (a b:Addr) (w:World) h1 h2=>bcmp_calls a b xs ys 32 32 w h1 h2
 rw [hx,hy] at hc
 have c1:=two_at (two_fst (W:=W) (p:=p) (q:=q) (xs:=xs) (ys:=ys))
 have c2:=two_at (two_snd (W:=W) (p:=p) (q:=q) (xs:=xs) (ys:=ys))
 have c3:=two_zero (two_fst (W:=W) (p:=p) (q:=q) (xs:=xs) (ys:=ys))
 have c4:=two_zero (two_snd (W:=W) (p:=p) (q:=q) (xs:=xs) (ys:=ys))
 have hg:∀ n,∃ m os',(twoW W p q xs ys).drewN n = grow (W.drewN m) os':=fun n=>⟨n,_,by rw [twoW,alloc_eq_grow,alloc_eq_grow,grow_grow]; rfl⟩
 unfold twoW at c1 c2 c3 c4 hg
 generalize compareBytes (Lib.bytesOf xs) (Lib.bytesOf ys) = r at hc ⊢
 go_enter Tryz.func81,Tryz.ntmps81
 go_wp2
 go_quiet ((go_at_call 118; refine Calls.quiet_of_same (hc _ _ _ ?_ ?_); exact c1 _; exact c2 _))
 go_wp2
 all_goals go_ret
 all_goals refine ⟨?_,hg nq⟩
 all_goals simp_all
end Go.Proofs

namespace Go.Proofs
open Go Go.Shelf Go.RowKit Go.Lib Go.Sort
def sortRkL_ren:Go.Shelf.Ren:=⟨fun | 6=>83 | 15=>120 | 14=>119 | 28=>148 | 29=>149 | 20=>140 | 21=>141 | 22=>142 | 23=>143 | 24=>144 | 25=>145 | 26=>146 | 27=>147 | 46=>172 | 47=>173 | 48=>174 | 49=>175 | 50=>176 | 57=>186 | n=>n,fun | 22=>156 | 24=>153 | 25=>155 | 3=>3 | 39=>187 | 0=>0 | 53=>131 | 55=>113 | 4=>4 | 46=>234 | 45=>233 | 50=>238 | 5=>5 | 9=>9 | 66=>258 | 70=>262 | 76=>271 | 77=>272 | n=>n,fun | n=>n⟩
theorem sortRkL:SlLaysF0.n6 Tryz.prog sortRkL_ren:={
 mixed:=by kernel_rfl
 f6:=⟨Tryz.f83.name,by decide,Tryz.func83.trans (congrArg some (by kernel_rfl))⟩
 f14:=⟨Tryz.f119.name,by decide,Tryz.func119.trans (congrArg some (by kernel_rfl))⟩
 f15:=Tryz.func120.trans (congrArg some (by kernel_rfl))
 f20:=⟨Tryz.f140.name,by decide,Tryz.func140.trans (congrArg some (by kernel_rfl))⟩
 f21:=⟨Tryz.f141.name,by decide,Tryz.func141.trans (congrArg some (by kernel_rfl))⟩
 f22:=⟨Tryz.f142.name,by decide,Tryz.func142.trans (congrArg some (by kernel_rfl))⟩
 f23:=⟨Tryz.f143.name,by decide,Tryz.func143.trans (congrArg some (by kernel_rfl))⟩
 f24:=⟨Tryz.f144.name,by decide,Tryz.func144.trans (congrArg some (by kernel_rfl))⟩
 f25:=⟨Tryz.f145.name,by decide,Tryz.func145.trans (congrArg some (by kernel_rfl))⟩
 f26:=⟨Tryz.f146.name,by decide,Tryz.func146.trans (congrArg some (by kernel_rfl))⟩
 f27:=⟨Tryz.f147.name,by decide,Tryz.func147.trans (congrArg some (by kernel_rfl))⟩
 f28:=Tryz.func148.trans (congrArg some (by kernel_rfl))
 f29:=Tryz.func149.trans (congrArg some (by kernel_rfl))
 f46:=⟨Tryz.f172.name,by decide,Tryz.func172.trans (congrArg some (by kernel_rfl))⟩
 f47:=Tryz.func173.trans (congrArg some (by kernel_rfl))
 f48:=Tryz.func174.trans (congrArg some (by kernel_rfl))
 f49:=⟨Tryz.f175.name,by decide,Tryz.func175.trans (congrArg some (by kernel_rfl))⟩
 f50:=⟨Tryz.f176.name,by decide,Tryz.func176.trans (congrArg some (by kernel_rfl))⟩
 f57:=⟨Tryz.f186.name,by decide,Tryz.func186.trans (congrArg some (by kernel_rfl))⟩
 t0:=Tryz.underlying0
 a0:=Tryz.isAgg0
 z0:=Tryz.sizeOf0
 v0:=Tryz.zeroValue0
 t3:=Tryz.underlying3
 a3:=Tryz.isAgg3
 z3:=Tryz.sizeOf3
 v3:=Tryz.zeroValue3
 t4:=Tryz.underlying4
 a4:=Tryz.isAgg4
 z4:=Tryz.sizeOf4
 v4:=Tryz.zeroValue4
 t5:=Tryz.underlying5
 a5:=Tryz.isAgg5
 z5:=Tryz.sizeOf5
 v5:=Tryz.zeroValue5
 t9:=Tryz.underlying9
 a9:=Tryz.isAgg9
 z9:=Tryz.sizeOf9
 v9:=Tryz.zeroValue9
 t22:=Tryz.underlying156
 a22:=Tryz.isAgg156
 z22:=Tryz.sizeOf156
 v22:=Tryz.zeroValue156
 t25:=Tryz.underlying155
 a25:=Tryz.isAgg155
 z25:=Tryz.sizeOf155
 v25:=Tryz.zeroValue155
 t39:=Tryz.underlying187
 a39:=Tryz.isAgg187
 z39:=Tryz.sizeOf187
 v39:=Tryz.zeroValue187
 t45:=Tryz.underlying233
 a45:=Tryz.isAgg233
 z45:=Tryz.sizeOf233
 v45:=Tryz.zeroValue233
 t46:=Tryz.underlying234
 a46:=Tryz.isAgg234
 z46:=Tryz.sizeOf234
 v46:=Tryz.zeroValue234
 t50:=Tryz.underlying238
 a50:=Tryz.isAgg238
 z50:=Tryz.sizeOf238
 v50:=Tryz.zeroValue238
 t53:=Tryz.underlying131
 a53:=Tryz.isAgg131
 z53:=Tryz.sizeOf131
 v53:=Tryz.zeroValue131
 t55:=Tryz.underlying113
 a55:=Tryz.isAgg113
 z55:=Tryz.sizeOf113
 v55:=Tryz.zeroValue113
 t66:=Tryz.underlying258
 a66:=Tryz.isAgg258
 z66:=Tryz.sizeOf258
 v66:=Tryz.zeroValue258
 t70:=Tryz.underlying262
 a70:=Tryz.isAgg262
 z70:=Tryz.sizeOf262
 v70:=Tryz.zeroValue262
 t76:=Tryz.underlying271
 a76:=Tryz.isAgg271
 z76:=Tryz.sizeOf271
 v76:=Tryz.zeroValue271
 t77:=Tryz.underlying272
 a77:=Tryz.isAgg272
 z77:=Tryz.sizeOf272
 v77:=Tryz.zeroValue272 }
end Go.Proofs

set_option linter.unusedSimpArgs false
set_option linter.unusedVariables false
namespace Go.Proofs
open Go Go.Eng Go.Shelf Go.RowKit Go.Lib Go.Sort
def encK (o:List Int) (p:Fin 16):List Value:=rkRow o (p.val:Int)
def cfK (o:List Int) (a b:Fin 16):Int:=cmpF o (a.val:Int) (b.val:Int)
theorem ltK {o:List Int} {a b:Fin 16}:ltOf (cfK o) a b = betF o (a.val:Int) (b.val:Int):=by unfold ltOf cfK; rw [bet_cmp]
theorem swoK (o:List Int):SWO (ltOf (cfK o)) where
 irrefl x:=by rw [ltK]; exact bet_irrefl
 trans x y z h1 h2:=by rw [ltK] at *; exact bet_trans h1 h2
 ntrans x y z h1 h2:=by
  rw [ltK] at *
  have e1:(!betF o (x.val:Int) (y.val:Int)) = true:=by rw [h1]; rfl
  have e2:(!betF o (y.val:Int) (z.val:Int)) = true:=by rw [h2]; rfl
  rw [le_cmpF] at e1 e2
  have e3:(!betF o (x.val:Int) (z.val:Int)) = true:=by
   rw [le_cmpF]
   by_cases c1:cmpF o (y.val:Int) (x.val:Int) = 0
   ·rw [← cmpF_zero.1 c1]; exact e2
   ·by_cases c2:cmpF o (z.val:Int) (y.val:Int) = 0
    ·rw [cmpF_zero.1 c2]; exact e1
    ·have:=cmpF_trans (o:=o) (a:=(z.val:Int)) (b:=(y.val:Int)) (c:=(x.val:Int)) (by omega) (by omega)
     omega
  simpa using e3
theorem totK (o:List Int) (x y:Fin 16) (h1:ltOf (cfK o) x y = false) (h2:ltOf (cfK o) y x = false):x = y:=by
 rw [ltK] at h1 h2
 by_cases h:x = y
 ·exact h
 ·have hv:(x.val:Int) ≠ (y.val:Int):=fun e=>h (Fin.ext (by omega))
  rcases bet_total (o:=o) hv with e | e
  ·rw [e] at h1; cases h1
  ·rw [e] at h2; cases h2
theorem fit_rk {o:List Int} {p:Int}:fitsRow kRk (rkRow o p):=by
 refine ⟨by rw [rkRow_len]; rfl,fun c k v hk hv=>?_⟩
 cases c with
 | zero =>
  simp only [kRk,rkRow,List.getElem?_cons_zero,Option.some.injEq] at hk hv
  subst hk hv; rfl
 | succ c =>
  simp only [kRk,rkRow,List.getElem?_cons_succ] at hk hv
  rw [List.getElem?_replicate] at hk
  split at hk
  ·simp only [Option.some.injEq] at hk
   rw [List.getElem?_map] at hv
   obtain ⟨z,_,rfl⟩:=Option.map_eq_some_iff.1 hv
   subst hk; rfl
  ·cases hk
theorem rk_cell {o:List Int} {p:Int}:∀ v ∈ rkRow o p,v.oneCell' = true:=fun v hv=>by
 rcases List.mem_cons.1 hv with rfl | hv
 ·rfl
 ·obtain ⟨z,_,rfl⟩:=List.mem_map.1 hv; rfl
def toFin (x:Int):Fin 16:=⟨x.toNat % 16,by omega⟩
theorem toFin_val {x:Int} (h:0 ≤ x∧x < 16):((toFin x).val:Int) = x:=by simp only [toFin]; omega
theorem fin_get {M:List Int} {d:Array (Fin 16)} (h:d.toList.map (fun p=>(p.val:Int)) = M) {i:Nat} (hi:i < d.size):M[i]? = some ((d[i]!).val:Int):=by
 rw [← h,List.getElem?_map,List.getElem?_eq_getElem (by simpa using hi),Option.map_some]
 rw [getElem!_pos d i hi]; rfl
theorem flatS_at {o:List Int} {M:List Int} {d:Array (Fin 16)} (h:d.toList.map (fun p=>(p.val:Int)) = M) {i k:Nat} {row:List Value} {v:Value} (hr:(M.map (rkRow o))[i]? = some row) (hv:row[k]? = some v) :
  i < d.size∧k < 33∧(flatK (encK o) 33 d)[i * 33 + k]! = v:=by
 rw [List.getElem?_map] at hr
 obtain ⟨x,hx,rfl⟩:=Option.map_eq_some_iff.1 hr
 have hi:i < d.size:=by
  have:=(List.getElem?_eq_some_iff.1 hx).1
  rw [← h] at this; simpa using this
 have hk:k < 33:=by
  have:=(List.getElem?_eq_some_iff.1 hv).1
  rwa [rkRow_len] at this
 rw [fin_get h hi,Option.some.injEq] at hx
 refine ⟨hi,hk,?_⟩
 have hlt:i * 33 + k < d.size * 33:=by omega
 rw [get_flatK _ _ _ _ hlt,show (i * 33 + k) / 33 = i by omega,show (i * 33 + k) % 33 = k by omega]
 unfold encK
 rw [hx,List.getElem!_eq_getElem?_getD,hv]; rfl
theorem holdsK_rows {o:List Int} {L:List Int} {d:Array (Fin 16)} (h:d.toList.map (fun p=>(p.val:Int)) = L) {w:World} {b:Nat} {c:Array Value} {ty:TypeId} (hb:w.heap[b]? = some (.cells c ty (0,0))) (hr:rowsAt c 0 kRk (L.map (rkRow o))):HoldsK (encK o) 33 w b 0 d:=by
 intro j hj
 rw [size_flatK] at hj
 have hi:j / 33 < d.size:=by omega
 have hrow:(L.map (rkRow o))[j / 33]? = some (rkRow o ((d[j / 33]!).val:Int)):=by rw [List.getElem?_map,fin_get h hi]; rfl
 have hkl:j % 33 < (rkRow o ((d[j / 33]!).val:Int)).length:=by rw [rkRow_len]; omega
 have hv:=(hr _ _ hrow).2 (j % 33) _ (List.getElem?_eq_getElem hkl)
 have hf:=(flatS_at h hrow (List.getElem?_eq_getElem hkl)).2.2
 rw [show j / 33 * 33 + j % 33 = j by omega] at hf
 have hlen:kRk.length = 33:=rfl
 rw [hlen,show 0 + j / 33 * 33 + j % 33 = j by omega] at hv
 refine ⟨?_,by simp [World.frozen?,hb]⟩
 show w.cell? ⟨b,0 + j,none⟩ = some (id (flatK (encK o) 33 d)[j]!)
 simp only [World.cell?,hb,Nat.zero_add,id]
 rw [hf,hv]; rfl
theorem sortW_heap {o:List Int} {w:World} {b n:Nat} {d:Array (Fin 16)} {os:Array Obj} {c:Array Value} {ty:TypeId} (hb:w.heap[b]? = some (.cells c ty (0,0))) :
  (sortWorldK (encK o) 33 w b 0 n d os).heap[b]? = some (.cells (putCells id 0 (flatK (encK o) 33 d) c) ty (0,0)):=by
 have hlt:b < w.heap.size:=(Array.getElem?_eq_some_iff.1 hb).1
 unfold sortWorldK grow putRowK putRow mapBlock
 have e:(Go.Sort.ahead w n).heap = w.heap:=rfl
 simp only [e]
 rw [Array.getElem?_append_left (by simpa using hlt),Array.getElem?_modify,if_pos rfl,hb]; rfl
theorem sortW_other {o:List Int} {w:World} {b x n:Nat} {d:Array (Fin 16)} {os:Array Obj} {X:Obj} (hx:w.heap[x]? = some X) (hne:x ≠ b):(sortWorldK (encK o) 33 w b 0 n d os).heap[x]? = some X:=by
 have hlt:x < w.heap.size:=(Array.getElem?_eq_some_iff.1 hx).1
 unfold sortWorldK grow putRowK putRow mapBlock
 have e:(Go.Sort.ahead w n).heap = w.heap:=rfl
 simp only [e]
 rw [Array.getElem?_append_left (by simpa using hlt),Array.getElem?_modify,if_neg (Ne.symm hne),hx]
theorem sortW_rows {o:List Int} {M:List Int} {d:Array (Fin 16)} (h:d.toList.map (fun p=>(p.val:Int)) = M) {c:Array Value} (hc:d.size * 33 ≤ c.size):rowsAt (putCells id 0 (flatK (encK o) 33 d) c) 0 kRk (M.map (rkRow o)):=by
 intro i row hi
 have hfit:fitsRow kRk row:=by
  rw [List.getElem?_map] at hi
  obtain ⟨x,_,rfl⟩:=Option.map_eq_some_iff.1 hi
  exact fit_rk
 refine ⟨hfit,fun k v hv=>?_⟩
 obtain ⟨h1,h2,h3⟩:=flatS_at h hi hv
 have hlen:kRk.length = 33:=rfl
 rw [hlen,Nat.zero_add]
 have hlt:i * 33 + k < d.size * 33:=by omega
 unfold putCells
 rw [Array.getElem?_mapIdx,Array.getElem?_eq_getElem (by omega),Option.map_some,if_pos ⟨by omega,by rw [size_flatK]; omega⟩,Nat.sub_zero,h3]; rfl
theorem cmpK (o:List Int) (ho:allM o) (x y:Fin 16) (W:World):Calls Tryz.prog 81 #[.agg (encK o x).toArray,.agg (encK o y).toArray] W fun e w'=>e = .returned (.int .i64 (cfK o x y))∧∃ q os',w' = grow (W.drewN q) os':=by
 refine (cmp_calls (x.val:Int) (y.val:Int) (scoreF o x.val) (scoreF o y.val) scoreF_len scoreF_len W).mono fun e w' h=>?_
 obtain ⟨rfl,h⟩:=h
 refine ⟨?_,h⟩
 rw [cmp_bytes scoreF_allM scoreF_allM]
 have hx:=x.isLt
 have hy:=y.isLt
 unfold cfK cmpF
 by_cases he:scoreF o (x.val:Int) = scoreF o (y.val:Int)
 ·rw [if_pos (cmpL_zero.2 he),if_pos he]
  have:RowKit.wrap64 ((x.val:Int) - (y.val:Int)) = (x.val:Int) - (y.val:Int):=by unfold RowKit.wrap64; omega
  rw [this]
 ·rw [if_neg (fun h=>he (cmpL_zero.1 h)),if_neg he]
theorem lay_calls (o:List Int) (ho:allM o) (b cap:Nat) (d:Array (Fin 16)) (w:World) (hH:HoldsK (encK o) 33 w b 0 d) (hb:b < w.heap.size) (hsz:d.size < 4611686018427387904) :
  Calls Tryz.prog 83 #[.slice (some ⟨b,0,none⟩) d.size cap,.func (.func 81) #[] #[]] w fun e w'=>e = .returned (.tuple #[])∧∃ n os,w' = sortWorldK (encK o) 33 w b 0 n (d.toList.mergeSort fun x y=>!(ltOf (cfK o)) y x).toArray os :=
 AnyQ.slices_SortFunc_total sortRkL 33 Tryz.isAgg153 Tryz.sizeOf153 (encK o) (fun _=>rkRow_len) (fun _=>rk_cell) (cfK o) (swoK o) 81 #[] b 0 cap d w (fun args w=>Tryz.call81 args w) (fun m os dk hs x y=>cmpK o ho x y _) hH hb hsz (totK o)
theorem none_calls (p:Option Addr) (cap:Nat) (fv:Value) (w:World):Calls Tryz.prog 83 #[.slice p 0 cap,fv] w fun e w'=>e = .returned (.tuple #[])∧w' = w:=AnyF.slices_SortFunc_none sortRkL p cap fv w
theorem sorted_val {o L:List Int} (hL:∀ x ∈ L,0 ≤ x∧x < 16):(((L.map toFin).mergeSort fun x y=>!(ltOf (cfK o)) y x).map fun p=>(p.val:Int)) = sortF o L:=by
 have hv:(L.map toFin).map (fun p=>(p.val:Int)) = L:=by
  rw [List.map_map]
  conv=>rhs; rw [← List.map_id L]
  exact List.map_congr_left fun x hx=>toFin_val (hL x hx)
 rw [List.map_mergeSort (s:=fun a b=>!betF o b a) (fun a _ b _=>by rw [ltK]),hv]; rfl
theorem sortF_congr {o o' L:List Int} (h:L.map (rkRow o) = L.map (rkRow o')):(sortF o L).map (rkRow o) = (sortF o' L).map (rkRow o'):=by
 have h1:∀ x ∈ L,rkRow o x = rkRow o' x:=List.map_inj_left.1 h
 have hsc:∀ x ∈ L,scoreF o x = scoreF o' x:=fun x hx=>by
  have h2:=h1 x hx
  simp only [rkRow,List.cons.injEq,true_and] at h2
  have h3:=congrArg (List.map vInt) h2
  rw [List.map_map,List.map_map] at h3
  have e:(vInt ∘ Value.int IntKind.u8) = id:=rfl
  rwa [e,List.map_id,List.map_id] at h3
 have hs:sortF o L = sortF o' L:=by
  have:=List.map_mergeSort (r:=fun a b=>!betF o b a) (s:=fun a b=>!betF o' b a) (f:=id) (l:=L) (fun a ha b hb=>by simp only [id,betF,hsc a ha,hsc b hb])
  rwa [List.map_id,List.map_id] at this
 rw [← hs]
 exact List.map_congr_left fun x hx=>h1 x (mem_sortF.1 hx)
theorem sort_ok:sortC.ok Tryz.prog:=by
 refine ⟨fun args w=>Tryz.call83 args w,fun ρ w hF hO hg hd hw hs hro hp=>?_⟩
 obtain ⟨hl,hb1,o,L,ho,hD,hL⟩:=hp
 obtain ⟨h1,h2,hdis,hu,harr,_⟩:=hs
 have huniq:∀ {o' L':List Int},(ρ 3).d = L'.map (rkRow o')→L' = L:=fun {o' L'} h=>by
  have e:=congrArg ints (h.symm.trans hD)
  rwa [rows_int,rows_int] at e
 have hlen:(ρ 1).i = L.length:=by rw [hl,hD,List.length_map]
 -- the answer, once the rows are known
 have key:∀ (w':World) (hO':Hp),Hp.disj hF.h hO'→SH.den (ρ.set 4 { d:=(sortF o L).map (rkRow o) }) (rkHp 0 4 2) hO'→(Hp.union hF.h hO').sub w'→hF.wi w' →
   ∃ (ai:Nat) (al:Alt) (ρ':Env),sortC.alts[ai]? = some al∧ρ'.good∧(∀ n,n < sortC.nv→ρ' n = ρ n)∧(Ending.returned (.tuple #[]):Ending) = .returned (al.ret.den ρ')∧al.post (ρ'.upto (sortC.nv + al.k))∧HeapOk ρ' hF al.heap w':=by
  intro w' hO' a1 a2 a3 a4
  have hgood:({ d:=(sortF o L).map (rkRow o) }:U).good:=⟨rfl,fun row hr v hv=>by
   obtain ⟨x,_,rfl⟩:=List.mem_map.1 hr
   exact rk_cell v hv⟩
  refine ⟨0,_,ρ.set 4 { d:=(sortF o L).map (rkRow o) },rfl,fun n=>?_,fun n hn=>Env.set_ne _ _ (by have:n < 4:=hn; omega),rfl,?_,hO',a1,⟨hO',Hp.emp,fun _=>.inr rfl,?_,a2,trivial⟩,a3,a4⟩
  ·by_cases hn:n = 4
   ·subst hn; rw [Env.set_same]; exact hgood
   ·rw [Env.set_ne _ _ hn]; exact hg n
  ·intro o' L' ho' hD' hL'
   have hD2:(ρ 3).d = L'.map (rkRow o'):=hD'
   obtain rfl:=huniq hD2
   show (sortF o L').map (rkRow o) = (sortF o' L').map (rkRow o')
   exact sortF_congr (hD.symm.trans hD2)
  ·funext b
   simp only [Hp.union,Hp.emp]
   cases hO' b <;> rfl
 rcases harr with ⟨hr,hd0,hc0⟩ | ⟨b,c,hr,hb,hcs,hcap,hrows⟩
 ·have hL0:L = []:=by
   have e:(ρ 3).d = []:=hd0
   rw [hD] at e
   exact List.map_eq_nil_iff.1 e
  subst hL0
  have hargs:(List.map (SV.den ρ) sortC.args).toArray = #[.slice none 0 (ρ 2).i.toNat,.func (.func 81) #[] #[]]:=by
   have hr':(ρ 0).r = none:=hr
   simp [sortC,rkS,SV.den,denVs,T.den,O0.den,O3.den,hr',hlen,addrOf]
  rw [hargs]
  refine (none_calls none _ _ w).mono fun e w' h=>?_
  obtain ⟨rfl,rfl⟩:=h
  refine key _ hO hd (.inl ⟨?_,?_,?_⟩) hw.1 hw.2
  ·rw [Env.set_ne _ _ (by decide)]; exact hr
  ·show ((ρ.set 4 _) 4).d = []
   rw [Env.set_same]; simp [sortF]
  ·show ((ρ.set 4 _) 2).i = 0
   rw [Env.set_ne _ _ (by decide)]; exact hc0
 ·have hbO:hO b = some (.cells c 153 (0,0)):=by rw [hu]; simp [Hp.union,hb]
  have hbw:w.heap[b]? = some (.cells c 153 (0,0)):=hw.1 _ _ (by
   unfold Hp.union
   rcases hd b with h | h
   ·rw [h]; exact hbO
   ·rw [hbO] at h; cases h)
  have hblt:b < w.heap.size:=(Array.getElem?_eq_some_iff.1 hbw).1
  have hrows':rowsAt c 0 kRk (L.map (rkRow o)):=by
   have h:=hrows
   rw [show (T.den ρ (.var 3)).d = (ρ 3).d from rfl,hD] at h
   exact h
  have hcs':c.size = (ρ 2).i.toNat * 33:=hcs
  have hcap':((ρ 3).d.length:Int) ≤ (ρ 2).i:=hcap
  rw [hD,List.length_map] at hcap'
  let d:Array (Fin 16):=(L.map toFin).toArray
  have hdv:d.toList.map (fun p=>(p.val:Int)) = L:=by
   simp only [d,List.toList_toArray,List.map_map]
   conv=>rhs; rw [← List.map_id L]
   exact List.map_congr_left fun x hx=>toFin_val (hL x hx)
  have hds:d.size = L.length:=by simp [d]
  have hH:=holdsK_rows hdv hbw hrows'
  have hargs:(List.map (SV.den ρ) sortC.args).toArray = #[.slice (some ⟨b,0,none⟩) d.size (ρ 2).i.toNat,.func (.func 81) #[] #[]]:=by
   have hr':(ρ 0).r = some ⟨b,0,none⟩:=hr
   simp [sortC,rkS,SV.den,denVs,T.den,O0.den,O3.den,hr',hlen,addrOf,hds]
  rw [hargs]
  refine (lay_calls o ho b _ d w hH hblt (by omega)).mono fun e w' h=>?_
  obtain ⟨rfl,n,os,rfl⟩:=h
  have hsv:((d.toList.mergeSort fun x y=>!(ltOf (cfK o)) y x).toArray:Array (Fin 16)).toList.map (fun p=>(p.val:Int)) = sortF o L:=by
   simp only [d,List.toList_toArray]
   exact sorted_val hL
  have hsl:((d.toList.mergeSort fun x y=>!(ltOf (cfK o)) y x).toArray:Array (Fin 16)).size * 33 ≤ c.size:=by
   rw [hcs',List.size_toArray,List.length_mergeSort]
   simp only [Array.length_toList,hds]
   omega
  refine key _ (Hp.upd hO b (.cells (putCells id 0 (flatK (encK o) 33 (d.toList.mergeSort fun x y=>!(ltOf (cfK o)) y x).toArray) c) 153 (0,0))) (fun x=>?_) (.inr ⟨b,putCells id 0 (flatK (encK o) 33 (d.toList.mergeSort fun x y=>!(ltOf (cfK o)) y x).toArray) c,?_,?_,?_,?_,?_⟩) (fun x X hX=>?_) ?_
  ·by_cases hx:x = b
   ·subst hx
    rcases hd x with h | h
    ·exact .inl h
    ·rw [hbO] at h; cases h
   ·unfold Hp.upd; rw [if_neg hx]; exact hd x
  ·rw [Env.set_ne _ _ (by decide)]; exact hr
  ·unfold Hp.upd; rw [if_pos rfl]
  ·show (putCells id 0 _ c).size = ((ρ.set 4 _) 2).i.toNat * 33
   rw [Env.set_ne _ _ (by decide),← hcs']
   simp [putCells]
  ·show ((((ρ.set 4 { d:=(sortF o L).map (rkRow o) }) 4).d.length:Nat):Int) ≤ ((ρ.set 4 _) 2).i
   rw [Env.set_same,Env.set_ne _ _ (by decide),List.length_map,len_sortF]; exact hcap'
  ·show rowsAt _ 0 kRk ((ρ.set 4 { d:=(sortF o L).map (rkRow o) }) 4).d
   rw [Env.set_same]
   exact sortW_rows hsv hsl
  ·by_cases hx:x = b
   ·subst hx
    have hFn:hF.h x = none:=by
     rcases hd x with h | h
     ·exact h
     ·rw [hbO] at h; cases h
    simp only [Hp.union,hFn,Hp.upd,if_true,Option.none_or,Option.some.injEq] at hX
    rw [← hX]
    exact sortW_heap hbw
   ·have hX':Hp.union hF.h hO x = some X:=by
     simpa [Hp.union,Hp.upd,hx] using hX
    exact sortW_other (hw.1 _ _ hX') hx
  ·exact hw.2
end Go.Proofs

set_option linter.unusedSimpArgs false
set_option linter.unusedVariables false
namespace Go.Eng
open Go Go.Proofs
def mtI:MT:=⟨false,[.i64],false,[.int .u64],[.vint .u64 (.lit 0)]⟩
def mtO:MT:=⟨true,List.replicate 32 .u8,false,[.any],[.vnilm]⟩
abbrev Cl:=List Int→Int→Option Int
def getO (l:List ME) (i:Int):Option Int:=(l.find? fun x=>x.k == [i]).map fun x=>vInt (x.v.headD .nilFunc)
def claimsAt (h:Hp) (v:Value) (cl:Cl):Prop:=∃ b l c,v = .map (some b)∧MapH h b mtO l c ∧
 (∀ x ∈ l,∃ b' m c',x.v = [.map (some b')]∧b' ≠ b∧MapH h b' mtI m c'∧∀ i,cl x.k i = getO m i) ∧
 (∀ x ∈ l,∀ y ∈ l,x.k ≠ y.k→x.v ≠ y.v)∧(∀ o i,(∀ x ∈ l,x.k ≠ o)→cl o i = none)∧∀ o i t,cl o i = some t→0 ≤ i∧i < 16∧0 ≤ t∧t < 18446744073709551616
def noteF (cl:Cl) (o:List Int) (i t:Int):Cl:=if 0 ≤ i∧i < 16 then fun o' i'=>if o' = o∧i' = i then some t else cl o' i' else cl
def curF (t clock:Int):Bool:=decide (t ≤ clock) && decide (clock - t < 12)
def blockedF (cl:Cl) (o:List Int) (self clock:Int) (L H:List Int):Bool:=(List.range 16).any fun (i:Nat)=>match cl o i with
 | some t=>curF t clock && decide ((i:Int) ∈ L) && !decide ((i:Int) ∈ H) && betF o i self
 | none=>false
def clHp (r v:Nat):SH:=.cells r 179 [.var v]
def clP (r:Nat):SV:=.one (.vptr r (.lit 0) 1 0)
def objHpN (r v:Nat):SH:=.cells r 24 (cellsT .u8 v 32)
def newClC:Ctr:={ fn := 61,nv:=0,args:=[],heap:=[],ro:=[],pre:=fun _=>True,alts:=[
 { k:=3,ret:=clP 0,heap:=[clHp 0 1,.abs 2 1003],post:=fun ρ=>claimsAt (ρ 2).h (ρ 1).v fun _ _=>none }] }
def curC:Ctr:={ fn := 101,nv:=2,args:=[iv .u64 (.var 0),iv .u64 (.var 1)],heap:=[],ro:=[],pre:=fun ρ=>0 ≤ (ρ 0).i∧(ρ 0).i < 18446744073709551616∧0 ≤ (ρ 1).i∧(ρ 1).i < 18446744073709551616,alts:=[
 { k:=1,ret:=.one (.vbool (.var 2)),heap:=[],post:=fun ρ=>(ρ 2).b = curF (ρ 0).i (ρ 1).i }] }
def noteC:Ctr:={ fn := 62,nv:=6,args:=[clP 0,dgV 1,iv .i64 (.var 2),iv .u64 (.var 3)],heap:=[clHp 0 4,.abs 5 1003],ro:=[],pre:=fun ρ=>(∃ cl,claimsAt (ρ 5).h (ρ 4).v cl)∧0 ≤ (ρ 3).i∧(ρ 3).i < 18446744073709551616,alts:=[
 { k:=1,ret:=.tup [],heap:=[clHp 0 4,.abs 6 1003],post:=fun ρ=>∀ cl,claimsAt (ρ 5).h (ρ 4).v cl→claimsAt (ρ 6).h (ρ 4).v (noteF cl (rowL (ρ 1).d 32) (ρ 2).i (ρ 3).i) }] }
def itOver (h:Hp) (it:Value) (m:List ME) (seen:List Nat):Prop:=∃ b' mo since st,it = .pointer (some ⟨b',0,none⟩)∧h b' = some (.mapIter mo since seen.toArray st) ∧
 ((mo = none∧m = [])∨∃ b c,mo = some b∧b' ≠ b∧MapH h b mtI m c∧c ≤ since∧(seen = []∨m = []∨∃ e ∈ m,e.born < st)∧∀ n ∈ seen,∃ e ∈ m,e.born = n)
def iterLeft (h:Hp) (it:Value):Nat :=
 match it with
 | .pointer (some a) =>
  match h a.block with
  | some (.mapIter (some b) _ seen _) =>
   match h b with
   | some (.map es _)=>(es.toList.filter fun e=>!(seen.contains e.born)).length
   | _=>0
  | _=>0
 | _=>0
def blPre (ρ:Env):Prop:=(∃ cl,claimsAt (ρ 5).h (ρ 4).v cl)∧allM (rowL (ρ 1).d 32)∧intsIn ρ 6∧intsIn ρ 11∧gOk ρ 16 17 gR∧0 ≤ (ρ 3).i∧(ρ 3).i < 18446744073709551616
def blockedC:Ctr:={ fn := 68,nv:=18,ip:=[gIp 16,(5030, 181)],args:=[clP 0,dgV 1,iv .i64 (.var 2),iv .u64 (.var 3),bS 6,bS 11],heap:=[clHp 0 4,.abs 5 1003],ro:=[iHpA 6,iHpA 11,gHp 16 17],pre:=blPre,alts:=[
 { k:=2,ret:=.one (.vbool (.var 18)),heap:=[clHp 0 4,.abs 19 1003],post:=fun ρ=>∀ cl,claimsAt (ρ 5).h (ρ 4).v cl→claimsAt (ρ 19).h (ρ 4).v cl∧(ρ 18).b = blockedF cl (rowL (ρ 1).d 32) (ρ 2).i (ρ 3).i (ints (ρ 9).d) (ints (ρ 14).d) }] }
def blkE (o:List Int) (self clock:Int) (L H:List Int) (x:ME):Bool:=curF (vInt (x.v.headD .nilFunc)) clock && decide (x.k.headD 0 ∈ L) && !decide (x.k.headD 0 ∈ H) && betF o (x.k.headD 0) self
def blkI (h0 h:Hp) (v it:Value) (o:List Int) (self clock:Int) (L H:List Int) (x:Bool):Prop:=∀ cl,claimsAt h0 v cl→claimsAt h v cl∧∃ m seen,itOver h it m seen∧(∀ i,cl o i = getO m i)∧x = (m.filter fun e=>seen.contains e.born).any (blkE o self clock L H)
def blockedI:Inv:={ key:=6,nv:=8,env:=[(2,iv .i64 (.var 2)),(3,iv .u64 (.var 3)),(7,objP 1000),(13,.one (.vptr 1001 (.lit 0) 16 0)),(14,.one (.vptr 1003 (.lit 0) 16 0)),(15,.one (.vbool (.var 1005))),(30,.one (.var 1006))],heap:=[objHpN 1000 1,.arr 1001 157 kBool16 (.var 1002) (.lit 1),.arr 1003 157 kBool16 (.var 1004) (.lit 1),clHp 0 4,.abs 1007 1003],inv:=(fun ρ=>seenTo (ρ 1002).d (ints (ρ 14).d) (ρ 14).d.length∧seenTo (ρ 1004).d (ints (ρ 9).d) (ρ 9).d.length∧blkI (ρ 5).h (ρ 1007).h (ρ 4).v (ρ 1006).v (rowL (ρ 1).d 32) (ρ 2).i (ρ 3).i (ints (ρ 9).d) (ints (ρ 14).d) (ρ 1005).b),mu:=(fun ρ=>iterLeft (ρ 1007).h (ρ 1006).v) }
end Go.Eng

set_option linter.unusedSimpArgs false
set_option linter.unusedVariables false
set_option maxRecDepth 100000
namespace Go.Proofs
open Go Go.Eng

def o_cur:Out:=(.br (.cmp .geq (.var 1) (.var 0))
 (.ret 0 (sg 2 [bt 2 (.cmp .lss (.arith .sub .u64 (.var 1) (.var 0)) (.lit 12))]))
 (.ret 0 (sg 2 [bt 2 (.bl false)])))
theorem o_cur_eq:treeOf ⟨Tryz.prog,curC,[],[]⟩ 100000 Tryz.f101 = o_cur:=by kernel_rfl
theorem cur_of (hd:∀ c ∈ ([]:List Ctr),c.ok Tryz.prog) (h:∀ ρ:Env,ρ.good→(curC).pre ρ→o_cur.den ⟨Tryz.prog,curC,[],[]⟩ ρ):(curC).ok Tryz.prog :=
 ok_of_tree Tryz.func101 (fun a w=>Tryz.call101 a w) hd 100000 (fun ρ hg hp=>by rw [o_cur_eq]; exact h ρ hg hp)
def o_newCl:Out:=(.mop .new 0 (.fresh 2 (.ret 0 (sg 0 [bg 2 0,bv 1 1,bg 0 2]))) .top)
theorem o_newCl_eq:treeOf ⟨Tryz.prog,newClC,[],[]⟩ 100000 Tryz.f61 = o_newCl:=by kernel_rfl
theorem newCl_of (hd:∀ c ∈ ([]:List Ctr),c.ok Tryz.prog) (h:∀ ρ:Env,ρ.good→(newClC).pre ρ→o_newCl.den ⟨Tryz.prog,newClC,[],[]⟩ ρ):(newClC).ok Tryz.prog :=
 ok_of_tree Tryz.func61 (fun a w=>Tryz.call61 a w) hd 100000 (fun ρ hg hp=>by rw [o_newCl_eq]; exact h ρ hg hp)
def o_note:Out:=(.fresh 6 (.pre 0 (sg 0 [bv 0 2]) (.both (.fresh 7 (.post 0 0 (sg 0 [bv 0 2]) 7 (.br (.not (.var 7))
 (.ret 0 (sg 6 [bg 6 5]))
 (.both (.mop (.get (.var 4) [(.c2 (.xint 0) (.var 1) (.lit 0)),(.c2 (.xint 1) (.var 1) (.lit 0)),(.c2 (.xint 2) (.var 1) (.lit 0)),(.c2 (.xint 3) (.var 1) (.lit 0)),(.c2 (.xint 4) (.var 1) (.lit 0)),(.c2 (.xint 5) (.var 1) (.lit 0)),(.c2 (.xint 6) (.var 1) (.lit 0)),(.c2 (.xint 7) (.var 1) (.lit 0)),(.c2 (.xint 8) (.var 1) (.lit 0)),(.c2 (.xint 9) (.var 1) (.lit 0)),(.c2 (.xint 10) (.var 1) (.lit 0)),(.c2 (.xint 11) (.var 1) (.lit 0)),(.c2 (.xint 12) (.var 1) (.lit 0)),(.c2 (.xint 13) (.var 1) (.lit 0)),(.c2 (.xint 14) (.var 1) (.lit 0)),(.c2 (.xint 15) (.var 1) (.lit 0)),(.c2 (.xint 16) (.var 1) (.lit 0)),(.c2 (.xint 17) (.var 1) (.lit 0)),(.c2 (.xint 18) (.var 1) (.lit 0)),(.c2 (.xint 19) (.var 1) (.lit 0)),(.c2 (.xint 20) (.var 1) (.lit 0)),(.c2 (.xint 21) (.var 1) (.lit 0)),(.c2 (.xint 22) (.var 1) (.lit 0)),(.c2 (.xint 23) (.var 1) (.lit 0)),(.c2 (.xint 24) (.var 1) (.lit 0)),(.c2 (.xint 25) (.var 1) (.lit 0)),(.c2 (.xint 26) (.var 1) (.lit 0)),(.c2 (.xint 27) (.var 1) (.lit 0)),(.c2 (.xint 28) (.var 1) (.lit 0)),(.c2 (.xint 29) (.var 1) (.lit 0)),(.c2 (.xint 30) (.var 1) (.lit 0)),(.c2 (.xint 31) (.var 1) (.lit 0))] ⟨true,[.u8,.u8,.u8,.u8,.u8,.u8,.u8,.u8,.u8,.u8,.u8,.u8,.u8,.u8,.u8,.u8,.u8,.u8,.u8,.u8,.u8,.u8,.u8,.u8,.u8,.u8,.u8,.u8,.u8,.u8,.u8,.u8],false,[CK.any],[.vnilm]⟩ [5]) 8 (.both (.mop (.isnil (.vcell (.var 8) (.lit 0) 0)) 9 (.br (.var 9)
 (.both (.mop .new 10 (.both (.pack [.abs 10 1003,.abs 5 1003] 12 (.mop (.put 12 (.var 4) [(.c2 (.xint 0) (.var 1) (.lit 0)),(.c2 (.xint 1) (.var 1) (.lit 0)),(.c2 (.xint 2) (.var 1) (.lit 0)),(.c2 (.xint 3) (.var 1) (.lit 0)),(.c2 (.xint 4) (.var 1) (.lit 0)),(.c2 (.xint 5) (.var 1) (.lit 0)),(.c2 (.xint 6) (.var 1) (.lit 0)),(.c2 (.xint 7) (.var 1) (.lit 0)),(.c2 (.xint 8) (.var 1) (.lit 0)),(.c2 (.xint 9) (.var 1) (.lit 0)),(.c2 (.xint 10) (.var 1) (.lit 0)),(.c2 (.xint 11) (.var 1) (.lit 0)),(.c2 (.xint 12) (.var 1) (.lit 0)),(.c2 (.xint 13) (.var 1) (.lit 0)),(.c2 (.xint 14) (.var 1) (.lit 0)),(.c2 (.xint 15) (.var 1) (.lit 0)),(.c2 (.xint 16) (.var 1) (.lit 0)),(.c2 (.xint 17) (.var 1) (.lit 0)),(.c2 (.xint 18) (.var 1) (.lit 0)),(.c2 (.xint 19) (.var 1) (.lit 0)),(.c2 (.xint 20) (.var 1) (.lit 0)),(.c2 (.xint 21) (.var 1) (.lit 0)),(.c2 (.xint 22) (.var 1) (.lit 0)),(.c2 (.xint 23) (.var 1) (.lit 0)),(.c2 (.xint 24) (.var 1) (.lit 0)),(.c2 (.xint 25) (.var 1) (.lit 0)),(.c2 (.xint 26) (.var 1) (.lit 0)),(.c2 (.xint 27) (.var 1) (.lit 0)),(.c2 (.xint 28) (.var 1) (.lit 0)),(.c2 (.xint 29) (.var 1) (.lit 0)),(.c2 (.xint 30) (.var 1) (.lit 0)),(.c2 (.xint 31) (.var 1) (.lit 0))] [(.var 11)] ⟨true,[.u8,.u8,.u8,.u8,.u8,.u8,.u8,.u8,.u8,.u8,.u8,.u8,.u8,.u8,.u8,.u8,.u8,.u8,.u8,.u8,.u8,.u8,.u8,.u8,.u8,.u8,.u8,.u8,.u8,.u8,.u8,.u8],false,[CK.any],[.vnilm]⟩) 13 (.both (.mop (.get (.var 4) [(.c2 (.xint 0) (.var 1) (.lit 0)),(.c2 (.xint 1) (.var 1) (.lit 0)),(.c2 (.xint 2) (.var 1) (.lit 0)),(.c2 (.xint 3) (.var 1) (.lit 0)),(.c2 (.xint 4) (.var 1) (.lit 0)),(.c2 (.xint 5) (.var 1) (.lit 0)),(.c2 (.xint 6) (.var 1) (.lit 0)),(.c2 (.xint 7) (.var 1) (.lit 0)),(.c2 (.xint 8) (.var 1) (.lit 0)),(.c2 (.xint 9) (.var 1) (.lit 0)),(.c2 (.xint 10) (.var 1) (.lit 0)),(.c2 (.xint 11) (.var 1) (.lit 0)),(.c2 (.xint 12) (.var 1) (.lit 0)),(.c2 (.xint 13) (.var 1) (.lit 0)),(.c2 (.xint 14) (.var 1) (.lit 0)),(.c2 (.xint 15) (.var 1) (.lit 0)),(.c2 (.xint 16) (.var 1) (.lit 0)),(.c2 (.xint 17) (.var 1) (.lit 0)),(.c2 (.xint 18) (.var 1) (.lit 0)),(.c2 (.xint 19) (.var 1) (.lit 0)),(.c2 (.xint 20) (.var 1) (.lit 0)),(.c2 (.xint 21) (.var 1) (.lit 0)),(.c2 (.xint 22) (.var 1) (.lit 0)),(.c2 (.xint 23) (.var 1) (.lit 0)),(.c2 (.xint 24) (.var 1) (.lit 0)),(.c2 (.xint 25) (.var 1) (.lit 0)),(.c2 (.xint 26) (.var 1) (.lit 0)),(.c2 (.xint 27) (.var 1) (.lit 0)),(.c2 (.xint 28) (.var 1) (.lit 0)),(.c2 (.xint 29) (.var 1) (.lit 0)),(.c2 (.xint 30) (.var 1) (.lit 0)),(.c2 (.xint 31) (.var 1) (.lit 0))] ⟨true,[.u8,.u8,.u8,.u8,.u8,.u8,.u8,.u8,.u8,.u8,.u8,.u8,.u8,.u8,.u8,.u8,.u8,.u8,.u8,.u8,.u8,.u8,.u8,.u8,.u8,.u8,.u8,.u8,.u8,.u8,.u8,.u8],false,[CK.any],[.vnilm]⟩ [13]) 14 (.both (.mop (.put 13 (.vcell (.var 14) (.lit 0) 0) [(.var 2)] [(.vint .u64 (.var 3))] ⟨false,[.i64],false,[CK.int .u64],[(.vint .u64 (.lit 0))]⟩) 15 (.ret 0 (sg 6 [bg 6 15])) .top) .top) .top) .top) .top)) .top) .top) .top)
 (.both (.mop (.get (.var 4) [(.c2 (.xint 0) (.var 1) (.lit 0)),(.c2 (.xint 1) (.var 1) (.lit 0)),(.c2 (.xint 2) (.var 1) (.lit 0)),(.c2 (.xint 3) (.var 1) (.lit 0)),(.c2 (.xint 4) (.var 1) (.lit 0)),(.c2 (.xint 5) (.var 1) (.lit 0)),(.c2 (.xint 6) (.var 1) (.lit 0)),(.c2 (.xint 7) (.var 1) (.lit 0)),(.c2 (.xint 8) (.var 1) (.lit 0)),(.c2 (.xint 9) (.var 1) (.lit 0)),(.c2 (.xint 10) (.var 1) (.lit 0)),(.c2 (.xint 11) (.var 1) (.lit 0)),(.c2 (.xint 12) (.var 1) (.lit 0)),(.c2 (.xint 13) (.var 1) (.lit 0)),(.c2 (.xint 14) (.var 1) (.lit 0)),(.c2 (.xint 15) (.var 1) (.lit 0)),(.c2 (.xint 16) (.var 1) (.lit 0)),(.c2 (.xint 17) (.var 1) (.lit 0)),(.c2 (.xint 18) (.var 1) (.lit 0)),(.c2 (.xint 19) (.var 1) (.lit 0)),(.c2 (.xint 20) (.var 1) (.lit 0)),(.c2 (.xint 21) (.var 1) (.lit 0)),(.c2 (.xint 22) (.var 1) (.lit 0)),(.c2 (.xint 23) (.var 1) (.lit 0)),(.c2 (.xint 24) (.var 1) (.lit 0)),(.c2 (.xint 25) (.var 1) (.lit 0)),(.c2 (.xint 26) (.var 1) (.lit 0)),(.c2 (.xint 27) (.var 1) (.lit 0)),(.c2 (.xint 28) (.var 1) (.lit 0)),(.c2 (.xint 29) (.var 1) (.lit 0)),(.c2 (.xint 30) (.var 1) (.lit 0)),(.c2 (.xint 31) (.var 1) (.lit 0))] ⟨true,[.u8,.u8,.u8,.u8,.u8,.u8,.u8,.u8,.u8,.u8,.u8,.u8,.u8,.u8,.u8,.u8,.u8,.u8,.u8,.u8,.u8,.u8,.u8,.u8,.u8,.u8,.u8,.u8,.u8,.u8,.u8,.u8],false,[CK.any],[.vnilm]⟩ [5]) 10 (.both (.mop (.put 5 (.vcell (.var 10) (.lit 0) 0) [(.var 2)] [(.vint .u64 (.var 3))] ⟨false,[.i64],false,[CK.int .u64],[(.vint .u64 (.lit 0))]⟩) 11 (.ret 0 (sg 6 [bg 6 11])) .top) .top) .top) .top)) .top) .top) .top) .top)))) .top)))
theorem o_note_eq:treeOf ⟨Tryz.prog,noteC,[peerC],[]⟩ 100000 Tryz.f62 = o_note:=by kernel_rfl
theorem note_of (hd:∀ c ∈ ([peerC]:List Ctr),c.ok Tryz.prog) (h:∀ ρ:Env,ρ.good→(noteC).pre ρ→o_note.den ⟨Tryz.prog,noteC,[peerC],[]⟩ ρ):(noteC).ok Tryz.prog :=
 ok_of_tree Tryz.func62 (fun a w=>Tryz.call62 a w) hd 100000 (fun ρ hg hp=>by rw [o_note_eq]; exact h ρ hg hp)
@[simp] def o_blocked_1:Out:=.back 0 57 (sg 1000 [bg 1007 65,bv 1004 61,bv 1002 59,bv 1006 63,bt 1005 (.bl false),bg 1003 60,bg 1001 58,bg 1000 57])
def o_blocked:Out:=(.fresh 18 (.pre 0 (sg 0 [bv 4 15,bv 3 14,bv 2 13,bv 1 12,bg 0 11]) (.both (.fresh 19 (.fresh 20 (.fresh 21 (.fresh 22 (.fresh 23 (.fresh 24 (.fresh 25 (.fresh 26 (.fresh 27 (.fresh 28 (.fresh 29 (.fresh 30 (.fresh 31 (.fresh 32 (.fresh 33 (.fresh 34 (.post 0 0 (sg 0 [bv 4 15,bv 3 14,bv 2 13,bv 1 12,bg 0 11]) 19 (.pre 0 (sg 0 [bv 4 10,bv 3 9,bv 2 8,bv 1 7,bg 0 6]) (.both (.fresh 35 (.fresh 36 (.fresh 37 (.fresh 38 (.fresh 39 (.fresh 40 (.fresh 41 (.fresh 42 (.fresh 43 (.fresh 44 (.fresh 45 (.fresh 46 (.fresh 47 (.fresh 48 (.fresh 49 (.fresh 50 (.post 0 0 (sg 0 [bv 4 10,bv 3 9,bv 2 8,bv 1 7,bg 0 6]) 35 (.fresh 51 (.fresh 52 (.both (.mop (.get (.var 4) [(.c2 (.xint 0) (.var 1) (.lit 0)),(.c2 (.xint 1) (.var 1) (.lit 0)),(.c2 (.xint 2) (.var 1) (.lit 0)),(.c2 (.xint 3) (.var 1) (.lit 0)),(.c2 (.xint 4) (.var 1) (.lit 0)),(.c2 (.xint 5) (.var 1) (.lit 0)),(.c2 (.xint 6) (.var 1) (.lit 0)),(.c2 (.xint 7) (.var 1) (.lit 0)),(.c2 (.xint 8) (.var 1) (.lit 0)),(.c2 (.xint 9) (.var 1) (.lit 0)),(.c2 (.xint 10) (.var 1) (.lit 0)),(.c2 (.xint 11) (.var 1) (.lit 0)),(.c2 (.xint 12) (.var 1) (.lit 0)),(.c2 (.xint 13) (.var 1) (.lit 0)),(.c2 (.xint 14) (.var 1) (.lit 0)),(.c2 (.xint 15) (.var 1) (.lit 0)),(.c2 (.xint 16) (.var 1) (.lit 0)),(.c2 (.xint 17) (.var 1) (.lit 0)),(.c2 (.xint 18) (.var 1) (.lit 0)),(.c2 (.xint 19) (.var 1) (.lit 0)),(.c2 (.xint 20) (.var 1) (.lit 0)),(.c2 (.xint 21) (.var 1) (.lit 0)),(.c2 (.xint 22) (.var 1) (.lit 0)),(.c2 (.xint 23) (.var 1) (.lit 0)),(.c2 (.xint 24) (.var 1) (.lit 0)),(.c2 (.xint 25) (.var 1) (.lit 0)),(.c2 (.xint 26) (.var 1) (.lit 0)),(.c2 (.xint 27) (.var 1) (.lit 0)),(.c2 (.xint 28) (.var 1) (.lit 0)),(.c2 (.xint 29) (.var 1) (.lit 0)),(.c2 (.xint 30) (.var 1) (.lit 0)),(.c2 (.xint 31) (.var 1) (.lit 0))] ⟨true,[.u8,.u8,.u8,.u8,.u8,.u8,.u8,.u8,.u8,.u8,.u8,.u8,.u8,.u8,.u8,.u8,.u8,.u8,.u8,.u8,.u8,.u8,.u8,.u8,.u8,.u8,.u8,.u8,.u8,.u8,.u8,.u8],false,[CK.any],[.vnilm]⟩ [5]) 53 (.both (.mop (.range (.vcell (.var 53) (.lit 0) 0) ⟨false,[.i64],false,[CK.int .u64],[(.vint .u64 (.lit 0))]⟩ [5]) 54 (.pack [.abs 54 1003,.abs 5 1003] 56 (.inv 0 57 (sg 1000 [bg 1007 56,bt 1004 (.rcons (.vbool (.var 35)) (.rcons (.vbool (.var 36)) (.rcons (.vbool (.var 37)) (.rcons (.vbool (.var 38)) (.rcons (.vbool (.var 39)) (.rcons (.vbool (.var 40)) (.rcons (.vbool (.var 41)) (.rcons (.vbool (.var 42)) (.rcons (.vbool (.var 43)) (.rcons (.vbool (.var 44)) (.rcons (.vbool (.var 45)) (.rcons (.vbool (.var 46)) (.rcons (.vbool (.var 47)) (.rcons (.vbool (.var 48)) (.rcons (.vbool (.var 49)) (.rcons (.vbool (.var 50)) .rnil)))))))))))))))),bt 1002 (.rcons (.vbool (.var 19)) (.rcons (.vbool (.var 20)) (.rcons (.vbool (.var 21)) (.rcons (.vbool (.var 22)) (.rcons (.vbool (.var 23)) (.rcons (.vbool (.var 24)) (.rcons (.vbool (.var 25)) (.rcons (.vbool (.var 26)) (.rcons (.vbool (.var 27)) (.rcons (.vbool (.var 28)) (.rcons (.vbool (.var 29)) (.rcons (.vbool (.var 30)) (.rcons (.vbool (.var 31)) (.rcons (.vbool (.var 32)) (.rcons (.vbool (.var 33)) (.rcons (.vbool (.var 34)) .rnil)))))))))))))))),bv 1006 55,bt 1005 (.bl false),bg 1003 52,bg 1001 51,bg 1000 18]) (.fresh 57 (.fresh 58 (.fresh 59 (.fresh 60 (.fresh 61 (.fresh 62 (.fresh 63 (.fresh 64 (.hyp 0 57 (.mop (.next 64 (.var 63) ⟨false,[.i64],false,[CK.int .u64],[(.vint .u64 (.lit 0))]⟩ [64]) 65 (.mop (.entry 65 (.var 63) ⟨false,[.i64],false,[CK.int .u64],[(.vint .u64 (.lit 0))]⟩ [65]) 68 (.br (.var 62)
 (.back 0 57 (sg 1000 [bg 1007 65,bv 1004 61,bv 1002 59,bv 1006 63,bt 1005 (.bl true),bg 1003 60,bg 1001 58,bg 1000 57]))
 (.pre 1 (sg 0 [bv 1 3,bt 0 (.c2 (.xint 0) (.var 69) (.lit 0))]) (.both (.fresh 70 (.post 1 0 (sg 0 [bv 1 3,bt 0 (.c2 (.xint 0) (.var 69) (.lit 0))]) 70 (.br (.var 70)
 (.need (.cmp .leq (.lit 0) (.c2 (.xint 0) (.var 68) (.lit 0))) (.need (.cmp .lss (.c2 (.xint 0) (.var 68) (.lit 0)) (.lit 16)) (.need (.cmp .lss (.lit 0) (.dlen (.var 61))) (.br (.c2 (.xbool 0) (.var 61) (.c2 (.xint 0) (.var 68) (.lit 0)))
 (.need (.cmp .lss (.lit 0) (.dlen (.var 59))) (.br (.not (.c2 (.xbool 0) (.var 59) (.c2 (.xint 0) (.var 68) (.lit 0))))
 (.pre 2 (sg 0 [bv 4 17,bv 2 2,bt 1 (.c2 (.xint 0) (.var 68) (.lit 0)),bt 0 (r8 1),bg 3 16]) (.both (.fresh 71 (.post 2 0 (sg 0 [bv 4 17,bv 2 2,bt 1 (.c2 (.xint 0) (.var 68) (.lit 0)),bt 0 (r8 1),bg 3 16]) 71 (.back 0 57 (sg 1000 [bg 1007 65,bv 1004 61,bv 1002 59,bv 1006 63,bv 1005 71,bg 1003 60,bg 1001 58,bg 1000 57])))) .top))
 o_blocked_1))
 o_blocked_1))))
 o_blocked_1))) .top))) .top) (.ret 0 (sg 18 [bg 19 64,bv 18 62])))))))))))))) .top) .top) .top) .top)))))))))))))))))))) .top))))))))))))))))))) .top)))
theorem o_blocked_eq:treeOf ⟨Tryz.prog,blockedC,[setC,curC,betterC],[blockedI]⟩ 100000 Tryz.f68 = o_blocked:=by kernel_rfl
theorem blocked_of (hd:∀ c ∈ ([setC,curC,betterC]:List Ctr),c.ok Tryz.prog) (h:∀ ρ:Env,ρ.good→(blockedC).pre ρ→o_blocked.den ⟨Tryz.prog,blockedC,[setC,curC,betterC],[blockedI]⟩ ρ):(blockedC).ok Tryz.prog :=
 ok_of_tree Tryz.func68 (fun a w=>Tryz.call68 a w) hd 100000 (fun ρ hg hp=>by rw [o_blocked_eq]; exact h ρ hg hp)
end Go.Proofs

set_option linter.unusedSimpArgs false
set_option linter.unusedVariables false
namespace Go.Proofs
open Go Go.Eng
theorem kVals_inj:∀ {ks:List IntKind} {a b:List Int},a.length = ks.length→b.length = ks.length→kVals ks a = kVals ks b→a = b
 | [],[],[],_,_,_=>rfl
 | k :: ks,x :: a,y :: b,h1,h2,h=>by
  simp only [kVals,List.zipWith_cons_cons,List.cons.injEq,Value.int.injEq,true_and] at h
  rw [h.1,kVals_inj (ks:=ks) (by simpa using h1) (by simpa using h2) h.2]
 | [],_ :: _,_,h,_,_=>by simp at h
 | [],_,_ :: _,_,h,_=>by simp at h
 | _ :: _,[],_,h,_,_=>by simp at h
 | _ :: _,_ :: _,[],_,h,_=>by simp at h
theorem mkV_inj {g:Bool} {a b:List Value} {n:Nat} (ha:a.length = n) (hb:b.length = n) (hg:g = true∨n = 1) (h:mkV g a = mkV g b):a = b:=by
 cases g with
 | true =>
  simp only [mkV,Value.agg.injEq] at h
  simpa using congrArg Array.toList h
 | false =>
  obtain rfl:=hg.resolve_left (by simp)
  match a,b,ha,hb with
  | [x],[y],_,_ =>
   simp only [mkV,List.headD_cons] at h
   rw [h]
theorem ents_inj {mt:MT} (hk:mt.kagg = true∨mt.kks.length = 1) (hv:mt.vagg = true∨mt.vpat.length = 1):∀ {l l':List ME},(∀ x ∈ l,x.k.length = mt.kks.length∧fitsRow mt.vpat x.v)→(∀ x ∈ l',x.k.length = mt.kks.length∧fitsRow mt.vpat x.v)→l.map mt.ent = l'.map mt.ent→l = l'
 | [],[],_,_,_=>rfl
 | [],_ :: _,_,_,h=>by simp at h
 | _ :: _,[],_,_,h=>by simp at h
 | x :: l,y :: l',h1,h2,h=>by
  simp only [List.map_cons,List.cons.injEq] at h
  obtain ⟨e1,e2⟩:=h
  have hx:=h1 x (List.mem_cons_self ..)
  have hy:=h2 y (List.mem_cons_self ..)
  simp only [MT.ent,MapEntry.mk.injEq] at e1
  obtain ⟨a1,a2,a3⟩:=e1
  have lk:∀ {k:List Int},k.length = mt.kks.length→(kVals mt.kks k).length = mt.kks.length:=fun h=>by simp [kVals,h]
  have b1:=kVals_inj hx.1 hy.1 (mkV_inj (lk hx.1) (lk hy.1) hk a1)
  have b2:=mkV_inj hx.2.1 hy.2.1 hv a2
  obtain ⟨xk,xv,xb⟩:=x
  obtain ⟨yk,yv,yb⟩:=y
  simp only at b1 b2 a3
  subst b1 b2 a3
  rw [ents_inj hk hv (fun z hz=>h1 z (List.mem_cons_of_mem _ hz)) (fun z hz=>h2 z (List.mem_cons_of_mem _ hz)) e2]
theorem MapH_uniq {h:Hp} {b:Nat} {mt:MT} {l l':List ME} {c c':Nat} (hk:mt.kagg = true∨mt.kks.length = 1) (hv:mt.vagg = true∨mt.vpat.length = 1) (h1:MapH h b mt l c) (h2:MapH h b mt l' c'):l = l'∧c = c':=by
 have e:=h1.1.symm.trans h2.1
 simp only [MT.obj,Option.some.injEq,Obj.map.injEq] at e
 exact ⟨ents_inj hk hv (fun x hx=>⟨(h1.2.1 x hx).1,(h1.2.1 x hx).2.1⟩) (fun x hx=>⟨(h2.2.1 x hx).1,(h2.2.1 x hx).2.1⟩) (by simpa using congrArg Array.toList e.1),e.2⟩
theorem uniqO {h:Hp} {b:Nat} {l l':List ME} {c c':Nat} (h1:MapH h b mtO l c) (h2:MapH h b mtO l' c'):l = l'∧c = c':=MapH_uniq (.inl rfl) (.inr rfl) h1 h2
theorem uniqI {h:Hp} {b:Nat} {l l':List ME} {c c':Nat} (h1:MapH h b mtI l c) (h2:MapH h b mtI l' c'):l = l'∧c = c':=MapH_uniq (.inr rfl) (.inr rfl) h1 h2
theorem cl_uniq {h:Hp} {v:Value} {cl cl':Cl} (h1:claimsAt h v cl) (h2:claimsAt h v cl'):cl' = cl:=by
 obtain ⟨b,l,c,rfl,hm,hi,_,hn,_⟩:=h1
 obtain ⟨b2,l2,c2,e,hm2,hi2,_,hn2,_⟩:=h2
 simp only [Value.map.injEq,Option.some.injEq] at e
 subst e
 obtain ⟨rfl,rfl⟩:=uniqO hm hm2
 funext o i
 by_cases ho:∃ x ∈ l,x.k = o
 ·obtain ⟨x,hx,rfl⟩:=ho
  obtain ⟨b',m,c',e1,_,e2,e3⟩:=hi x hx
  obtain ⟨b2',m2,c2',e1',_,e2',e3'⟩:=hi2 x hx
  rw [e1] at e1'
  simp only [List.cons.injEq,Value.map.injEq,Option.some.injEq,and_true] at e1'
  subst e1'
  obtain ⟨rfl,_⟩:=uniqI e2 e2'
  rw [e3,e3']
 ·have:∀ x ∈ l,x.k ≠ o:=fun x hx he=>ho ⟨x,hx,he⟩
  rw [hn o i this,hn2 o i this]
theorem MapH_mono {h h':Hp} {b:Nat} {mt:MT} {l:List ME} {c:Nat} (hm:MapH h b mt l c) (hl:Hp.le h h'):MapH h' b mt l c:=⟨hl _ _ hm.1,hm.2⟩
theorem cl_mono {h h':Hp} {v:Value} {cl:Cl} (hc:claimsAt h v cl) (hl:Hp.le h h'):claimsAt h' v cl:=by
 obtain ⟨b,l,c,e,hm,hi,hr⟩:=hc
 exact ⟨b,l,c,e,MapH_mono hm hl,fun x hx=>by
  obtain ⟨b',m,c',e1,e2,e3,e4⟩:=hi x hx
  exact ⟨b',m,c',e1,e2,MapH_mono e3 hl,e4⟩,hr⟩
theorem hasM_iff {l:List ME} {k:List Int}:hasM l k = true↔∃ x ∈ l,x.k = k:=by
 unfold hasM
 rw [List.any_eq_true]
 exact ⟨fun ⟨x,h1,h2⟩=>⟨x,h1,by simpa using h2⟩,fun ⟨x,h1,h2⟩=>⟨x,h1,by simpa using h2⟩⟩
theorem hasM_not {l:List ME} {k:List Int} (h:hasM l k = false):∀ x ∈ l,x.k ≠ k:=fun x hx he=>by
 rw [hasM_iff.2 ⟨x,hx,he⟩] at h; cases h
theorem getO_put {m:List ME} {i i' t:Int} {c:Nat}:getO (putM m [i] [.int .u64 t] c).1 i' = if i' = i then some t else getO m i':=by
 unfold putM
 by_cases h:hasM m [i] = true
 ·rw [if_pos h]
  unfold getO
  simp only
  rw [List.find?_map]
  have hp:((fun x:ME=>x.k == [i']) ∘ fun x:ME=>if x.k = [i] then { x with v:=[.int .u64 t] } else x) = fun x:ME=>x.k == [i']:=by
   funext x
   simp only [Function.comp]
   split <;> rfl
  rw [hp,Option.map_map]
  by_cases hi:i' = i
  ·subst hi
   rw [if_pos rfl]
   obtain ⟨x,hx,hk⟩:=hasM_iff.1 h
   cases hf:m.find? fun x=>x.k == [i'] with
   | none =>
    rw [List.find?_eq_none] at hf
    exact absurd (by simpa using hk) (hf x hx)
   | some y =>
    have hy:=List.find?_some hf
    simp only [beq_iff_eq] at hy
    simp [hy,vInt]
  ·rw [if_neg hi]
   cases hf:m.find? fun x=>x.k == [i'] with
   | none=>rfl
   | some y =>
    have hy:=List.find?_some hf
    simp only [beq_iff_eq] at hy
    have:y.k ≠ [i]:=by rw [hy]; simp [hi]
    simp [this]
 ·rw [if_neg h]
  have hn:=hasM_not (by simpa using h)
  unfold getO
  simp only
  rw [List.find?_append]
  by_cases hi:i' = i
  ·subst hi
   rw [if_pos rfl]
   have:m.find? (fun x=>x.k == [i']) = none:=by
    rw [List.find?_eq_none]
    intro x hx hk
    exact hn x hx (by simpa using hk)
   rw [this]; simp [vInt]
  ·rw [if_neg hi]
   have:([⟨[i],[.int .u64 t],c⟩]:List ME).find? (fun x=>x.k == [i']) = none:=by
    simp [Ne.symm hi]
   rw [this,Option.or_none]
theorem putM_len1 {i t:Int}:([i]:List Int).length = mtI.kks.length∧fitsRow mtI.vpat [.int .u64 t]:=⟨rfl,rfl,fun c k v hk hv=>by
 cases c with
 | zero=>simp only [mtI,List.getElem?_cons_zero,Option.some.injEq] at hk hv; subst hk hv; rfl
 | succ c=>simp [mtI] at hk⟩
theorem upd_ne {h:Hp} {b x:Nat} {X:Obj} (hne:x ≠ b):Hp.upd h b X x = h x:=by unfold Hp.upd; rw [if_neg hne]
theorem upd_eq {h:Hp} {b:Nat} {X:Obj}:Hp.upd h b X b = some X:=by unfold Hp.upd; rw [if_pos rfl]
theorem MapH_upd {h:Hp} {b x:Nat} {X:Obj} {mt:MT} {l:List ME} {c:Nat} (hne:x ≠ b) (hm:MapH h x mt l c):MapH (Hp.upd h b X) x mt l c:=⟨by rw [upd_ne hne]; exact hm.1,hm.2⟩
theorem note_old {h:Hp} {b b' c c':Nat} {l m:List ME} {x:ME} {cl:Cl} {i t:Int} (hm:MapH h b mtO l c) (hi:∀ x ∈ l,∃ b' m c',x.v = [.map (some b')]∧b' ≠ b∧MapH h b' mtI m c'∧∀ i,cl x.k i = getO m i) (hd:∀ x ∈ l,∀ y ∈ l,x.k ≠ y.k→x.v ≠ y.v) (hn:∀ o i,(∀ x ∈ l,x.k ≠ o)→cl o i = none)
  (hr:∀ o i t,cl o i = some t→0 ≤ i∧i < 16∧0 ≤ t∧t < 18446744073709551616) (hx:x ∈ l) (hb:x.v = [.map (some b')]) (hI:MapH h b' mtI m c') (i0:0 ≤ i) (i1:i < 16) (t0:0 ≤ t) (t1:t < 18446744073709551616) :
  claimsAt (Hp.upd h b' (mtI.obj (putM m [i] [.int .u64 t] c'))) (.map (some b)) (noteF cl x.k i t):=by
 obtain ⟨b2,m2,c2,e1,e2,e3,e4⟩:=hi x hx
 rw [hb] at e1
 simp only [List.cons.injEq,Value.map.injEq,Option.some.injEq,and_true] at e1
 subst e1
 obtain ⟨rfl,rfl⟩:=uniqI hI e3
 have hF:∀ o' i',noteF cl x.k i t o' i' = if o' = x.k∧i' = i then some t else cl o' i':=fun o' i'=>by unfold noteF; rw [if_pos ⟨i0,i1⟩]
 refine ⟨b,l,c,rfl,MapH_upd (Ne.symm e2) hm,fun y hy=>?_,hd,fun o' i' ho=>?_,fun o' i' t' ht=>?_⟩
 ·by_cases hk:y.k = x.k
  ·have hvv:y.v = [.map (some b')]:=by
    obtain ⟨jx,hjx⟩:=List.getElem?_of_mem hx
    obtain ⟨jy,hjy⟩:=List.getElem?_of_mem hy
    have hj:=pair_get hm.2 hjy hjx hk
    rw [hj,hjx] at hjy
    rw [← Option.some.inj hjy]; exact hb
   refine ⟨b',(putM m [i] [.int .u64 t] c').1,(putM m [i] [.int .u64 t] c').2,hvv,e2,⟨upd_eq,putM_wf hI.2 (putM_len1 (i:=i) (t:=t)).1 (putM_len1 (i:=i) (t:=t)).2⟩,fun i'=>?_⟩
   rw [hF,getO_put,hk,e4]
   by_cases hii:i' = i
   ·simp [hii]
   ·simp [hii]
  ·obtain ⟨b3,m3,c3,f1,f2,f3,f4⟩:=hi y hy
   have hne:b3 ≠ b':=fun he=>hd y hy x hx hk (by rw [f1,hb,he])
   refine ⟨b3,m3,c3,f1,f2,MapH_upd hne f3,fun i'=>?_⟩
   rw [hF,if_neg (fun h=>hk h.1),f4]
 ·rw [hF,if_neg (fun h=>ho x hx h.1.symm),hn o' i' ho]
 ·rw [hF] at ht
  split at ht
  ·rename_i he
   obtain rfl:=Option.some.inj ht
   exact ⟨by omega,by omega,t0,t1⟩
  ·exact hr _ _ _ ht
theorem note_new {h:Hp} {b b' c:Nat} {l:List ME} {cl:Cl} {o:List Int} {i t:Int} (hm:MapH h b mtO l c) (hi:∀ x ∈ l,∃ b' m c',x.v = [.map (some b')]∧b' ≠ b∧MapH h b' mtI m c'∧∀ i,cl x.k i = getO m i) (hd:∀ x ∈ l,∀ y ∈ l,x.k ≠ y.k→x.v ≠ y.v) (hn:∀ o i,(∀ x ∈ l,x.k ≠ o)→cl o i = none)
  (hr:∀ o i t,cl o i = some t→0 ≤ i∧i < 16∧0 ≤ t∧t < 18446744073709551616) (ho:hasM l o = false) (hol:o.length = 32) (hbb:b' ≠ b) (hfree:∀ x ∈ l,x.v ≠ [.map (some b')]) (i0:0 ≤ i) (i1:i < 16) (t0:0 ≤ t) (t1:t < 18446744073709551616) :
  claimsAt (Hp.upd (Hp.upd h b (mtO.obj (putM l o [.map (some b')] c))) b' (mtI.obj (putM [] [i] [.int .u64 t] 0))) (.map (some b)) (noteF cl o i t):=by
 have hF:∀ o' i',noteF cl o i t o' i' = if o' = o∧i' = i then some t else cl o' i':=fun o' i'=>by unfold noteF; rw [if_pos ⟨i0,i1⟩]
 have hput:putM l o [.map (some b')] c = (l ++ [⟨o,[.map (some b')],c⟩],c + 1):=by unfold putM; rw [if_neg (by rw [ho]; simp)]
 have hfit:fitsRow mtO.vpat [.map (some b')]:=⟨rfl,fun c k v hk hv=>by
  cases c with
  | zero=>simp only [mtO,List.getElem?_cons_zero,Option.some.injEq] at hk hv; subst hk hv; rfl
  | succ c=>simp [mtO] at hk⟩
 have hno:=hasM_not ho
 refine ⟨b,(putM l o [.map (some b')] c).1,(putM l o [.map (some b')] c).2,rfl,⟨by rw [upd_ne (Ne.symm hbb)]; exact upd_eq,putM_wf hm.2 (by rw [hol]; rfl) hfit⟩,fun y hy=>?_,fun x hx y hy hk=>?_,fun o' i' ho'=>?_,fun o' i' t' ht=>?_⟩
 ·rw [hput] at hy
  rcases List.mem_append.1 hy with hy | hy
  ·obtain ⟨b3,m3,c3,f1,f2,f3,f4⟩:=hi y hy
   have hne:b3 ≠ b':=fun he=>hfree y hy (by rw [f1,he])
   refine ⟨b3,m3,c3,f1,f2,MapH_upd hne (MapH_upd f2 f3),fun i'=>?_⟩
   rw [hF,if_neg (fun h=>hno y hy h.1),f4]
  ·rw [List.mem_singleton] at hy
   subst hy
   refine ⟨b',(putM [] [i] [.int .u64 t] 0).1,(putM [] [i] [.int .u64 t] 0).2,rfl,hbb,⟨upd_eq,putM_wf (c:=0) (l:=[]) ⟨fun x hx=>(by cases hx),List.Pairwise.nil⟩ (putM_len1 (i:=i) (t:=t)).1 (putM_len1 (i:=i) (t:=t)).2⟩,fun i'=>?_⟩
   rw [hF,getO_put,hn o i' hno]
   by_cases hii:i' = i
   ·simp [hii]
   ·simp [hii,getO]
 ·rw [hput] at hx hy
  rcases List.mem_append.1 hx with hx | hx <;> rcases List.mem_append.1 hy with hy | hy
  ·exact hd x hx y hy hk
  ·rw [List.mem_singleton] at hy; subst hy; exact hfree x hx
  ·rw [List.mem_singleton] at hx; subst hx; exact (hfree y hy).symm
  ·rw [List.mem_singleton] at hx hy; subst hx hy; exact absurd rfl hk
 ·rw [hput] at ho'
  rw [hF,if_neg (fun h=>ho' _ (List.mem_append_right _ (List.mem_singleton.2 rfl)) h.1.symm),hn o' i' fun x hx=>ho' x (List.mem_append_left _ hx)]
 ·rw [hF] at ht
  split at ht
  ·obtain rfl:=Option.some.inj ht
   rename_i he
   exact ⟨by omega,by omega,t0,t1⟩
  ·exact hr _ _ _ ht
end Go.Proofs

set_option linter.unusedSimpArgs false
set_option linter.unusedVariables false
namespace Go.Proofs
open Go Go.Eng
theorem key_one {m:List ME} {c:Nat} (hM:MWf mtI m c) {e:ME} (he:e ∈ m):∃ z,e.k = [z]:=len_one (hM.1 e he).1
theorem getO_some {m:List ME} {i t:Int} (h:getO m i = some t):∃ e ∈ m,e.k = [i]∧vInt (e.v.headD .nilFunc) = t:=by
 unfold getO at h
 obtain ⟨e,he,rfl⟩:=Option.map_eq_some_iff.1 h
 exact ⟨e,List.mem_of_find?_eq_some he,by simpa using List.find?_some he,rfl⟩
theorem getO_mem {m:List ME} {c:Nat} (hM:MWf mtI m c) {e:ME} (he:e ∈ m) {z:Int} (hk:e.k = [z]):getO m z = some (vInt (e.v.headD .nilFunc)):=by
 unfold getO
 cases hf:m.find? fun x=>x.k == [z] with
 | none =>
  rw [List.find?_eq_none] at hf
  exact absurd (by simpa using hk) (hf e he)
 | some y =>
  have hy:y.k = [z]:=by simpa using List.find?_some hf
  obtain ⟨j,hj⟩:=List.getElem?_of_mem he
  obtain ⟨j',hj'⟩:=List.getElem?_of_mem (List.mem_of_find?_eq_some hf)
  have hjj:=pair_get hM hj hj' (hk.trans hy.symm)
  rw [hjj,hj'] at hj
  rw [Option.some.inj hj]; rfl
theorem blockedF_any {m:List ME} {c:Nat} {cl:Cl} {o:List Int} {s t:Int} {L Hs:List Int} (hM:MWf mtI m c) (he:∀ i,cl o i = getO m i) (hr:∀ o i t,cl o i = some t→0 ≤ i∧i < 16∧0 ≤ t∧t < 18446744073709551616):m.any (blkE o s t L Hs) = blockedF cl o s t L Hs:=by
 apply Bool.eq_iff_iff.2
 unfold blockedF
 rw [List.any_eq_true,List.any_eq_true]
 constructor
 ·rintro ⟨e,hem,hb⟩
  obtain ⟨z,hz⟩:=key_one hM hem
  have hg:=getO_mem hM hem hz
  have hc:=(he z).trans hg
  obtain ⟨z0,z1,_⟩:=hr _ _ _ hc
  refine ⟨z.toNat,List.mem_range.2 (by omega),?_⟩
  rw [Int.toNat_of_nonneg z0,hc]
  unfold blkE at hb
  rw [hz] at hb
  exact hb
 ·rintro ⟨i,hi,hb⟩
  cases hc:cl o i with
  | none=>rw [hc] at hb; cases hb
  | some tt =>
   rw [hc] at hb
   obtain ⟨e,hem,hk,hv⟩:=getO_some ((he i).symm.trans hc)
   refine ⟨e,hem,?_⟩
   unfold blkE
   rw [hk,hv]
   exact hb
theorem cl_upd_iter {h:Hp} {v:Value} {cl:Cl} {bi:Nat} {mo:Option Nat} {since st:Nat} {seen:Array Nat} {X:Obj} (hc:claimsAt h v cl) (hb:h bi = some (.mapIter mo since seen st)):claimsAt (Hp.upd h bi X) v cl:=by
 have hne:∀ {b:Nat} {mt:MT} {l:List ME} {c:Nat},MapH h b mt l c→b ≠ bi:=fun hm he=>by
  rw [he] at hm
  have:=hm.1.symm.trans hb
  simp [MT.obj] at this
 obtain ⟨b,l,c,e,hm,hi,hr⟩:=hc
 exact ⟨b,l,c,e,MapH_upd (hne hm) hm,fun x hx=>by
  obtain ⟨b',m,c',e1,e2,e3,e4⟩:=hi x hx
  exact ⟨b',m,c',e1,e2,MapH_upd (hne e3) e3,e4⟩,hr⟩
theorem any_next {m:List ME} {c:Nat} (hM:MWf mtI m c) {e:ME} (he:e ∈ m) {seen:List Nat} {p:ME→Bool}:((m.filter fun y=>(seen ++ [e.born]).contains y.born).any p) = ((m.filter fun y=>seen.contains y.born).any p || p e):=by
 apply Bool.eq_iff_iff.2
 rw [Bool.or_eq_true,List.any_eq_true,List.any_eq_true]
 constructor
 ·rintro ⟨y,hy,hp⟩
  rw [List.mem_filter] at hy
  obtain ⟨hy1,hy2⟩:=hy
  simp only [List.contains_eq_mem,List.mem_append,List.mem_singleton,decide_eq_true_eq] at hy2
  rcases hy2 with h | h
  ·exact .inl ⟨y,List.mem_filter.2 ⟨hy1,by simpa using h⟩,hp⟩
  ·right
   have:y = e:=by
    obtain ⟨i,hi⟩:=List.getElem?_of_mem hy1
    obtain ⟨j,hj⟩:=List.getElem?_of_mem he
    have hij:i = j:=born_get hM hi hj h
    rw [hij,hj] at hi
    exact (Option.some.inj hi).symm
   rw [← this]; exact hp
 ·rintro (⟨y,hy,hp⟩ | hp)
  ·rw [List.mem_filter] at hy
   exact ⟨y,List.mem_filter.2 ⟨hy.1,by have:=hy.2; simp only [List.contains_eq_mem,decide_eq_true_eq] at this; simp [this]⟩,hp⟩
  ·exact ⟨e,List.mem_filter.2 ⟨he,by simp⟩,hp⟩
where
 born_get {m:List ME} {c:Nat} (hM:MWf mtI m c) {i j:Nat} {x y:ME} (hi:m[i]? = some x) (hj:m[j]? = some y) (h:x.born = y.born):i = j:=by
  have hp:=List.pairwise_iff_getElem.1 hM.2
  obtain ⟨h1,e1⟩:=List.getElem?_eq_some_iff.1 hi
  obtain ⟨h2,e2⟩:=List.getElem?_eq_some_iff.1 hj
  rcases Nat.lt_trichotomy i j with hlt | heq | hlt
  ·have:=(hp i j h1 h2 hlt).1; rw [e1,e2] at this; omega
  ·exact heq
  ·have:=(hp j i h2 h1 hlt).1; rw [e1,e2] at this; omega
theorem iterLeft_eq {h:Hp} {it:Value} {bi b since st c:Nat} {seen:List Nat} {m:List ME} (hit:it = .pointer (some ⟨bi,0,none⟩)) (hb:h bi = some (.mapIter (some b) since seen.toArray st)) (hM:MapH h b mtI m c):iterLeft h it = (m.filter fun y=>!(seen.contains y.born)).length:=by
 subst hit
 unfold iterLeft
 simp only [hb,hM.1,MT.obj,List.toList_toArray,List.contains_toArray]
 rw [List.filter_map,List.length_map]
 rfl
theorem left_less {m:List ME} {e:ME} (he:e ∈ m) {seen:List Nat} (hn:¬ e.born ∈ seen):(m.filter fun y=>!((seen ++ [e.born]).contains y.born)).length < (m.filter fun y=>!(seen.contains y.born)).length:=by
 have h1:(m.filter fun y=>!((seen ++ [e.born]).contains y.born)) = ((m.filter fun y=>!(seen.contains y.born)).filter fun y=>!((seen ++ [e.born]).contains y.born)):=by
  rw [List.filter_filter]
  refine List.filter_congr fun y hy=>?_
  by_cases hs:y.born ∈ seen <;> simp [hs]
 rw [h1]
 refine List.length_filter_lt_length_iff_exists.2 ⟨e,List.mem_filter.2 ⟨he,by simp [hn]⟩,by simp⟩
section
variable {h0 H:Hp} {v it:Value} {o:List Int} {s t:Int} {L Hs:List Int} {cl:Cl}
theorem bl_start_none {bi:Nat} (hc:claimsAt h0 v cl) (hno:∀ i,cl o i = none) (hle:Hp.le h0 H) (hit:it = .pointer (some ⟨bi,0,none⟩)) (hb:H bi = some (.mapIter none 0 #[] 0)):blkI h0 H v it o s t L Hs false:=fun cl' h'=>by
 rw [cl_uniq hc h']
 exact ⟨cl_mono hc hle,[],[],⟨bi,none,0,0,hit,hb,.inl ⟨rfl,rfl⟩⟩,fun i=>by rw [hno]; rfl,rfl⟩
theorem bl_start_some {bi b c:Nat} {m:List ME} (hc:claimsAt h0 v cl) (hm:MapH h0 b mtI m c) (he:∀ i,cl o i = getO m i) (hle:Hp.le h0 H) (hit:it = .pointer (some ⟨bi,0,none⟩)) (hb:H bi = some (.mapIter (some b) c #[] c)):blkI h0 H v it o s t L Hs false:=fun cl' h'=>by
 rw [cl_uniq hc h']
 have hmH:=MapH_mono hm hle
 have hne:bi ≠ b:=fun e=>by
  rw [e] at hb
  have:=hmH.1.symm.trans hb
  simp [MT.obj] at this
 refine ⟨cl_mono hc hle,m,[],⟨bi,some b,c,c,hit,hb,.inr ⟨b,c,rfl,hne,hmH,Nat.le_refl _,.inl rfl,fun n hn=>by cases hn⟩⟩,he,?_⟩
 have:(m.filter fun e=>([]:List Nat).contains e.born) = []:=by simp
 rw [this]; rfl
theorem bl_next {bi b since st c:Nat} {m:List ME} {seen:List Nat} {e:ME} {x y:Bool} (hc:claimsAt h0 v cl) (hcH:claimsAt H v cl) (hit:it = .pointer (some ⟨bi,0,none⟩)) (hb:H bi = some (.mapIter (some b) since seen.toArray st)) (hne:bi ≠ b) (hm:MapH H b mtI m c) (hcs:c ≤ since) (hseen:∀ n ∈ seen,∃ e ∈ m,e.born = n)
  (he:∀ i,cl o i = getO m i) (hem:e ∈ m) (hx:x = (m.filter fun e=>seen.contains e.born).any (blkE o s t L Hs)) (hy:y = (x || blkE o s t L Hs e)):blkI h0 (Hp.upd H bi (.mapIter (some b) since (seen ++ [e.born]).toArray c)) v it o s t L Hs y:=fun cl' h'=>by
 rw [cl_uniq hc h']
 refine ⟨cl_upd_iter hcH hb,m,seen ++ [e.born],⟨bi,some b,since,c,hit,upd_eq,.inr ⟨b,c,rfl,hne,MapH_upd (Ne.symm hne) hm,hcs,.inr (.inr ⟨e,hem,(hm.2.1 e hem).2.2⟩),fun n hn=>?_⟩⟩,he,?_⟩
 ·rcases List.mem_append.1 hn with h | h
  ·exact hseen n h
  ·rw [List.mem_singleton] at h; exact ⟨e,hem,h.symm⟩
 ·rw [any_next hm.2 hem,← hx,hy]
theorem bl_end {since c:Nat} {m:List ME} {seen:List Nat} {x:Bool} (hM:MWf mtI m c) (hc:claimsAt h0 v cl) (hcH:claimsAt H v cl) (hcs:c ≤ since) (he:∀ i,cl o i = getO m i) (hx:x = (m.filter fun e=>seen.contains e.born).any (blkE o s t L Hs)) (hall:∀ e ∈ m,e.born < since→e.born ∈ seen) :
  ∀ cl',claimsAt h0 v cl'→claimsAt H v cl'∧x = blockedF cl' o s t L Hs:=fun cl' h'=>by
 rw [cl_uniq hc h']
 refine ⟨hcH,?_⟩
 have hf:(m.filter fun e=>seen.contains e.born) = m:=List.filter_eq_self.2 fun e hem=>by
  have:=hall e hem (by have:=(hM.1 e hem).2.2; omega)
  simpa using this
 obtain ⟨b,l,c0,rfl,_,_,_,_,hr⟩:=hc
 rw [hf] at hx
 rw [hx]; exact blockedF_any hM he hr
end
end Go.Proofs

set_option linter.unusedSimpArgs false
set_option linter.unusedVariables false
namespace Go.Proofs
open Go Go.Eng
set_option maxRecDepth 20000
theorem newCl_ok:newClC.ok Tryz.prog:=newCl_of (by simp) fun ρ hg hp=>by
 simp (config:={ maxSteps:=4000000 }) [o_newCl,newClC]
 intro u _ v _ b hv hu
 exact ⟨b,[],0,hv,⟨by rw [hu]; simp [Hp.one,MT.obj],fun x hx=>(by cases hx),List.Pairwise.nil⟩,fun x hx=>(by cases hx),fun x hx=>(by cases hx),fun _ _ _=>rfl,fun _ _ _ h=>(by cases h)⟩
theorem cur_ok:curC.ok Tryz.prog:=cur_of (by simp) fun ρ hg hp=>by
 obtain ⟨h0,h1,h2,h3⟩:=hp
 simp (config:={ maxSteps:=4000000 }) [o_cur,curC]
 have hu:(ρ 0).i ≤ (ρ 1).i→arithOf .sub .u64 (ρ 1).i (ρ 0).i = (ρ 1).i - (ρ 0).i:=fun h=>by
  show IntKind.wrap .u64 _ = _
  rw [wrap64u]; omega
 refine ⟨fun h=>?_,fun h=>?_⟩
 ·rw [hu h]; unfold curF; rw [decide_eq_true h,Bool.true_and]; rfl
 ·unfold curF; rw [decide_eq_false (by omega),Bool.false_and]
theorem fold_row (d:Rows'):[cellX d 0,cellX d 1,cellX d 2,cellX d 3,cellX d 4,cellX d 5,cellX d 6,cellX d 7,cellX d 8,cellX d 9,cellX d 10,cellX d 11,cellX d 12,cellX d 13,cellX d 14,cellX d 15,cellX d 16,cellX d 17,cellX d 18,cellX d 19,cellX d 20,cellX d 21,cellX d 22,cellX d 23,cellX d 24,cellX d 25,cellX d 26,cellX d 27,cellX d 28,cellX d 29,cellX d 30,cellX d 31] = rowL d 32:=rfl
theorem fold_mtO:(⟨true,[.u8,.u8,.u8,.u8,.u8,.u8,.u8,.u8,.u8,.u8,.u8,.u8,.u8,.u8,.u8,.u8,.u8,.u8,.u8,.u8,.u8,.u8,.u8,.u8,.u8,.u8,.u8,.u8,.u8,.u8,.u8,.u8],false,[.any],[.vnilm]⟩:MT) = mtO:=rfl
theorem fold_mtI:(⟨false,[.i64],false,[.int .u64],[.vint .u64 (.lit 0)]⟩:MT) = mtI:=rfl
theorem zeroO (ρ:Env):List.map (fun t=>(T.den ρ t).v) mtO.zero = [.map none]:=rfl
theorem zeroI (ρ:Env):List.map (fun t=>(T.den ρ t).v) mtI.zero = [.int .u64 0]:=rfl
theorem cellV_one (row:List Value):cellV [row] 0 0 = row.headD .nilFunc:=by cases row <;> rfl
theorem getM_has {l:List ME} {k:List Int} {z:List Value} (h:hasM l k = true):∃ x ∈ l,x.k = k∧getM l k z = x.v:=by
 obtain ⟨j,x,hj,hk,_,hg⟩:=findM_some (mt:=mtO) (i:=0) h
 exact ⟨x,List.mem_of_getElem? hj,hk,hg z⟩
theorem noteF_no {cl:Cl} {o:List Int} {i t:Int} (h:peerIs i = false):noteF cl o i t = cl:=by
 unfold noteF
 rw [if_neg (of_decide_eq_false h)]
theorem getM_put {l:List ME} {k:List Int} {v z:List Value} {c:Nat} (h:hasM l k = false):getM (putM l k v c).1 k z = v:=by
 have hn:=hasM_not h
 unfold putM
 rw [if_neg (by rw [h]; simp)]
 unfold getM
 simp only
 rw [List.find?_append]
 have:l.find? (fun x=>x.k == k) = none:=by
  rw [List.find?_eq_none]
  intro x hx hk
  exact hn x hx (by simpa using hk)
 rw [this]; simp
theorem star_leM {ρ:Env} {l:List SH} {H:Hp} (n t:Nat) (hs:star ρ l H) (hm:SH.abs n t ∈ l):Hp.le (ρ n).h H:=by
 obtain ⟨hb,lb,db⟩:=star_mem_abs hs hm
 exact Hp.le_trans db lb
theorem star_apart {ρ:Env} {n m t t':Nat} {H:Hp} (hs:star ρ [SH.abs n t,SH.abs m t'] H):Hp.disj (ρ n).h (ρ m).h:=by
 obtain ⟨h1,h2,hd,hu,hx,h3,h4,hd2,hu2,hy,_⟩:=hs
 intro b
 cases hb1:(ρ n).h b with
 | none=>exact .inl rfl
 | some X =>
  cases hb2:(ρ m).h b with
  | none=>exact .inr rfl
  | some Y =>
   have e1:=hx.1 b X hb1
   have e2:=hy.1 b Y hb2
   have e3:h2 b = some Y:=by rw [hu2]; simp [Hp.union,e2]
   rcases hd b with h | h
   ·rw [e1] at h; cases h
   ·rw [e3] at h; cases h
theorem fit_map {b:Nat}:fitsRow mtO.vpat [.map (some b)]:=⟨rfl,fun c k v hk hv=>by
 cases c with
 | zero=>simp only [mtO,List.getElem?_cons_zero,Option.some.injEq] at hk hv; subst hk hv; rfl
 | succ c=>simp [mtO] at hk⟩
theorem note_ok:noteC.ok Tryz.prog:=note_of (by simp [peer_ok]) fun ρ hg hp=>by
 obtain ⟨⟨cl,hcl⟩,h0,h1⟩:=hp
 have hcl0:=hcl
 simp (config:={ maxSteps:=4000000 }) [o_note,noteC,peerC,fold_row,fold_mtO,fold_mtI,cellV_one,denVs,zeroO,zeroI]
 obtain ⟨b,l,c,hv,hm,hi,hd,hn,hr⟩:=hcl
 intro u _ p _ hp
 refine ⟨fun hpf cl' h'=>by rw [noteF_no (hp ▸ hpf)]; exact h',fun hpt=>⟨l,.inr ⟨b,hv,c,hm⟩,?_⟩⟩
 have hpp:0 ≤ (ρ 2).i∧(ρ 2).i < 16:=of_decide_eq_true (hp ▸ hpt:peerIs (ρ 2).i = true)
 cases hh:hasM l (rowL (ρ 1).d 32) with
 | false =>
  refine .inl ⟨by rw [getM_none hh]; rfl,fun m _ v _ b' hvv hmh H _ hst=>?_⟩
  obtain ⟨hA,lA,dA⟩:=star_mem_abs hst (n:=10) (t:=1003) (by simp)
  obtain ⟨hB,lB,dB⟩:=star_mem_abs hst (n:=5) (t:=1003) (by simp)
  have hle:Hp.le (ρ 5).h H.h:=by
   have h:=star_leM 5 1003 hst (by simp)
   simpa using h
  have hone:H.h b' = some (.map #[] 0):=by
   have h:=star_leM 10 1003 hst (by simp)
   have h:Hp.le m.h H.h:=by simpa using h
   exact h b' _ (by rw [hmh]; simp [Hp.one])
  have hnew:∀ X,(ρ 5).h b' = some X→False:=by
   intro X hX
   have h:=star_apart hst
   have h:Hp.disj m.h (ρ 5).h:=by simpa using h
   rcases h b' with h | h
   ·rw [hmh] at h; simp [Hp.one] at h
   ·rw [hX] at h; cases h
  have hbb:b' ≠ b:=fun he=>hnew _ (by rw [he]; exact hm.1)
  have hfree:∀ x ∈ l,x.v ≠ [.map (some b')]:=fun x hx he=>by
   obtain ⟨b3,m3,c3,f1,f2,f3,f4⟩:=hi x hx
   rw [he] at f1
   simp only [List.cons.injEq,Value.map.injEq,Option.some.injEq,and_true] at f1
   exact hnew _ (by rw [f1]; exact f3.1)
  have hmH:=MapH_mono hm hle
  have hiH:∀ x ∈ l,∃ b' m c',x.v = [.map (some b')]∧b' ≠ b∧MapH H.h b' mtI m c'∧∀ i,cl x.k i = getO m i:=fun x hx=>by
   obtain ⟨b3,m3,c3,f1,f2,f3,f4⟩:=hi x hx
   exact ⟨b3,m3,c3,f1,f2,MapH_mono f3 hle,f4⟩
  have hput:=getM_put (z:=[.map none]) (v:=[v.v]) (c:=c) hh
  have hfit:fitsRow mtO.vpat [v.v]:=by rw [hvv]; exact fit_map
  refine ⟨b,hv,l,c,hmH,fun u4 _ h4=>⟨(putM l (rowL (ρ 1).d 32) [v.v] c).1,.inr ⟨b,hv,(putM l (rowL (ρ 1).d 32) [v.v] c).2,⟨by rw [h4]; exact upd_eq,putM_wf hm.2 (by simp [rowL,mtO]) hfit⟩⟩,b',by rw [hput,hvv]; rfl,[],0,⟨by rw [h4,upd_ne hbb,hone]; rfl,fun x hx=>(by cases hx),List.Pairwise.nil⟩,fun u5 _ h5 cl' h'=>?_⟩⟩
  rw [cl_uniq hcl0 h',h5,hv,h4,hvv]
  exact note_new hmH hiH hd hn hr hh (by simp [rowL]) hbb hfree hpp.1 hpp.2 h0 h1
 | true =>
  obtain ⟨x,hx,hk,hgx⟩:=getM_has (z:=[.map none]) hh
  obtain ⟨b',m,c',e1,e2,e3,e4⟩:=hi x hx
  refine .inr ⟨⟨b',by rw [hgx,e1]; rfl⟩,l,.inr ⟨b,hv,c,hm⟩,b',by rw [hgx,e1]; rfl,m,c',e3,fun u5 _ h5 cl' h'=>?_⟩
  rw [cl_uniq hcl0 h',h5,hv,← hk]
  exact note_old hm hi hd hn hr hx e1 e3 hpp.1 hpp.2 h0 h1
theorem blocked_ok:blockedC.ok Tryz.prog:=blocked_of (by simp [set_ok,cur_ok,better_ok]) fun ρ hg hp=>by
 obtain ⟨⟨cl,hcl⟩,hO,⟨hl,h1,hr⟩,⟨hl2,h12,hr2⟩,⟨hGr,hGd⟩,t0,t1⟩:=hp
 simp only [Nat.reduceAdd] at hl h1 hr hl2 h12 hr2
 have hcl0:=hcl
 simp (config:={ maxSteps:=4000000 }) [o_blocked,blockedC,blockedI,setC,curC,betterC,iHpA,intsIn,gOk,fold_row,fold_mtO,fold_mtI,cellV_one,denVs,zeroO,zeroI,hl,hl2,hO,hGr,hGd]
 obtain ⟨b,l,c,hv,hm,hi,hd,hn,hrr⟩:=hcl
 repeat' (first | with_reducible apply And.intro | with_reducible intro _)
 all_goals first
  | omega
  | exact rows_in (by assumption) (by assumption)
  | skip
 refine ⟨l,.inr ⟨b,hv,c,hm⟩,?_⟩
 have hstart:∃ (mo:Option Nat) (clock:Nat),((getM l (rowL (ρ 1).d 32) [Value.map none]).head?.getD .nilFunc = .map none∧mo = none∧clock = 0∨∃ b:Nat,(getM l (rowL (ρ 1).d 32) [Value.map none]).head?.getD .nilFunc = .map (some b)∧mo = some b∧∃ l,MapH (ρ 5).h b mtI l clock)∧∀ (H:Hp) (bi:Nat) (it:Value),Hp.le (ρ 5).h H→it = .pointer (some ⟨bi,0,none⟩)→H bi = some (.mapIter mo clock #[] clock)→blkI (ρ 5).h H (ρ 4).v it (rowL (ρ 1).d 32) (ρ 2).i (ρ 3).i (ints (ρ 9).d) (ints (ρ 14).d) false:=by
  cases hh:hasM l (rowL (ρ 1).d 32) with
  | false =>
   have hg0:=getM_none (z:=[.map none]) hh
   exact ⟨none,0,.inl ⟨by rw [hg0]; rfl,rfl,rfl⟩,fun H bi it hle hit hb=>bl_start_none hcl0 (fun i=>hn _ _ (hasM_not hh)) hle hit hb⟩
  | true =>
   obtain ⟨x,hx,hk,hgx⟩:=getM_has (z:=[.map none]) hh
   obtain ⟨b',m,c',e1,e2,e3,e4⟩:=hi x hx
   exact ⟨some b',c',.inr ⟨b',by rw [hgx,e1]; rfl,rfl,m,e3⟩,fun H bi it hle hit hb=>bl_start_some hcl0 e3 (fun i=>by rw [← hk]; exact e4 i) hle hit hb⟩
 obtain ⟨mo,clock,hmo,hst0⟩:=hstart
 refine ⟨mo,clock,hmo,?_⟩
 intro I1 _ I2 _ bi hit hI1 H _ hst
 have hle:Hp.le I1.h H.h∧Hp.le (ρ 5).h H.h:=by
  have h1:=star_leM 54 1003 hst (by simp)
  have h2:=star_leM 5 1003 hst (by simp)
  exact ⟨by simpa using h1,by simpa using h2⟩
 have hbi:H.h bi = some (.mapIter mo clock #[] clock):=hle.1 _ _ (by rw [hI1]; simp [Hp.one])
 refine ⟨⟨seen_bools (l:=[_,_,_,_,_,_,_,_,_,_,_,_,_,_,_,_]) (by assumption) ints_len',seen_bools (l:=[_,_,_,_,_,_,_,_,_,_,_,_,_,_,_,_]) (by assumption) ints_len',hst0 H.h bi I2.v hle.2 hit hbi⟩,?_⟩
 intro F13 _ F14 _ x _ it _ H2 _ hs13 hs14 hB
 obtain ⟨hcH,m,seen,⟨bi2,mo2,since,stp,hit2,hbi2,hmo2⟩,hco,hx⟩:=hB cl hcl0
 refine ⟨bi2,hit2,since,seen,stp,mo2,hbi2,?_⟩
 rcases hmo2 with ⟨rfl,rfl⟩ | ⟨b2,c2,rfl,hne,hM,hcs,hstt,hseen⟩
 ·exact bl_end (m:=[]) (c:=0) (since:=0) ⟨fun x hx=>(by cases hx),List.Pairwise.nil⟩ hcl0 hcH (Nat.le_refl _) hco hx (fun e he=>by cases he)
 ·refine ⟨m,c2,hM,hstt,fun hall=>bl_end hM.2 hcl0 hcH hcs hco hx hall,fun e he hns u2 _ hu2=>⟨bi2,hit2,since,seen,c2,b2,m,e,by rw [hu2]; exact upd_eq,by rw [hu2]; exact MapH_upd (Ne.symm hne) hM,he,?_⟩⟩
  have hbl:∀ y:Bool,y = (x.b || blkE (rowL (ρ 1).d 32) (ρ 2).i (ρ 3).i (ints (ρ 9).d) (ints (ρ 14).d) e)→blkI (ρ 5).h u2.h (ρ 4).v it.v (rowL (ρ 1).d 32) (ρ 2).i (ρ 3).i (ints (ρ 9).d) (ints (ρ 14).d) y:=fun y hy=>by
   rw [hu2]; exact bl_next hcl0 hcH hit2 hbi2 hne hM hcs hseen hco he hx hy
  have hless:iterLeft u2.h it.v < iterLeft H2.h it.v:=by
   rw [iterLeft_eq (h:=H2.h) hit2 hbi2 hM,iterLeft_eq (h:=u2.h) (seen:=seen ++ [e.born]) hit2 (by rw [hu2]; exact upd_eq) (by rw [hu2]; exact MapH_upd (Ne.symm hne) hM)]
   exact left_less he hns
  obtain ⟨z,hz⟩:=key_one hM.2 he
  have hg:=(hco z).trans (getO_mem hM.2 he hz)
  obtain ⟨z0,z1,v0,v1⟩:=hrr _ _ _ hg
  have hcv:cellX [e.v] 0 = vInt (e.v.headD .nilFunc):=by unfold cellX; cases e.v <;> rfl
  have hbe:∀ a b c d:Bool,a = curF (vInt (e.v.headD .nilFunc)) (ρ 3).i→b = decide (z ∈ ints (ρ 9).d)→c = decide (z ∈ ints (ρ 14).d)→d = betF (rowL (ρ 1).d 32) z (ρ 2).i→blkE (rowL (ρ 1).d 32) (ρ 2).i (ρ 3).i (ints (ρ 9).d) (ints (ρ 14).d) e = (a && b && !c && d):=by
   intro a b c d ha hb hc hd
   unfold blkE
   rw [hz,ha,hb,hc,hd,List.headD_cons]
  have hkx:cellX [kVals [IntKind.i64] e.k] 0 = z:=by rw [hz]; rfl
  have hkx':cellX [kVals mtI.kks e.k] 0 = z:=hkx
  rw [hcv,hkx']
  have hB:=fun (r:U) (hr':r.b = curF (vInt (e.v.headD .nilFunc)) (ρ 3).i)=>hbe r.b (decide (z ∈ ints (ρ 9).d)) (decide (z ∈ ints (ρ 14).d)) (betF (rowL (ρ 1).d 32) z (ρ 2).i) hr' rfl rfl rfl
  refine ⟨fun hxt=>⟨⟨hs13,hs14,hbl true (by rw [hxt,Bool.true_or])⟩,hless⟩,fun hxf=>⟨⟨v0,v1,t0,t1⟩,fun r _ hr'=>⟨fun hrt=>⟨z0,z1,seen_pos hs14,fun hf14=>⟨seen_pos hs13,fun hf13 w _ hw=>⟨⟨hs13,hs14,hbl w.b ?_⟩,hless⟩,fun hf13=>⟨⟨hs13,hs14,hbl false ?_⟩,hless⟩⟩,fun hf14=>⟨⟨hs13,hs14,hbl false ?_⟩,hless⟩⟩,fun hrf=>⟨⟨hs13,hs14,hbl false ?_⟩,hless⟩⟩⟩⟩
  ·rw [hxf,hB r hr',hrt,decide_eq_true ((seen_iff hs14 ints_len' z0 z1).1 hf14),decide_eq_false (seen_not hs13 ints_len' z0 z1 hf13),hw]; generalize betF (rowL (ρ 1).d 32) z (ρ 2).i = q; cases q <;> rfl
  ·rw [hxf,hB r hr',hrt,decide_eq_true ((seen_iff hs14 ints_len' z0 z1).1 hf14),decide_eq_true ((seen_iff hs13 ints_len' z0 z1).1 hf13)]; generalize betF (rowL (ρ 1).d 32) z (ρ 2).i = q; cases q <;> rfl
  ·rw [hxf,hB r hr',hrt,decide_eq_false (seen_not hs14 ints_len' z0 z1 hf14)]; generalize betF (rowL (ρ 1).d 32) z (ρ 2).i = q; cases q <;> rfl
  ·rw [hxf,hB r hr',hrf]; generalize betF (rowL (ρ 1).d 32) z (ρ 2).i = q; cases q <;> simp
end Go.Proofs

set_option linter.unusedSimpArgs false
set_option linter.unusedVariables false
namespace Go.Eng
open Go Go.Proofs
structure ManV where
 k:Int
 n:Int
 t:Int
 s:Int
 o:List Int
 D:List (List Int)
def ManV.ok (m:ManV):Bool:=manOk m.k m.n m.t m.s m.D.length
def ManV.bytes (m:ManV):List Int:=manHead m.k m.n m.t m.s m.o ++ m.D.flatten
abbrev PcL:=List (Int × List Int)
def mdHp (m d c:Nat):SH:=.arr m 27 kMan (.var d) (.var c)
def gaHp (g o m p l q:Nat):SH:=.cells g 165 (cellsT .u8 o 32 ++ [.vptr m (.lit 0) 37 0,.vslice p (.lit 0) (.var l) (.var q) 2])
def gaP (g:Nat):SV:=.one (.vptr g (.lit 0) 34 0)
def gaAll (b tag:Nat):List SH:=[gaHp b (b + 1) (b + 2) (b + 5) (b + 6) (b + 7),mdHp (b + 2) (b + 3) (b + 4),pcHp (b + 5) (b + 8) (b + 7),.abs (b + 9) tag]
def manRow (h:Hp) (d:Rows') (m:ManV):Prop:=∃ row D,d = [row]∧fitsRow kMan row∧Rd h k32 (row[36]?.getD .nilFunc) D∧dgsOk D∧dgs D = m.D∧rowI row 0 = m.k∧rowI row 1 = m.n∧rowI row 2 = m.t∧rowI row 3 = m.s∧((List.range 32).map fun j=>rowI row (4 + j)) = m.o∧allM m.o∧m.ok = true
def pcsIs (h:Hp) (P:Rows') (L:PcL):Prop:=P.length = L.length∧pcOk h P P.length∧∀ j,j < P.length→(pcI P j,pcD h P j) = L.getD j (0,[])
def gaIs (h:Hp) (r:Option Addr) (d:Rows') (c n:Int) (P:Rows') (M:Option ManV) (L:PcL):Prop:=n = P.length∧pcsIs h P L∧(∀ x ∈ L,(x.2.length:Int) ≤ 9000)∧L.length ≤ 255∧((M = none∧r = none∧c = 0∧d = []∧L = [])∨∃ m,M = some m∧c = 1∧manRow h d m∧L ≠ [])
def readyF (M:Option ManV) (L:PcL):Bool:=match M with
 | some m=>decide (m.k ≤ L.length)
 | none=>false
def gaB (ρ:Env) (b:Nat) (M:Option ManV) (L:PcL):Prop:=gaIs (ρ (b + 9)).h (ρ (b + 2)).r (ρ (b + 3)).d (ρ (b + 4)).i (ρ (b + 6)).i (ρ (b + 8)).d M L
def newGaC:Ctr:={ fn := 45,nv:=1,args:=[dgV 0],heap:=[],ro:=[],pre:=fun _=>True,alts:=[
 { k:=1,ret:=gaP 1,heap:=[.cells 1 165 (cellsT .u8 0 32 ++ [.vnilp,.vnils])],post:=fun _=>True }] }
def readyC:Ctr:={ fn := 47,nv:=10,args:=[gaP 0],heap:=[],ro:=gaAll 0 20,pre:=fun ρ=>∃ M L,gaB ρ 0 M L,alts:=[
 { k:=1,ret:=.one (.vbool (.var 10)),heap:=[],post:=fun ρ=>∀ M L,gaB ρ 0 M L→(ρ 10).b = readyF M L }] }
def indsC:Ctr:={ fn := 55,nv:=10,args:=[gaP 0],heap:=[],ro:=gaAll 0 20,pre:=fun ρ=>∃ M L,gaB ρ 0 M L,alts:=[
 { k:=4,ret:=.one (.vslice 10 (.lit 0) (.var 11) (.var 12) 1),heap:=[iHp 10 13 12],post:=fun ρ=>∀ M L,gaB ρ 0 M L→isInts (ρ 13).d (ρ 11).i (L.map Prod.fst) }] }
def indsI:Inv:={ key:=5,nv:=5,env:=[(3,.one (.vslice 1000 (.lit 0) (.var 1001) (.var 1002) 1)),(12,pcS 5 6 7),(13,iv .i64 (.var 6)),(14,iv .i64 (.var 1004))],heap:=[iHp 1000 1003 1002],inv:=(fun ρ=>0 ≤ (ρ 1004).i∧(ρ 1004).i ≤ (ρ 6).i∧isInts (ρ 1003).d (ρ 1001).i (idxL (ρ 8).d (ρ 1004).i.toNat)),mu:=(fun ρ=>((ρ 6).i - (ρ 1004).i).toNat) }
def cloneDC:Ctr:={ fn := 90,nv:=5,args:=[.one (.vslice 0 (.lit 0) (.var 1) (.var 2) 32)],heap:=[],ro:=[dgsHp 0 3 4],pre:=fun ρ=>0 ≤ (ρ 1).i∧(ρ 1).i = (ρ 3).d.length∧(ρ 1).i ≤ 4398046510976,alts:=[
 { k:=3,ret:=.one (.vslice 5 (.lit 0) (.var 1) (.var 6) 32),heap:=[dgsHp 5 7 6],post:=fun ρ=>(ρ 7).d = (ρ 3).d }] }
def offE (o:List Int) (M:Option ManV) (L:PcL) (m:ManV) (i:Int) (b:List Int):Int :=
 if m.ok = false then 2 else if sha m.bytes ≠ o then 20 else if chkE m.k m.n m.t m.s m.D.length m.D i b ≠ 0 then chkE m.k m.n m.t m.s m.D.length m.D i b else if i ∈ L.map Prod.fst then 7 else if readyF M L then 8 else 0
def argM (ρ:Env) (r:Nat):ManV:=⟨(ρ r).i,(ρ (r + 1)).i,(ρ (r + 2)).i,(ρ (r + 3)).i,rowL (ρ (r + 4)).d 32,dgs (ρ (r + 8)).d⟩
def offPre (ρ:Env):Prop:=(∃ M L,gaB ρ 0 M L)∧allM (rowL (ρ 1).d 32)∧manIn ρ 10∧i64P (ρ 20).i∧pieceArgIn ρ 20∧(ρ 22).i ≤ 9000
def offerC:Ctr:={ fn := 48,nv:=28,ip:=[gIp 26,(1002,9)],args:=[gaP 0,manAt 10,pieceArg 20],heap:=gaAll 0 20,ro:=[dgsHp 15 18 19,pieceHp 20,gHp 26 27],pre:=fun ρ=>offPre ρ∧gOk ρ 26 27 gR,alts:=[
 { k:=9,ret:=iv .i64 (.var 36),heap:=[gaHp 0 1 28 31 32 33,mdHp 28 29 30,pcHp 31 34 33,.abs 35 20],post:=fun ρ=>∀ M L,gaB ρ 0 M L→(ρ 36).i = offE (rowL (ρ 1).d 32) M L (argM ρ 10) (ρ 20).i (bI (ρ 24).d)∧gaIs (ρ 35).h (ρ 28).r (ρ 29).d (ρ 30).i (ρ 32).i (ρ 34).d (if (ρ 36).i = 0 then some (argM ρ 10) else M) (if (ρ 36).i = 0 then L ++ [((ρ 20).i,bI (ρ 24).d)] else L) }] }
end Go.Eng

set_option linter.unusedSimpArgs false
set_option linter.unusedVariables false
set_option maxRecDepth 100000
namespace Go.Proofs
open Go Go.Eng

def o_newGa:Out:=(.fresh 1 (.fresh 2 (.ret 0 (sg 1 [bg 1 2]))))
theorem o_newGa_eq:treeOf ⟨Tryz.prog,newGaC,[],[]⟩ 100000 Tryz.f45 = o_newGa:=by kernel_rfl
theorem newGa_of (hd:∀ c ∈ ([]:List Ctr),c.ok Tryz.prog) (h:∀ ρ:Env,ρ.good→(newGaC).pre ρ→o_newGa.den ⟨Tryz.prog,newGaC,[],[]⟩ ρ):(newGaC).ok Tryz.prog :=
 ok_of_tree Tryz.func45 (fun a w=>Tryz.call45 a w) hd 100000 (fun ρ hg hp=>by rw [o_newGa_eq]; exact h ρ hg hp)
def o_ready:Out:=(.br (.not (.and (.cmp .eql (.dlen (.var 3)) (.lit 0)) (.isnil 2)))
 (.need (.cmp .leq (.lit 0) (.var 6)) (.need (.cmp .lss (.lit 0) (.dlen (.var 3))) (.ret 0 (sg 10 [bt 10 (.cmp .geq (.var 6) (.icell (.var 3) (.lit 0) 0))]))))
 (.ret 0 (sg 10 [bt 10 (.bl false)])))
theorem o_ready_eq:treeOf ⟨Tryz.prog,readyC,[],[]⟩ 100000 Tryz.f47 = o_ready:=by kernel_rfl
theorem ready_of (hd:∀ c ∈ ([]:List Ctr),c.ok Tryz.prog) (h:∀ ρ:Env,ρ.good→(readyC).pre ρ→o_ready.den ⟨Tryz.prog,readyC,[],[]⟩ ρ):(readyC).ok Tryz.prog :=
 ok_of_tree Tryz.func47 (fun a w=>Tryz.call47 a w) hd 100000 (fun ρ hg hp=>by rw [o_ready_eq]; exact h ρ hg hp)
def o_inds:Out:=(.fresh 10 (.need (.cmp .leq (.lit 0) (.var 6)) (.inv 0 11 (sg 1000 [bt 1003 .dnil,bt 1004 (.lit 0),bt 1002 (.lit 0),bt 1001 (.lit 0),bg 1000 10]) (.fresh 11 (.fresh 12 (.fresh 13 (.fresh 14 (.fresh 15 (.hyp 0 11 (.br (.cmp .lss (.var 15) (.var 6))
 (.need (.cmp .leq (.lit 0) (.var 15)) (.need (.cmp .lss (.var 15) (.dlen (.var 8))) (.fresh 16 (.fresh 17 (.need (.cmp .eql (.var 12) (.dlen (.var 14))) (.need (.cmp .leq (.tims (.lit 8) (.plus (.var 12) (.lit 1))) (.lit 140737488355328)) (.fresh 18 (.fresh 19 (.back 0 11 (sg 1000 [bt 1003 (.dapp (.var 14) (.rcons (.vint .i64 (.icell (.var 8) (.var 15) 0)) .rnil)),bt 1004 (.arith .add .i64 (.var 15) (.lit 1)),bv 1002 19,bt 1001 (.plus (.var 12) (.lit 1)),bg 1000 18]))))))))))
 (.ret 0 (sg 10 [bv 13 14,bv 12 13,bv 11 12,bg 10 11]))))))))))))
theorem o_inds_eq:treeOf ⟨Tryz.prog,indsC,[],[indsI]⟩ 100000 Tryz.f55 = o_inds:=by kernel_rfl
theorem inds_of (hd:∀ c ∈ ([]:List Ctr),c.ok Tryz.prog) (h:∀ ρ:Env,ρ.good→(indsC).pre ρ→o_inds.den ⟨Tryz.prog,indsC,[],[indsI]⟩ ρ):(indsC).ok Tryz.prog :=
 ok_of_tree Tryz.func55 (fun a w=>Tryz.call55 a w) hd 100000 (fun ρ hg hp=>by rw [o_inds_eq]; exact h ρ hg hp)
def o_cloneD:Out:=(.br (.and (.cmp .eql (.dlen (.var 3)) (.lit 0)) (.isnil 0))
 (.need (.cmp .eql (.var 1) (.lit 0)) (.ret 0 (sg 5 [bt 7 .dnil,bt 6 (.lit 0),(5,.nil)])))
 (.fresh 5 (.need (.cmp .leq (.lit 0) (.var 1)) (.need (.cmp .leq (.var 1) (.dlen (.var 3))) (.need (.cmp .leq (.tims (.lit 32) (.var 1)) (.lit 140737488355328)) (.fresh 6 (.fresh 7 (.ret 0 (sg 5 [bt 7 (.dtake (.var 3) (.var 1)),bv 6 7,bg 5 6])))))))))
theorem o_cloneD_eq:treeOf ⟨Tryz.prog,cloneDC,[],[]⟩ 100000 Tryz.f90 = o_cloneD:=by kernel_rfl
theorem cloneD_of (hd:∀ c ∈ ([]:List Ctr),c.ok Tryz.prog) (h:∀ ρ:Env,ρ.good→(cloneDC).pre ρ→o_cloneD.den ⟨Tryz.prog,cloneDC,[],[]⟩ ρ):(cloneDC).ok Tryz.prog :=
 ok_of_tree Tryz.func90 (fun a w=>Tryz.call90 a w) hd 100000 (fun ρ hg hp=>by rw [o_cloneD_eq]; exact h ρ hg hp)
@[simp] def o_offer_3:Sg:=sg 0 [bg 9 9,bv 8 8,bv 4 4,bv 3 3,bv 7 7,bv 6 6,bg 5 5,bg 2 2,bt 1 (r8 1),bg 0 0]
@[simp] def o_offer_2:Sg:=sg 0 [bv 11 27,bv 9 19,bv 8 18,bv 7 17,bv 6 16,bg 5 15,bv 3 13,bv 2 12,bv 1 11,bv 0 10,bt 4 (r8 14),bg 10 26]
@[simp] def o_offer_1:Sg:=sg 0 [bv 17 27,bv 15 25,bv 14 24,bv 9 19,bv 8 18,bv 13 23,bv 12 22,bg 11 21,bv 10 20,bv 7 17,bv 6 16,bg 5 15,bv 3 13,bv 2 12,bv 1 11,bv 0 10,bt 4 (r8 14),bg 16 26]
def o_offer:Out:=(.fresh 28 (.fresh 29 (.pre 0 o_offer_2 (.both (.fresh 30 (.fresh 31 (.post 0 0 o_offer_2 30 (.fresh 32 (.br (.cmp .neq (.var 31) (.lit 0))
 (.pack [.cells 32 24 [(x8 0 30),(x8 1 30),(x8 2 30),(x8 3 30),(x8 4 30),(x8 5 30),(x8 6 30),(x8 7 30),(x8 8 30),(x8 9 30),(x8 10 30),(x8 11 30),(x8 12 30),(x8 13 30),(x8 14 30),(x8 15 30),(x8 16 30),(x8 17 30),(x8 18 30),(x8 19 30),(x8 20 30),(x8 21 30),(x8 22 30),(x8 23 30),(x8 24 30),(x8 25 30),(x8 26 30),(x8 27 30),(x8 28 30),(x8 29 30),(x8 30 30),(x8 31 30)],.cells 29 86 [(.vint .i64 (.var 20)),(.vslice 21 (.lit 0) (.var 22) (.var 23) 1)],.cells 28 27 [(.vint .i64 (.var 10)),(.vint .i64 (.var 11)),(.vint .i64 (.var 12)),(.vint .i64 (.var 13)),(x8 0 14),(x8 1 14),(x8 2 14),(x8 3 14),(x8 4 14),(x8 5 14),(x8 6 14),(x8 7 14),(x8 8 14),(x8 9 14),(x8 10 14),(x8 11 14),(x8 12 14),(x8 13 14),(x8 14 14),(x8 15 14),(x8 16 14),(x8 17 14),(x8 18 14),(x8 19 14),(x8 20 14),(x8 21 14),(x8 22 14),(x8 23 14),(x8 24 14),(x8 25 14),(x8 26 14),(x8 27 14),(x8 28 14),(x8 29 14),(x8 30 14),(x8 31 14),(.vslice 15 (.lit 0) (.var 16) (.var 17) 32)],.abs 9 20] 33 (.ret 0 (sg 28 [bg 35 33,bv 34 8,bv 30 4,bv 29 3,bv 33 7,bv 32 6,bg 31 5,bg 28 2,bv 36 31])))
 (.br (.not (.c2 .req (r8 30) (r8 1)))
 (.pack [.cells 32 24 [(x8 0 30),(x8 1 30),(x8 2 30),(x8 3 30),(x8 4 30),(x8 5 30),(x8 6 30),(x8 7 30),(x8 8 30),(x8 9 30),(x8 10 30),(x8 11 30),(x8 12 30),(x8 13 30),(x8 14 30),(x8 15 30),(x8 16 30),(x8 17 30),(x8 18 30),(x8 19 30),(x8 20 30),(x8 21 30),(x8 22 30),(x8 23 30),(x8 24 30),(x8 25 30),(x8 26 30),(x8 27 30),(x8 28 30),(x8 29 30),(x8 30 30),(x8 31 30)],.cells 29 86 [(.vint .i64 (.var 20)),(.vslice 21 (.lit 0) (.var 22) (.var 23) 1)],.cells 28 27 [(.vint .i64 (.var 10)),(.vint .i64 (.var 11)),(.vint .i64 (.var 12)),(.vint .i64 (.var 13)),(x8 0 14),(x8 1 14),(x8 2 14),(x8 3 14),(x8 4 14),(x8 5 14),(x8 6 14),(x8 7 14),(x8 8 14),(x8 9 14),(x8 10 14),(x8 11 14),(x8 12 14),(x8 13 14),(x8 14 14),(x8 15 14),(x8 16 14),(x8 17 14),(x8 18 14),(x8 19 14),(x8 20 14),(x8 21 14),(x8 22 14),(x8 23 14),(x8 24 14),(x8 25 14),(x8 26 14),(x8 27 14),(x8 28 14),(x8 29 14),(x8 30 14),(x8 31 14),(.vslice 15 (.lit 0) (.var 16) (.var 17) 32)],.abs 9 20] 33 (.ret 0 (sg 28 [bg 35 33,bv 34 8,bv 30 4,bv 29 3,bv 33 7,bv 32 6,bg 31 5,bg 28 2,bt 36 (.lit 20)])))
 (.pre 1 o_offer_1 (.both (.fresh 33 (.post 1 0 o_offer_1 33 (.br (.cmp .neq (.var 33) (.lit 0))
 (.pack [.cells 32 24 [(x8 0 30),(x8 1 30),(x8 2 30),(x8 3 30),(x8 4 30),(x8 5 30),(x8 6 30),(x8 7 30),(x8 8 30),(x8 9 30),(x8 10 30),(x8 11 30),(x8 12 30),(x8 13 30),(x8 14 30),(x8 15 30),(x8 16 30),(x8 17 30),(x8 18 30),(x8 19 30),(x8 20 30),(x8 21 30),(x8 22 30),(x8 23 30),(x8 24 30),(x8 25 30),(x8 26 30),(x8 27 30),(x8 28 30),(x8 29 30),(x8 30 30),(x8 31 30)],.cells 29 86 [(.vint .i64 (.var 20)),(.vslice 21 (.lit 0) (.var 22) (.var 23) 1)],.cells 28 27 [(.vint .i64 (.var 10)),(.vint .i64 (.var 11)),(.vint .i64 (.var 12)),(.vint .i64 (.var 13)),(x8 0 14),(x8 1 14),(x8 2 14),(x8 3 14),(x8 4 14),(x8 5 14),(x8 6 14),(x8 7 14),(x8 8 14),(x8 9 14),(x8 10 14),(x8 11 14),(x8 12 14),(x8 13 14),(x8 14 14),(x8 15 14),(x8 16 14),(x8 17 14),(x8 18 14),(x8 19 14),(x8 20 14),(x8 21 14),(x8 22 14),(x8 23 14),(x8 24 14),(x8 25 14),(x8 26 14),(x8 27 14),(x8 28 14),(x8 29 14),(x8 30 14),(x8 31 14),(.vslice 15 (.lit 0) (.var 16) (.var 17) 32)],.abs 9 20] 34 (.ret 0 (sg 28 [bg 35 34,bv 34 8,bv 30 4,bv 29 3,bv 33 7,bv 32 6,bg 31 5,bg 28 2,bv 36 33])))
 (.both (.pre 2 o_offer_3 (.both (.fresh 34 (.fresh 35 (.fresh 36 (.fresh 37 (.post 2 0 o_offer_3 34 (.both (.pre 3 (sg 0 [bv 4 36,bv 3 37,bv 5 20,bv 2 36,bv 1 35,bg 0 34]) (.both (.fresh 38 (.post 3 0 (sg 0 [bv 4 36,bv 3 37,bv 5 20,bv 2 36,bv 1 35,bg 0 34]) 38 (.br (.var 38)
 (.pack [.arr 34 3 [CK.int .i64] (.var 37) (.var 36),.cells 32 24 [(x8 0 30),(x8 1 30),(x8 2 30),(x8 3 30),(x8 4 30),(x8 5 30),(x8 6 30),(x8 7 30),(x8 8 30),(x8 9 30),(x8 10 30),(x8 11 30),(x8 12 30),(x8 13 30),(x8 14 30),(x8 15 30),(x8 16 30),(x8 17 30),(x8 18 30),(x8 19 30),(x8 20 30),(x8 21 30),(x8 22 30),(x8 23 30),(x8 24 30),(x8 25 30),(x8 26 30),(x8 27 30),(x8 28 30),(x8 29 30),(x8 30 30),(x8 31 30)],.cells 29 86 [(.vint .i64 (.var 20)),(.vslice 21 (.lit 0) (.var 22) (.var 23) 1)],.cells 28 27 [(.vint .i64 (.var 10)),(.vint .i64 (.var 11)),(.vint .i64 (.var 12)),(.vint .i64 (.var 13)),(x8 0 14),(x8 1 14),(x8 2 14),(x8 3 14),(x8 4 14),(x8 5 14),(x8 6 14),(x8 7 14),(x8 8 14),(x8 9 14),(x8 10 14),(x8 11 14),(x8 12 14),(x8 13 14),(x8 14 14),(x8 15 14),(x8 16 14),(x8 17 14),(x8 18 14),(x8 19 14),(x8 20 14),(x8 21 14),(x8 22 14),(x8 23 14),(x8 24 14),(x8 25 14),(x8 26 14),(x8 27 14),(x8 28 14),(x8 29 14),(x8 30 14),(x8 31 14),(.vslice 15 (.lit 0) (.var 16) (.var 17) 32)],.abs 9 20] 39 (.ret 0 (sg 28 [bg 35 39,bv 34 8,bv 30 4,bv 29 3,bv 33 7,bv 32 6,bg 31 5,bg 28 2,bt 36 (.lit 7)])))
 (.pre 4 o_offer_3 (.both (.fresh 39 (.post 4 0 o_offer_3 39 (.br (.var 39)
 (.pack [.arr 34 3 [CK.int .i64] (.var 37) (.var 36),.cells 32 24 [(x8 0 30),(x8 1 30),(x8 2 30),(x8 3 30),(x8 4 30),(x8 5 30),(x8 6 30),(x8 7 30),(x8 8 30),(x8 9 30),(x8 10 30),(x8 11 30),(x8 12 30),(x8 13 30),(x8 14 30),(x8 15 30),(x8 16 30),(x8 17 30),(x8 18 30),(x8 19 30),(x8 20 30),(x8 21 30),(x8 22 30),(x8 23 30),(x8 24 30),(x8 25 30),(x8 26 30),(x8 27 30),(x8 28 30),(x8 29 30),(x8 30 30),(x8 31 30)],.cells 29 86 [(.vint .i64 (.var 20)),(.vslice 21 (.lit 0) (.var 22) (.var 23) 1)],.cells 28 27 [(.vint .i64 (.var 10)),(.vint .i64 (.var 11)),(.vint .i64 (.var 12)),(.vint .i64 (.var 13)),(x8 0 14),(x8 1 14),(x8 2 14),(x8 3 14),(x8 4 14),(x8 5 14),(x8 6 14),(x8 7 14),(x8 8 14),(x8 9 14),(x8 10 14),(x8 11 14),(x8 12 14),(x8 13 14),(x8 14 14),(x8 15 14),(x8 16 14),(x8 17 14),(x8 18 14),(x8 19 14),(x8 20 14),(x8 21 14),(x8 22 14),(x8 23 14),(x8 24 14),(x8 25 14),(x8 26 14),(x8 27 14),(x8 28 14),(x8 29 14),(x8 30 14),(x8 31 14),(.vslice 15 (.lit 0) (.var 16) (.var 17) 32)],.abs 9 20] 40 (.ret 0 (sg 28 [bg 35 40,bv 34 8,bv 30 4,bv 29 3,bv 33 7,bv 32 6,bg 31 5,bg 28 2,bt 36 (.lit 8)])))
 (.pre 5 (sg 0 [bv 4 19,bv 3 18,bv 2 17,bv 1 16,bg 0 15]) (.both (.fresh 40 (.fresh 41 (.fresh 42 (.post 5 0 (sg 0 [bv 4 19,bv 3 18,bv 2 17,bv 1 16,bg 0 15]) 40 (.both (.pre 6 (sg 0 [bv 4 25,bv 3 24,bv 2 23,bv 1 22,bg 0 21]) (.both (.fresh 43 (.fresh 44 (.fresh 45 (.post 6 0 (sg 0 [bv 4 25,bv 3 24,bv 2 23,bv 1 22,bg 0 21]) 43 (.both (.both (.fresh 46 (.both (.need (.cmp .eql (.var 6) (.dlen (.var 8))) (.need (.cmp .leq (.tims (.lit 32) (.plus (.var 6) (.lit 1))) (.lit 140737488355328)) (.fresh 47 (.fresh 48 (.both (.both (.both (.pack [.cells 46 86 [(.vint .i64 (.var 20)),(.vslice 43 (.lit 0) (.var 22) (.var 44) 1)],.arr 43 5 [CK.int .u8] (.var 45) (.var 44),.arr 40 24 [CK.int .u8,CK.int .u8,CK.int .u8,CK.int .u8,CK.int .u8,CK.int .u8,CK.int .u8,CK.int .u8,CK.int .u8,CK.int .u8,CK.int .u8,CK.int .u8,CK.int .u8,CK.int .u8,CK.int .u8,CK.int .u8,CK.int .u8,CK.int .u8,CK.int .u8,CK.int .u8,CK.int .u8,CK.int .u8,CK.int .u8,CK.int .u8,CK.int .u8,CK.int .u8,CK.int .u8,CK.int .u8,CK.int .u8,CK.int .u8,CK.int .u8,CK.int .u8] (.var 42) (.var 41),.arr 34 3 [CK.int .i64] (.var 37) (.var 36),.cells 32 24 [(x8 0 30),(x8 1 30),(x8 2 30),(x8 3 30),(x8 4 30),(x8 5 30),(x8 6 30),(x8 7 30),(x8 8 30),(x8 9 30),(x8 10 30),(x8 11 30),(x8 12 30),(x8 13 30),(x8 14 30),(x8 15 30),(x8 16 30),(x8 17 30),(x8 18 30),(x8 19 30),(x8 20 30),(x8 21 30),(x8 22 30),(x8 23 30),(x8 24 30),(x8 25 30),(x8 26 30),(x8 27 30),(x8 28 30),(x8 29 30),(x8 30 30),(x8 31 30)],.cells 29 86 [(.vint .i64 (.var 20)),(.vslice 21 (.lit 0) (.var 22) (.var 23) 1)],.arr 2 27 [CK.int .i64,CK.int .i64,CK.int .i64,CK.int .i64,CK.int .u8,CK.int .u8,CK.int .u8,CK.int .u8,CK.int .u8,CK.int .u8,CK.int .u8,CK.int .u8,CK.int .u8,CK.int .u8,CK.int .u8,CK.int .u8,CK.int .u8,CK.int .u8,CK.int .u8,CK.int .u8,CK.int .u8,CK.int .u8,CK.int .u8,CK.int .u8,CK.int .u8,CK.int .u8,CK.int .u8,CK.int .u8,CK.int .u8,CK.int .u8,CK.int .u8,CK.int .u8,CK.int .u8,CK.int .u8,CK.int .u8,CK.int .u8,CK.any] (.var 3) (.var 4),.abs 9 20] 49 (.ret 0 (sg 28 [bg 35 49,bt 34 (.dapp (.var 8) (.rcons (.vint .i64 (.var 20)) (.rcons (.vslice 43 (.lit 0) (.var 22) (.var 44) 1) .rnil))),bt 30 (.lit 1),bt 29 (.rcons (.vint .i64 (.var 10)) (.rcons (.vint .i64 (.var 11)) (.rcons (.vint .i64 (.var 12)) (.rcons (.vint .i64 (.var 13)) (.rcons (x8 0 14) (.rcons (x8 1 14) (.rcons (x8 2 14) (.rcons (x8 3 14) (.rcons (x8 4 14) (.rcons (x8 5 14) (.rcons (x8 6 14) (.rcons (x8 7 14) (.rcons (x8 8 14) (.rcons (x8 9 14) (.rcons (x8 10 14) (.rcons (x8 11 14) (.rcons (x8 12 14) (.rcons (x8 13 14) (.rcons (x8 14 14) (.rcons (x8 15 14) (.rcons (x8 16 14) (.rcons (x8 17 14) (.rcons (x8 18 14) (.rcons (x8 19 14) (.rcons (x8 20 14) (.rcons (x8 21 14) (.rcons (x8 22 14) (.rcons (x8 23 14) (.rcons (x8 24 14) (.rcons (x8 25 14) (.rcons (x8 26 14) (.rcons (x8 27 14) (.rcons (x8 28 14) (.rcons (x8 29 14) (.rcons (x8 30 14) (.rcons (x8 31 14) (.rcons (.vslice 40 (.lit 0) (.var 16) (.var 41) 32) .rnil))))))))))))))))))))))))))))))))))))),bv 33 48,bt 32 (.plus (.var 6) (.lit 1)),bg 31 47,bg 28 28,bt 36 (.lit 0)]))) .top) .top) .top))))) .top)) .top) .top))))) .top)) .top))))) .top))))) .top))))) .top)) .top)))))) .top)) .top)))) .top)))))))) .top))))
theorem o_offer_eq:treeOf ⟨Tryz.prog,offerC,[idC,checkPC,indsC,containsC,readyC,cloneDC,cloneBC],[]⟩ 100000 Tryz.f48 = o_offer:=by kernel_rfl
theorem offer_of (hd:∀ c ∈ ([idC,checkPC,indsC,containsC,readyC,cloneDC,cloneBC]:List Ctr),c.ok Tryz.prog) (h:∀ ρ:Env,ρ.good→(offerC).pre ρ→o_offer.den ⟨Tryz.prog,offerC,[idC,checkPC,indsC,containsC,readyC,cloneDC,cloneBC],[]⟩ ρ):(offerC).ok Tryz.prog :=
 ok_of_tree Tryz.func48 (fun a w=>Tryz.call48 a w) hd 100000 (fun ρ hg hp=>by rw [o_offer_eq]; exact h ρ hg hp)
end Go.Proofs

set_option linter.unusedSimpArgs false
set_option linter.unusedVariables false
namespace Go.Proofs
open Go Go.Eng
set_option maxRecDepth 20000
theorem newGa_ok:newGaC.ok Tryz.prog:=newGa_of (by simp) fun ρ hg hp=>by
 simp (config:={ maxSteps:=4000000 }) [o_newGa,newGaC]
theorem cloneD_ok:cloneDC.ok Tryz.prog:=cloneD_of (by simp) fun ρ hg hp=>by
 obtain ⟨h0,hl,h1⟩:=hp
 simp (config:={ maxSteps:=4000000 }) [o_cloneD,cloneDC,hl]
 exact ⟨fun h _=>h,fun _=>by omega⟩
section
variable {h:Hp} {r:Option Addr} {d P:Rows'} {c n:Int} {M M':Option ManV} {L L':PcL}
theorem pcs_uniq (h1:pcsIs h P L) (h2:pcsIs h P L'):L = L':=by
 refine List.ext_getElem? fun j=>?_
 by_cases hj:j < P.length
 ·have e:=(h1.2.2 j hj).symm.trans (h2.2.2 j hj)
  rw [List.getD_eq_getElem?_getD,List.getD_eq_getElem?_getD,List.getElem?_eq_getElem (by have:=h1.1; omega),List.getElem?_eq_getElem (by have:=h2.1; omega)] at e
  rw [List.getElem?_eq_getElem (by have:=h1.1; omega),List.getElem?_eq_getElem (by have:=h2.1; omega)]
  exact congrArg some e
 ·rw [List.getElem?_eq_none (by have:=h1.1; omega),List.getElem?_eq_none (by have:=h2.1; omega)]
theorem man_uniq {m m':ManV} (h1:manRow h d m) (h2:manRow h d m'):m = m':=by
 obtain ⟨row,D,e,hf,hr,hD,a1,a2,a3,a4,a5,a6,_,_⟩:=h1
 obtain ⟨row',D',e',hf',hr',hD',b1,b2,b3,b4,b5,b6,_,_⟩:=h2
 rw [e] at e'
 simp only [List.cons.injEq,and_true] at e'
 subst e'
 obtain rfl:=Rd_unique hr hr'
 obtain ⟨k,n,t,s,o,D1⟩:=m
 obtain ⟨k',n',t',s',o',D1'⟩:=m'
 simp only at a1 a2 a3 a4 a5 a6 b1 b2 b3 b4 b5 b6
 simp only [ManV.mk.injEq]
 exact ⟨by rw [← a2,← b2],by rw [← a3,← b3],by rw [← a4,← b4],by rw [← a5,← b5],by rw [← a6,← b6],by rw [← a1,← b1]⟩
theorem ga_uniq (h1:gaIs h r d c n P M L) (h2:gaIs h r d c n P M' L'):M' = M∧L' = L:=by
 obtain ⟨_,p1,_,_,q1⟩:=h1
 obtain ⟨_,p2,_,_,q2⟩:=h2
 refine ⟨?_,(pcs_uniq p1 p2).symm⟩
 rcases q1 with ⟨rfl,_,c0,_⟩ | ⟨m,rfl,c1,hm,_⟩ <;> rcases q2 with ⟨rfl,_,c0',_⟩ | ⟨m',rfl,c1',hm',_⟩
 ·rfl
 ·omega
 ·omega
 ·rw [man_uniq hm hm']
theorem ga_idx (h1:gaIs h r d c n P M L):idxL P P.length = L.map Prod.fst:=by
 obtain ⟨_,p1,_⟩:=h1
 refine List.ext_getElem? fun j=>?_
 by_cases hj:j < P.length
 ·have e:=congrArg Prod.fst (p1.2.2 j hj)
  rw [List.getD_eq_getElem?_getD,List.getElem?_eq_getElem (by have:=p1.1; omega)] at e
  rw [idxL,List.getElem?_map,List.getElem?_range hj,List.getElem?_map,List.getElem?_eq_getElem (by have:=p1.1; omega)]
  exact congrArg some e
 ·rw [List.getElem?_eq_none (by simp [idxL]; omega),List.getElem?_eq_none (by rw [List.length_map]; have:=p1.1; omega)]
theorem idx_next {i:Nat}:idxL P (i + 1) = idxL P i ++ [pcI P i]:=by
 unfold idxL
 rw [List.range_succ,List.map_append]; rfl
end
theorem ready_ok:readyC.ok Tryz.prog:=ready_of (by simp) fun ρ hg hp=>by
 obtain ⟨M,L,h⟩:=hp
 simp (config:={ maxSteps:=4000000 }) [o_ready,readyC,gaB]
 have h0:gaIs (ρ 9).h (ρ 2).r (ρ 3).d (ρ 4).i (ρ 6).i (ρ 8).d M L:=h
 obtain ⟨hn,hp,_,_,hc⟩:=h
 rcases hc with ⟨rfl,hr,c0,hd,hL⟩ | ⟨m,rfl,c1,hm,hL⟩
 ·refine ⟨fun hcon=>?_,fun _ _ M' L' h'=>?_⟩
  ·rw [hd,hr] at hcon; simp at hcon
  ·obtain ⟨rfl,rfl⟩:=ga_uniq h0 h'; rfl
 ·obtain ⟨row,D,e,hf,hrd,hD,a1,a2,_⟩:=hm
  have e:(ρ 3).d = [row]:=e
  refine ⟨fun _=>⟨by have hn':(ρ 6).i = ((ρ 8).d.length:Int):=hn; omega,by rw [e]; exact Nat.one_pos,fun M' L' h'=>?_⟩,fun hd _=>by rw [e] at hd; cases hd⟩
  obtain ⟨rfl,rfl⟩:=ga_uniq h0 h'
  have hk:cellI (ρ 3).d 0 0 = m.k:=by rw [← a2,e]; rfl
  have hn':(ρ 6).i = ((ρ 8).d.length:Int):=hn
  have hp1:(ρ 8).d.length = L'.length:=hp.1
  rw [hk,hn',hp1]; rfl
theorem inds_ok:indsC.ok Tryz.prog:=inds_of (by simp) fun ρ hg hp=>by
 obtain ⟨M,L,h⟩:=hp
 have h0:gaIs (ρ 9).h (ρ 2).r (ρ 3).d (ρ 4).i (ρ 6).i (ρ 8).d M L:=h
 obtain ⟨hn,hp,_,h255,hc⟩:=h
 have hpl:=hp.1
 simp (config:={ maxSteps:=4000000 }) [o_inds,indsC,indsI,isInts,gaB]
 have hn:(ρ 6).i = ((ρ 8).d.length:Int):=hn
 have hpl:(ρ 8).d.length = L.length:=hpl
 refine ⟨by omega,⟨by omega,rfl⟩,fun a _ D _ i _ i0 i1 ha hD hr=>⟨fun hi=>?_,fun hi M' L' h'=>?_⟩⟩
 ·have hDl:D.d.length = i.i.toNat:=by
   have:=congrArg List.length hD
   rw [ints_len] at this
   simpa [idxL] using this
  have hnx:(arithOf .add .i64 i.i 1).toNat = i.i.toNat + 1:=by rw [add1 i0 (by omega)]; omega
  refine ⟨i0,by omega,ha,by omega,⟨by rw [add1 i0 (by omega)]; omega,by rw [add1 i0 (by omega)]; omega,ha,?_,fun row h=>rows_or h hr⟩,by rw [add1 i0 (by omega)]; omega⟩
  rw [hnx,idx_next,ints_snoc,hD]
  unfold pcI
  rw [Int.toNat_of_nonneg i0]
 ·obtain ⟨rfl,rfl⟩:=ga_uniq h0 h'
  refine ⟨ha,?_,hr⟩
  rw [hD,← ga_idx h0,show i.i.toNat = (ρ 8).d.length by omega]
section
variable {h h':Hp} {r:Option Addr} {d P:Rows'} {c n e i:Int} {M:Option ManV} {L:PcL} {o b:List Int} {m:ManV}
theorem pcs_mono (h1:pcsIs h P L) (hl:Hp.le h h'):pcsIs h' P L:=by
 refine ⟨h1.1,fun j hj=>?_,fun j hj=>?_⟩
 ·obtain ⟨i,v,d,e1,e2,e3⟩:=h1.2.1 j hj
  exact ⟨i,v,d,e1,Rd_mono e2 hl,e3⟩
 ·rw [← h1.2.2 j hj]
  obtain ⟨i,v,d,e1,e2,e3⟩:=h1.2.1 j hj
  have hv:cellV P j 1 = v:=by simp only [cellV,Int.toNat_natCast,e1,Option.getD_some]; rfl
  unfold pcD
  rw [hv,rdL_eq e2,rdL_eq (Rd_mono e2 hl)]
theorem man_mono (h1:manRow h d m) (hl:Hp.le h h'):manRow h' d m:=by
 obtain ⟨row,D,e,hf,hr,hx⟩:=h1
 exact ⟨row,D,e,hf,Rd_mono hr hl,hx⟩
theorem ga_mono (h1:gaIs h r d c n P M L) (hl:Hp.le h h'):gaIs h' r d c n P M L:=by
 obtain ⟨a1,a2,a3,a4,a5⟩:=h1
 refine ⟨a1,pcs_mono a2 hl,a3,a4,?_⟩
 rcases a5 with a5 | ⟨m,b1,b3,b4,b5⟩
 ·exact .inl a5
 ·exact .inr ⟨m,b1,b3,man_mono b4 hl,b5⟩
theorem ga_ite (h1:gaIs h r d c n P M L) (hl:Hp.le h h') (hne:¬ e = 0):gaIs h' r d c n P (if e = 0 then some m else M) (if e = 0 then L ++ [(i,b)] else L):=by
 rw [if_neg hne,if_neg hne]; exact ga_mono h1 hl
section
variable {k n' t s l u:Int} {O R S z:List Int} {D J:Rows'} {x y:Bool}
theorem man_okD (hl:l = (D.length:Int)):ManV.ok ⟨k,n',t,s,O,dgs D⟩ = manOk k n' t s l:=by
 unfold ManV.ok
 rw [hl]; simp [dgs]
theorem off_2 (hl:l = (D.length:Int)) (hid:(manOk k n' t s l = false∧e = 2∧R = z)∨(manOk k n' t s l = true∧e = 0∧R = S)) (hne:¬ e = 0):e = offE o M L ⟨k,n',t,s,O,dgs D⟩ i b:=by
 rcases hid with ⟨h1,h2,_⟩ | ⟨_,h2,_⟩
 ·unfold offE; rw [man_okD hl,if_pos h1,h2]
 ·exact absurd h2 hne
theorem id_ok0 (hid:(manOk k n' t s l = false∧e = 2∧R = z)∨(manOk k n' t s l = true∧e = 0∧R = S)) (he:e = 0):manOk k n' t s l = true∧R = S:=by
 rcases hid with ⟨_,h2,_⟩ | ⟨h1,_,h3⟩
 ·omega
 ·exact ⟨h1,h3⟩
theorem off_20 (hl:l = (D.length:Int)) (hid:(manOk k n' t s l = false∧e = 2∧R = z)∨(manOk k n' t s l = true∧e = 0∧R = sha (manHead k n' t s O ++ (dgs D).flatten))) (he:e = 0) (hR:¬ R = o):20 = offE o M L ⟨k,n',t,s,O,dgs D⟩ i b:=by
 obtain ⟨h1,h2⟩:=id_ok0 hid he
 unfold offE
 rw [man_okD hl,if_neg (by rw [h1]; simp),if_pos (by show sha (manHead k n' t s O ++ (dgs D).flatten) ≠ o; rw [← h2]; exact hR)]
theorem off_c (hl:l = (D.length:Int)) (hid:(manOk k n' t s l = false∧e = 2∧R = z)∨(manOk k n' t s l = true∧e = 0∧R = sha (manHead k n' t s O ++ (dgs D).flatten))) (he:e = 0) (hR:R = o) (hc:u = chkE k n' t s l (dgs D) i b) (hne:¬ u = 0):u = offE o M L ⟨k,n',t,s,O,dgs D⟩ i b:=by
 obtain ⟨h1,h2⟩:=id_ok0 hid he
 have hl':(((dgs D).length:Nat):Int) = l:=by rw [hl]; simp [dgs]
 unfold offE
 simp only [hl']
 rw [man_okD hl,if_neg (by rw [h1]; simp),if_neg (fun h=>h (by rw [← hR,h2]; rfl)),if_pos (by rw [← hc]; exact hne),hc]
theorem off_last (hl:l = (D.length:Int)) (hid:(manOk k n' t s l = false∧e = 2∧R = z)∨(manOk k n' t s l = true∧e = 0∧R = sha (manHead k n' t s O ++ (dgs D).flatten))) (he:e = 0) (hR:R = o) (hc:u = chkE k n' t s l (dgs D) i b) (hu:u = 0):offE o M L ⟨k,n',t,s,O,dgs D⟩ i b = if i ∈ L.map Prod.fst then 7 else if readyF M L then 8 else 0:=by
 obtain ⟨h1,h2⟩:=id_ok0 hid he
 have hl':(((dgs D).length:Nat):Int) = l:=by rw [hl]; simp [dgs]
 unfold offE
 simp only [hl']
 rw [man_okD hl,if_neg (by rw [h1]; simp),if_neg (fun h=>h (by rw [← hR,h2]; rfl)),if_neg (by rw [← hc,hu]; simp)]
theorem inds_use (hq:∀ (M:Option ManV) (L:PcL),gaIs h r d c n P M L→u = (J.length:Int)∧ints J = L.map Prod.fst∧∀ row,row ∈ J→row.length = 1) (h1:gaIs h r d c n P M L):u = (J.length:Int)∧u ≤ 1000∧ints J = L.map Prod.fst∧∀ row,row ∈ J→row.length = 1:=by
 obtain ⟨a,b,e⟩:=hq M L h1
 refine ⟨a,?_,b,e⟩
 have h2:=congrArg List.length b
 rw [ints_len,List.length_map] at h2
 have:=h1.2.2.2.1
 omega
theorem off_7 (hl:l = (D.length:Int)) (hid:(manOk k n' t s l = false∧e = 2∧R = z)∨(manOk k n' t s l = true∧e = 0∧R = sha (manHead k n' t s O ++ (dgs D).flatten))) (he:e = 0) (hR:R = o) (hc:u = chkE k n' t s l (dgs D) i b) (hu:u = 0) {u':Int}
  (hq:∀ (M:Option ManV) (L:PcL),gaIs h r d c n P M L→u' = (J.length:Int)∧ints J = L.map Prod.fst∧∀ row,row ∈ J→row.length = 1) (h1:gaIs h r d c n P M L) (hx:x = decide (i ∈ ints J)) (ht:x = true):7 = offE o M L ⟨k,n',t,s,O,dgs D⟩ i b:=by
 rw [off_last hl hid he hR hc hu,if_pos]
 rw [← (hq M L h1).2.1]; exact dec_t hx ht
theorem off_8 (hl:l = (D.length:Int)) (hid:(manOk k n' t s l = false∧e = 2∧R = z)∨(manOk k n' t s l = true∧e = 0∧R = sha (manHead k n' t s O ++ (dgs D).flatten))) (he:e = 0) (hR:R = o) (hc:u = chkE k n' t s l (dgs D) i b) (hu:u = 0) {u':Int}
  (hq:∀ (M:Option ManV) (L:PcL),gaIs h r d c n P M L→u' = (J.length:Int)∧ints J = L.map Prod.fst∧∀ row,row ∈ J→row.length = 1) (h1:gaIs h r d c n P M L) (hx:x = decide (i ∈ ints J)) (ht:x = false) (hr:∀ (M:Option ManV) (L:PcL),gaIs h r d c n P M L→y = readyF M L):offE o M L ⟨k,n',t,s,O,dgs D⟩ i b = if y then 8 else 0:=by
 rw [off_last hl hid he hR hc hu,if_neg,← hr M L h1]
 rw [← (hq M L h1).2.1]; exact dec_f hx ht
theorem man_lit {v:Value} (hv:v.oneCell' = true) (hRd:Rd h k32 v D) (hD:dgsOk D) (hO:allM (rowL J 32)) (hok:manOk k n' t s l = true) (hl:l = (D.length:Int)) :
  manRow h [[Value.int .i64 k,Value.int .i64 n',Value.int .i64 t,Value.int .i64 s] ++ ((rowL J 32).map (Value.int .u8) ++ [v])] ⟨k,n',t,s,rowL J 32,dgs D⟩:=by
 refine ⟨_,D,rfl,⟨by simp [kMan,rowL],fun c kk w hk hw=>?_⟩,hRd,hD,rfl,rfl,rfl,rfl,rfl,rfl,hO,by rw [man_okD hl]; exact hok⟩
 unfold kMan at hk
 rcases Nat.lt_or_ge c 4 with h4 | h4
 ·rw [List.getElem?_append_left (by simpa using h4),List.getElem?_replicate,if_pos h4] at hk
  rw [List.getElem?_append_left (by simpa using h4)] at hw
  obtain rfl:=(Option.some.inj hk).symm
  match c,h4 with
  | 0,_=>obtain rfl:=(Option.some.inj hw).symm; rfl
  | 1,_=>obtain rfl:=(Option.some.inj hw).symm; rfl
  | 2,_=>obtain rfl:=(Option.some.inj hw).symm; rfl
  | 3,_=>obtain rfl:=(Option.some.inj hw).symm; rfl
 ·rw [List.getElem?_append_right (by simpa using h4)] at hk
  rw [List.getElem?_append_right (by simpa using h4)] at hw
  simp only [List.length_replicate,List.length_cons,List.length_nil] at hk hw
  rcases Nat.lt_or_ge (c - 4) 32 with h5 | h5
  ·rw [List.getElem?_append_left (by simpa using h5),List.getElem?_replicate,if_pos h5] at hk
   rw [List.getElem?_append_left (by simp [rowL]; omega),List.getElem?_map] at hw
   obtain rfl:=(Option.some.inj hk).symm
   obtain ⟨q,_,rfl⟩:=Option.map_eq_some_iff.1 hw
   rfl
  ·rw [List.getElem?_append_right (by simpa using h5)] at hk
   rw [List.getElem?_append_right (by simp [rowL]; omega)] at hw
   simp only [List.length_replicate,List.length_map] at hk hw
   rw [show (rowL J 32).length = 32 by simp [rowL]] at hw
   match hc:c - 4 - 32,hk with
   | 0,hk =>
    rw [hc] at hw
    obtain rfl:=(Option.some.inj hk).symm
    obtain rfl:=(Option.some.inj hw).symm
    unfold CK.fits; exact hv
   | q + 1,hk=>simp at hk
theorem ga_add {v:Value} {B d':Rows'} {r':Option Addr} {m:ManV} (h1:gaIs h r d c n P M L) (hl:Hp.le h h') (hRd:Rd h' kB v B) (hB:allB B) (hb9:(B.length:Int) ≤ 9000) (hm:manRow h' d' m) (hy:readyF M L = false):gaIs h' r' d' 1 (n + 1) (P ++ [[.int .i64 i,v]]) (some m) (L ++ [(i,bI B)]):=by
 have h2:=ga_mono h1 hl
 obtain ⟨a1,a2,a3,a4,a5⟩:=h2
 have hlen:L.length < 255:=by
  rcases a5 with ⟨_,_,_,_,rfl⟩ | ⟨m0,rfl,_,hm0,_⟩
  ·decide
  ·obtain ⟨_,_,_,_,_,_,_,_,_,_,_,_,_,hok⟩:=hm0
   unfold readyF at hy
   have hk:=of_decide_eq_false hy
   have hk2:m0.k ≤ 255:=by
    unfold ManV.ok manOk sizes3 at hok
    simp at hok
    omega
   omega
 have hPl:=a2.1
 refine ⟨by rw [List.length_append,List.length_singleton]; omega,⟨by rw [List.length_append,List.length_append,hPl]; rfl,fun j hj=>?_,fun j hj=>?_⟩,fun x hx=>?_,by rw [List.length_append,List.length_singleton]; omega,.inr ⟨m,rfl,rfl,hm,by simp⟩⟩
 ·rw [List.length_append,List.length_singleton] at hj
  rcases Nat.lt_or_ge j P.length with hjP | hjP
  ·obtain ⟨i0,v0,d0,e1,e2⟩:=a2.2.1 j hjP
   exact ⟨i0,v0,d0,by rw [List.getElem?_append_left hjP]; exact e1,e2⟩
  ·have:j = P.length:=by omega
   subst this
   exact ⟨i,v,B,by rw [List.getElem?_append_right (Nat.le_refl _),Nat.sub_self]; rfl,hRd,hB⟩
 ·rw [List.length_append,List.length_singleton] at hj
  rcases Nat.lt_or_ge j P.length with hjP | hjP
  ·have h3:=a2.2.2 j hjP
   have e1:pcI (P ++ [[.int .i64 i,v]]) j = pcI P j:=by unfold pcI cellI cellV; rw [Int.toNat_natCast,List.getElem?_append_left hjP]
   have e2:pcD h' (P ++ [[.int .i64 i,v]]) j = pcD h' P j:=by unfold pcD cellV; rw [Int.toNat_natCast,List.getElem?_append_left hjP]
   rw [e1,e2,h3,List.getD_eq_getElem?_getD,List.getD_eq_getElem?_getD,List.getElem?_append_left (by omega)]
  ·have:j = P.length:=by omega
   subst this
   have e1:pcI (P ++ [[.int .i64 i,v]]) P.length = i:=by unfold pcI cellI cellV; rw [Int.toNat_natCast,List.getElem?_append_right (Nat.le_refl _),Nat.sub_self]; rfl
   have e2:pcD h' (P ++ [[.int .i64 i,v]]) P.length = bI B:=by
    unfold pcD cellV
    rw [Int.toNat_natCast,List.getElem?_append_right (Nat.le_refl _),Nat.sub_self]
    exact rdL_eq hRd
   rw [e1,e2,hPl,List.getD_eq_getElem?_getD,List.getElem?_append_right (Nat.le_refl _),Nat.sub_self]; rfl
 ·rcases List.mem_append.1 hx with hx | hx
  ·exact a3 x hx
  ·rw [List.mem_singleton.1 hx,bI_len]; exact hb9
end
end
theorem off_end {h h':Hp} {r r':Option Addr} {d P:Rows'} {c n e i:Int} {M:Option ManV} {L:PcL} {k n' t s l:Int} {R S z:List Int} {D D' B B' J:Rows'} {y:Bool} {a a':Option Addr} {x x' q q':Nat} (h1:gaIs h r d c n P M L) (hl:Hp.le h h')
  (hid:(manOk k n' t s l = false∧e = 2∧R = z)∨(manOk k n' t s l = true∧e = 0∧R = S)) (he:e = 0) (hy:∀ (M:Option ManV) (L:PcL),gaIs h r d c n P M L→y = readyF M L) (hyf:y = false) (hRb:Rd h' kB (.slice a B'.length q) B') (eB:B' = B) (hRd:Rd h' k32 (.slice a' D'.length q') D') (eD:D' = D)
  (hx:x = B.length) (hx':x' = D.length) (hB:allB B) (hb9:(B.length:Int) ≤ 9000) (hD:dgsOk D) (hO:allM (rowL J 32)) (hml:l = (D.length:Int)) :
  gaIs h' r' [[Value.int .i64 k,Value.int .i64 n',Value.int .i64 t,Value.int .i64 s] ++ ((rowL J 32).map (Value.int .u8) ++ [.slice a' x' q'])] 1 (n + 1) (P ++ [[.int .i64 i,.slice a x q]]) (some ⟨k,n',t,s,rowL J 32,dgs D⟩) (L ++ [(i,bI B)]):=by
 subst eB eD hx hx'
 exact ga_add h1 hl hRb hB hb9 (man_lit rfl hRd hD hO (id_ok0 hid he).1 hml) (by rw [← hy M L h1]; exact hyf)
theorem star_Rd {ρ:Env} {l:List SH} {H:Hp} (r ty d c:Nat) (pat:List CK) (hs:star ρ l H) (hm:SH.arr r ty pat (.var d) (.var c) ∈ l):Rd H pat (.slice (addrOf (ρ r).r 0) (ρ d).d.length (ρ c).i.toNat) (ρ d).d:=by
 obtain ⟨hx,hl,hd⟩:=star_mem hs hm
 exact arr_Rd hd hl rfl rfl
set_option maxHeartbeats 4000000 in
theorem offer_ok:offerC.ok Tryz.prog:=offer_of (by simp [id_ok,checkP_ok,inds_ok,contains_ok,ready_ok,cloneD_ok,cloneB_ok]) fun ρ hg hp=>by
 obtain ⟨⟨⟨M,L,h⟩,hO,hMan,hi64,hpa,h9⟩,hGr,hGd⟩:=hp
 have h0:gaIs (ρ 9).h (ρ 2).r (ρ 3).d (ρ 4).i (ρ 6).i (ρ 8).d M L:=h
 obtain ⟨q0,q1,q2,q3,hOm,hml,hml2,hD⟩:=hMan
 obtain ⟨p0,p1,p2,p3⟩:=hpa
 simp only [Nat.reduceAdd] at q0 q1 q2 q3 hOm hml hml2 hD p0 p1 p2 p3
 obtain ⟨hn0,hp0,_,h255,_⟩:=id h0
 have hpl0:=hp0.1
 simp (config:={ maxSteps:=4000000 }) [o_offer,offerC,idC,idAlts,idPre,checkPC,chkAlts,chkPre,indsC,containsC,readyC,cloneDC,cloneBC,gaB,iHpA,intsIn,isInts,pieceArg,pieceArgIn,argM,manO,manB,manT,cellsT,gOk,hGr,hGd]
 repeat' (first | with_reducible apply And.intro | with_reducible intro _)
 all_goals first
  | assumption
  | omega
  | exact ⟨M,L,h0⟩
  | exact off_2 (by assumption) (by assumption) (by assumption)
  | exact off_20 (by assumption) (by assumption) (by assumption) (by assumption)
  | exact off_7 (by assumption) (by assumption) (by assumption) (by assumption) (by assumption) (by assumption) (by assumption) (by assumption) (by assumption) (by assumption)
  | (rw [off_8 (by assumption) (by assumption) (by assumption) (by assumption) (by assumption) (by assumption) (by assumption) (by assumption) (by assumption) (by assumption) (by assumption)]; simp [*]; done)
  | exact (inds_use (by assumption) h0).1
  | exact Int.le_trans (inds_use (by assumption) h0).2.1 (by decide)
  | exact (inds_use (by assumption) h0).2.2.2 _ (by assumption)
  | exact off_c (by assumption) (by assumption) (by assumption) (by assumption) (by assumption) (by assumption)
  | exact ga_ite (by assumption) (by have h:=star_leM 9 20 (by assumption) (by simp); simpa using h) (by assumption)
  | exact ga_mono (by assumption) (by have h:=star_leM 9 20 (by assumption) (by simp); simpa using h)
  | skip
 rename_i hst M1 L1 h1
 have hle:=star_leM 9 20 hst (by simp)
 have hRb:=star_Rd 43 5 45 44 kB hst (by simp [kB])
 have hRd:=star_Rd 40 24 42 41 k32 hst (by simp [k32])
 simp at hRb hRd hle
 exact off_end (J:=(ρ 14).d) h1 hle (by assumption) (by assumption) (by assumption) (by assumption) hRb (by assumption) hRd (by assumption) (by omega) (by omega) p3 (by omega) hD hOm hml
end Go.Proofs

set_option linter.unusedSimpArgs false
set_option linter.unusedVariables false
set_option maxRecDepth 100000
namespace Go.Proofs
open Go Go.Eng

def o_cov:Out:=(.fresh 10 (.pre 0 (sg 0 [bv 4 7,bv 3 6,bv 2 5,bv 1 4,bg 0 3]) (.both (.fresh 11 (.fresh 12 (.fresh 13 (.fresh 14 (.fresh 15 (.fresh 16 (.fresh 17 (.fresh 18 (.fresh 19 (.fresh 20 (.fresh 21 (.fresh 22 (.fresh 23 (.fresh 24 (.fresh 25 (.fresh 26 (.post 0 0 (sg 0 [bv 4 7,bv 3 6,bv 2 5,bv 1 4,bg 0 3]) 11 (.inv 0 27 (sg 1000 [bt 1001 (.lit 0),bt 1002 (.lit 0),bg 1000 10]) (.fresh 27 (.fresh 28 (.fresh 29 (.hyp 0 27 (.br (.cmp .lss (.var 28) (.lit 16))
 (.need (.cmp .leq (.lit 0) (.var 28)) (.br (.c2 (.xbool 0) (.rcons (.vbool (.var 11)) (.rcons (.vbool (.var 12)) (.rcons (.vbool (.var 13)) (.rcons (.vbool (.var 14)) (.rcons (.vbool (.var 15)) (.rcons (.vbool (.var 16)) (.rcons (.vbool (.var 17)) (.rcons (.vbool (.var 18)) (.rcons (.vbool (.var 19)) (.rcons (.vbool (.var 20)) (.rcons (.vbool (.var 21)) (.rcons (.vbool (.var 22)) (.rcons (.vbool (.var 23)) (.rcons (.vbool (.var 24)) (.rcons (.vbool (.var 25)) (.rcons (.vbool (.var 26)) .rnil)))))))))))))))) (.var 28))
 (.pre 1 (sg 0 [bv 4 9,bv 2 1,bv 1 28,bt 0 (r8 0),bg 3 8]) (.both (.fresh 30 (.post 1 0 (sg 0 [bv 4 9,bv 2 1,bv 1 28,bt 0 (r8 0),bg 3 8]) 30 (.br (.var 30)
 (.back 0 27 (sg 1000 [bt 1001 (.arith .add .i64 (.var 28) (.lit 1)),bt 1002 (.arith .add .i64 (.var 29) (.lit 1)),bg 1000 27]))
 (.back 0 27 (sg 1000 [bt 1001 (.arith .add .i64 (.var 28) (.lit 1)),bv 1002 29,bg 1000 27]))))) .top))
 (.back 0 27 (sg 1000 [bt 1001 (.arith .add .i64 (.var 28) (.lit 1)),bv 1002 29,bg 1000 27]))))
 (.br (.cmp .geq (.var 2) (.lit 1))
 (.ret 0 (sg 10 [bt 10 (.cmp .geq (.var 29) (.var 2))]))
 (.ret 0 (sg 10 [bt 10 (.bl false)])))))))))))))))))))))))))) .top)))
end Go.Proofs

set_option linter.unusedSimpArgs false
set_option linter.unusedVariables false
namespace Go.Proofs
open Go Go.Eng
set_option maxRecDepth 20000
section
variable {o L:List Int} {i c s:Int} {l:List Bool}
def covN (o:List Int) (s:Int) (l:List Int):Int:=((l.filter fun i=>betF o i s).length:Int)
theorem covN_len {l:List Int}:0 ≤ covN o s l∧covN o s l ≤ l.length:=⟨by unfold covN; omega,by unfold covN; have:=List.length_filter_le (fun i=>betF o i s) l; omega⟩
theorem covN_snoc {l:List Int} {x:Int}:covN o s (l ++ [x]) = covN o s l + (if betF o x s = true then 1 else 0):=by
 unfold covN
 rw [List.filter_append,List.length_append]
 by_cases h:betF o x s = true
 ·rw [if_pos h]; simp [h]
 ·rw [if_neg h]; simp [h]
theorem covN_to {n:Nat}:0 ≤ covN o s (peersTo L n)∧covN o s (peersTo L n) ≤ n:=by
 have h:=covN_len (o:=o) (s:=s) (l:=peersTo L n)
 have:=peersTo_len (L:=L) (n:=n)
 omega
theorem cov_t {x:Bool} (hc:c = ((peersTo L i.toNat).filter fun i=>betF o i s).length) (h0:0 ≤ i) (h1:i < 16) (hb:boolsP l L) (hx:cellXB [l.map Value.bool] i.toNat = true) (hu:x = betF o i s) (ht:x = true):arithOf .add .i64 c 1 = ((peersTo L (arithOf .add .i64 i 1).toNat).filter fun i=>betF o i s).length:=by
 have hm:i ∈ L:=(seen_iff (seen_bools hb (Nat.le_refl _)) (Nat.le_refl _) h0 h1).1 hx
 have h2:=covN_to (o:=o) (s:=s) (L:=L) (n:=i.toNat)
 change c = covN o s (peersTo L i.toNat) at hc
 show _ = covN o s _
 rw [add1 h0 (by omega),add1 (by omega) (by omega),show (i + 1).toNat = i.toNat + 1 by omega,peersTo_next,Int.toNat_of_nonneg h0,if_pos hm,covN_snoc,if_pos (hu ▸ ht),hc]
theorem cov_f {x:Bool} (hc:c = ((peersTo L i.toNat).filter fun i=>betF o i s).length) (h0:0 ≤ i) (h1:i < 16) (hb:boolsP l L) (hx:cellXB [l.map Value.bool] i.toNat = true) (hu:x = betF o i s) (ht:x = false):c = ((peersTo L (arithOf .add .i64 i 1).toNat).filter fun i=>betF o i s).length:=by
 have hm:i ∈ L:=(seen_iff (seen_bools hb (Nat.le_refl _)) (Nat.le_refl _) h0 h1).1 hx
 have h2:=covN_to (o:=o) (s:=s) (L:=L) (n:=i.toNat)
 change c = covN o s (peersTo L i.toNat) at hc
 show _ = covN o s _
 rw [add1 h0 (by omega),show (i + 1).toNat = i.toNat + 1 by omega,peersTo_next,Int.toNat_of_nonneg h0,if_pos hm,covN_snoc,if_neg (by rw [← hu,ht]; simp),hc,Int.add_zero]
theorem cov_n (hc:c = ((peersTo L i.toNat).filter fun i=>betF o i s).length) (h0:0 ≤ i) (h1:i < 16) (hb:boolsP l L) (hx:cellXB [l.map Value.bool] i.toNat = false):c = ((peersTo L (arithOf .add .i64 i 1).toNat).filter fun i=>betF o i s).length:=by
 have hm:¬ i ∈ L:=seen_not (seen_bools hb (Nat.le_refl _)) (Nat.le_refl _) h0 h1 hx
 rw [add1 h0 (by omega),show (i + 1).toNat = i.toNat + 1 by omega,peersTo_next,Int.toNat_of_nonneg h0,if_neg hm,List.append_nil,hc]
theorem cov_end {n:Int} (hc:c = ((peersTo L i.toNat).filter fun i=>betF o i s).length) (h0:i ≤ 16) (h1:16 ≤ i) (hn:1 ≤ n):decide (c ≥ n) = covF o s n L:=by
 rw [show i.toNat = 16 by omega] at hc
 unfold covF
 rw [decide_eq_true hn,Bool.true_and,hc]; rfl
theorem cov_less {n:Int} (hn:n < 1):false = covF o s n L:=by
 unfold covF
 rw [decide_eq_false (by omega),Bool.false_and]
end
end Go.Proofs

set_option linter.unusedSimpArgs false
set_option linter.unusedVariables false
namespace Go.Eng
open Go Go.Proofs
def intsPre (ρ:Env) (r:Nat):Prop:=0 ≤ (ρ (r + 1)).i∧(ρ (r + 1)).i ≤ (ρ (r + 3)).d.length∧(ρ (r + 1)).i ≤ 1000000000000∧∀ row ∈ (ρ (r + 3)).d,row.length = 1
def setSC:Ctr:={ setC with pre:=fun ρ=>intsPre ρ 0,alts:=[
 { k:=16,ret:=b16 5,heap:=[],post:=fun ρ=>boolsP [(ρ 5).b,(ρ 6).b,(ρ 7).b,(ρ 8).b,(ρ 9).b,(ρ 10).b,(ρ 11).b,(ρ 12).b,(ρ 13).b,(ρ 14).b,(ρ 15).b,(ρ 16).b,(ρ 17).b,(ρ 18).b,(ρ 19).b,(ρ 20).b] ((ints (ρ 3).d).take (ρ 1).i.toNat) }] }
def covSC:Ctr:={ covC with pre:=fun ρ=>allM (rowL (ρ 0).d 32)∧intsPre ρ 3∧gOk ρ 8 9 gR,alts:=[{ k:=1,ret:=.one (.vbool (.var 10)),heap:=[],post:=fun ρ=>(ρ 10).b = covF (rowL (ρ 0).d 32) (ρ 1).i (ρ 2).i ((ints (ρ 6).d).take (ρ 4).i.toNat) }] }
def covSI:Inv:={ covI with inv:=(fun ρ=>0 ≤ (ρ 1001).i∧(ρ 1001).i ≤ 16∧(ρ 1002).i = (((peersTo ((ints (ρ 6).d).take (ρ 4).i.toNat) (ρ 1001).i.toNat).filter fun i=>betF (rowL (ρ 0).d 32) i (ρ 1).i).length:Int)) }
end Go.Eng
namespace Go.Proofs
open Go Go.Eng
set_option maxRecDepth 100000
theorem o_setS_eq:treeOf ⟨Tryz.prog,setSC,[peerC],[setI]⟩ 100000 Tryz.f82 = o_set:=by kernel_rfl
theorem setS_of (hd:∀ c ∈ ([peerC]:List Ctr),c.ok Tryz.prog) (h:∀ ρ:Env,ρ.good→(setSC).pre ρ→o_set.den ⟨Tryz.prog,setSC,[peerC],[setI]⟩ ρ):(setSC).ok Tryz.prog :=
 ok_of_tree Tryz.func82 (fun a w=>Tryz.call82 a w) hd 100000 (fun ρ hg hp=>by rw [o_setS_eq]; exact h ρ hg hp)
theorem o_covS_eq:treeOf ⟨Tryz.prog,covSC,[setSC,betterC],[covSI]⟩ 100000 Tryz.f37 = o_cov:=by kernel_rfl
theorem covS_of (hd:∀ c ∈ ([setSC,betterC]:List Ctr),c.ok Tryz.prog) (h:∀ ρ:Env,ρ.good→(covSC).pre ρ→o_cov.den ⟨Tryz.prog,covSC,[setSC,betterC],[covSI]⟩ ρ):(covSC).ok Tryz.prog :=
 ok_of_tree Tryz.func37 (fun a w=>Tryz.call37 a w) hd 100000 (fun ρ hg hp=>by rw [o_covS_eq]; exact h ρ hg hp)
theorem setS_ok:setSC.ok Tryz.prog:=setS_of (by simp [peer_ok]) fun ρ hg hp=>by
 obtain ⟨h0,hl,h1,hr⟩:=hp
 simp only [Nat.reduceAdd] at h0 hl h1 hr
 simp (config:={ maxSteps:=4000000 }) [o_set,setSC,setC,setI,peerC,h0]
 have hil:(ints (ρ 3).d).length = (ρ 3).d.length:=by simp [ints]
 refine ⟨seenTo_zero,fun s _ i _ i0 i1 hs=>⟨fun hi=>⟨i0,by omega,fun u _ hu=>⟨fun ht=>?_,fun hf=>?_⟩⟩,fun hi=>?_⟩⟩
 ·have hp:0 ≤ cellI (ρ 3).d i.i 0∧cellI (ρ 3).d i.i 0 < 16:=by rw [hu] at ht; exact of_decide_eq_true ht
  have hsl:0 < s.d.length:=by obtain ⟨⟨row,e,_⟩,_⟩:=hs; rw [e]; exact Nat.one_pos
  rw [add64 (x:=i.i) (by omega) (by omega)]
  refine ⟨hp.1,hp.2,hsl,⟨by omega,by omega,?_⟩,by omega⟩
  rw [show (i.i + 1).toNat = i.i.toNat + 1 by omega]
  exact seenTo_step hs (by omega) (ints_at i0 (by omega)) hp.1 hp.2
 ·have hp:¬ (0 ≤ cellI (ρ 3).d i.i 0∧cellI (ρ 3).d i.i 0 < 16):=by rw [hu] at hf; exact of_decide_eq_false hf
  rw [add64 (x:=i.i) (by omega) (by omega)]
  refine ⟨⟨by omega,by omega,?_⟩,by omega⟩
  rw [show (i.i + 1).toNat = i.i.toNat + 1 by omega]
  exact seenTo_skip hs (by omega) (ints_at i0 (by omega)) hp
 ·obtain ⟨⟨row,hs1,hrl⟩,hs2⟩:=hs
  rw [show i.i.toNat = (ρ 1).i.toNat by omega] at hs2
  rw [hs1] at hs2 ⊢
  match row,hrl with
  | [a0,a1,a2,a3,a4,a5,a6,a7,a8,a9,a10,a11,a12,a13,a14,a15],_ =>
   refine ⟨by simp,?_⟩
   have key:boolsP ((List.range 16).map (cellXB [[a0,a1,a2,a3,a4,a5,a6,a7,a8,a9,a10,a11,a12,a13,a14,a15]])) ((ints (ρ 3).d).take (ρ 1).i.toNat):=⟨by simp,fun j hj=>by
    rw [List.getD_eq_getElem?_getD,List.getElem?_map,List.getElem?_range hj]
    exact hs2 j (by omega) (by omega)⟩
   exact key
theorem covS_ok:covSC.ok Tryz.prog:=covS_of (by simp [setS_ok,better_ok]) fun ρ hg hp=>by
 obtain ⟨hO,⟨h0,hl,h1,hr⟩,hGr,hGd⟩:=hp
 simp only [Nat.reduceAdd] at h0 hl h1 hr
 simp (config:={ maxSteps:=4000000 }) [o_cov,covSC,covC,covSI,covI,setSC,setC,betterC,iHpA,intsPre,gOk,h0,hl,hO,hGr,hGd]
 repeat' (first | with_reducible apply And.intro | with_reducible intro _)
 all_goals first
  | assumption
  | omega
  | rfl
  | exact rows_in (by assumption) (by assumption)
  | (rw [add1 (by assumption) (by omega)]; omega)
  | exact cov_t (l:=[_,_,_,_,_,_,_,_,_,_,_,_,_,_,_,_]) (by assumption) (by assumption) (by assumption) (by assumption) (by assumption) (by assumption) (by assumption)
  | exact cov_f (l:=[_,_,_,_,_,_,_,_,_,_,_,_,_,_,_,_]) (by assumption) (by assumption) (by assumption) (by assumption) (by assumption) (by assumption) (by assumption)
  | exact cov_n (l:=[_,_,_,_,_,_,_,_,_,_,_,_,_,_,_,_]) (by assumption) (by assumption) (by assumption) (by assumption) (by assumption)
  | exact cov_end (by assumption) (by assumption) (by assumption) (by assumption)
  | exact cov_less (by assumption)
  | exact (cov_less (by assumption)).symm
end Go.Proofs

set_option linter.unusedSimpArgs false
set_option linter.unusedVariables false
namespace Go.Eng
open Go Go.Proofs
def known7C:Ctr:={ fn := 31,nv:=2,ow:=[1003,200096],ip:=[gIp 0,(1127,8),(58,2),(1001,9),(1002,9)],args:=[],heap:=[],ro:=[gHp 0 1],pre:=fun ρ=>gOk ρ 0 1 gR,alts:=[lawTrue] }
def known7J:Inv:={ key:=1000012,nv:=19,env:=[(4,.one (.vptr 1010 (.lit 0) 37 0)),(5,.one (.vslice 1015 (.lit 0) (.lit 1) (.var 1016) 2)),(6,.one (.vint .i64 (.lit 0))),(9,gaP 1000)],heap:=gaAll 1000 20 ++ [.cells 1010 27 ([.vint .i64 (.lit 1),.vint .i64 (.lit 1),.vint .i64 (.lit 1),.vint .i64 (.lit 1)] ++ (cellsT .u8 1011 32 ++ [.vslice 1012 (.lit 0) (.lit 1) (.var 1013) 32])),dgsHp 1012 1014 1013,pcHp 1015 1017 1016,.abs 1018 10],inv:=(fun ρ=>gaB ρ 1000 none []∧allM (rowL (ρ 1011).d 32)∧dgsOk (ρ 1014).d∧(ρ 1014).d.length = 1∧(ρ 1017).d.length = 1∧pcOk (ρ 1018).h (ρ 1017).d 1∧pcI (ρ 1017).d 0 = 0∧chkE 1 1 1 1 1 (dgs (ρ 1014).d) 0 (pcD (ρ 1018).h (ρ 1017).d 0) = 0∧rowL (ρ 1001).d 32 = sha (manHead 1 1 1 1 (rowL (ρ 1011).d 32) ++ (dgs (ρ 1014).d).flatten)),mu:=fun _=>0 }
end Go.Eng

set_option linter.unusedSimpArgs false
set_option linter.unusedVariables false
set_option maxRecDepth 100000
namespace Go.Proofs
open Go Go.Eng

@[simp] def o_known7_14:T:=.rcons (.vint .u8 (.lit 1)) (.rcons o8 (.rcons o8 (.rcons o8 (.rcons o8 (.rcons o8 (.rcons o8 (.rcons o8 (.rcons o8 (.rcons o8 (.rcons o8 (.rcons o8 (.rcons o8 (.rcons o8 (.rcons o8 (.rcons o8 (.rcons o8 (.rcons o8 (.rcons o8 (.rcons o8 (.rcons o8 (.rcons o8 (.rcons o8 (.rcons o8 (.rcons o8 (.rcons o8 (.rcons o8 (.rcons o8 (.rcons o8 (.rcons o8 (.rcons o8 (.rcons o8 .rnil)))))))))))))))))))))))))))))))
@[simp] def o_known7_13:Sg:=sg 0 [bg 9 68,bv 8 67,bv 4 63,bv 3 62,bv 7 66,bv 6 65,bg 5 64,bg 2 61,bt 1 (s8 40),bg 0 39]
@[simp] def o_known7_12:Sg:=sg 0 [bv 11 1,bv 9 28,bv 8 32,bv 7 28,bt 6 (.lit 1),bg 5 27,bt 3 (.lit 1),bt 2 (.lit 1),bt 1 (.lit 1),bt 0 (.lit 1),bt 4 (r8 26),bg 10 0]
@[simp] def o_known7_11:Sg:=sg 0 [bv 11 1,bt 9 (.lit 1),bt 8 (.rcons (.vint .u8 (.lit 120)) .rnil),bv 1 23,bt 7 (.lit 1),bt 6 (.lit 1),bg 5 24,bt 4 (.lit 1),bt 3 (.lit 1),bt 2 (.lit 1),bg 0 22,bg 10 0]
@[simp] def o_known7_10:Sg:=sg 0 [bv 27 1,bv 25 59,bv 24 60,bv 19 52,bv 18 53,bg 9 48,bv 8 47,bv 4 43,bv 3 42,bv 7 46,bv 6 45,bg 5 44,bg 2 41,bt 1 (r8 40),bv 23 59,bt 22 (.dlen (.var 60)),bg 21 58,bt 20 (.icell (.var 56) (.lit 0) 0),bv 17 52,bt 16 (.lit 1),bg 15 51,bt 13 (.lit 1),bt 12 (.lit 1),bt 11 (.lit 1),bt 10 (.lit 1),bt 14 (r8 50),bg 0 39,bg 26 0]
@[simp] def o_known7_9:Sg:=sg 0 [bv 3 1,bt 1 (.lit 1),bt 0 o_known7_14,bg 2 0]
@[simp] def o_known7_8:Sg:=sg 0 [bv 3 1,bt 1 (.lit 0),bt 0 o_known7_14,bg 2 0]
@[simp] def o_known7_7:Sg:=sg 0 [bv 3 1,bt 1 (.lit 3),bt 0 o_known7_14,bg 2 0]
@[simp] def o_known7_6:Sg:=sg 0 [bg 5 13,bv 4 12,bt 3 (.lit 5),bt 2 (.icell (.var 6) (.lit 0) 0),bt 1 o_known7_14,bg 0 11]
@[simp] def o_known7_5:Sg:=sg 0 [bv 9 1,bv 7 5,bv 6 6,bv 5 5,bt 4 (.lit 2),bg 3 3,bt 2 (.lit 2),bt 1 (.icell (.var 6) (.lit 2) 0),bt 0 o_known7_14,bg 8 0]
@[simp] def o_known7_4:Sg:=sg 0 [bv 17 1,bt 15 (.lit 0),bt 14 .dnil,bv 10 5,bv 9 6,bg 5 16,bv 4 12,bt 13 (.lit 0),bt 12 (.lit 0),(11,.nil),bv 8 5,bv 7 4,bg 6 3,bt 3 (.lit 17),bt 2 (.icell (.var 6) (.lit 1) 0),bt 1 o_known7_14,bg 0 11,bg 16 0]
@[simp] def o_known7_3:Sg:=sg 0 [bv 17 1,bt 15 (.lit 0),bt 14 .dnil,bv 10 5,bv 9 6,bg 5 14,bv 4 12,bt 13 (.lit 0),bt 12 (.lit 0),(11,.nil),bv 8 5,bv 7 4,bg 6 3,bt 3 (.lit 16),bt 2 (.icell (.var 6) (.lit 1) 0),bt 1 o_known7_14,bg 0 11,bg 16 0]
@[simp] def o_known7_2:Sg:=sg 0 [bv 11 1,bt 6 (.lit 3),bt 5 (.dapp (.rcons (.vint .i64 (.lit 0)) .rnil) (.dapp (.rcons (.vint .i64 (.lit 1)) .rnil) (.rcons (.vint .i64 (.lit 2)) .rnil))),bt 9 (.bl false),bt 8 (.bl true),bt 7 (.lit 3),bt 4 (.lit 3),bt 3 (.lit 3),bg 2 9,bt 1 (.lit 3),bt 0 o_known7_14,bg 10 0]
@[simp] def o_known7_1:Sg:=sg 0 [bv 11 1,bt 6 (.lit 3),bt 5 (.dapp (.rcons (.vint .i64 (.lit 0)) .rnil) (.dapp (.rcons (.vint .i64 (.lit 1)) .rnil) (.rcons (.vint .i64 (.lit 2)) .rnil))),bt 9 (.bl false),bt 8 (.bl false),bt 7 (.lit 3),bt 4 (.lit 3),bt 3 (.lit 3),bg 2 7,bt 1 (.lit 1),bt 0 o_known7_14,bg 10 0]
def o_known7:Out:=(.fresh 2 (.pre 0 o_known7_7 (.both (.fresh 3 (.fresh 4 (.fresh 5 (.fresh 6 (.post 0 0 o_known7_7 3 (.need (.cmp .leq (.lit 0) (.var 4)) (.br (.cmp .neq (.var 4) (.lit 3))
 (.stuck 7 0 0)
 (.fresh 7 (.pre 1 o_known7_1 (.both (.fresh 8 (.post 1 0 o_known7_1 8 (.br (.cmp .neq (.var 8) (.lit 1))
 (.stuck 7 0 0)
 (.fresh 9 (.pre 1 o_known7_2 (.both (.fresh 10 (.post 1 0 o_known7_2 10 (.br (.cmp .neq (.var 10) (.lit 2))
 (.stuck 7 0 0)
 (.pre 2 (sg 0 []) (.both (.fresh 11 (.fresh 12 (.fresh 13 (.post 2 0 (sg 0 []) 11 (.need (.cmp .lss (.lit 0) (.var 4)) (.need (.cmp .lss (.lit 0) (.dlen (.var 6))) (.both (.pre 3 o_known7_6 (.both (.fresh 14 (.post 3 0 o_known7_6 14 (.need (.cmp .lss (.lit 1) (.var 4)) (.need (.cmp .lss (.lit 1) (.dlen (.var 6))) (.both (.pre 4 o_known7_3 (.both (.fresh 15 (.fresh 16 (.post 4 0 o_known7_3 15 (.br (.not (.var 15))
 (.both (.both (.both (.both (.stuck 7 0 0) .top) .top) .top) .top)
 (.both (.pre 4 o_known7_4 (.both (.fresh 17 (.fresh 18 (.post 4 0 o_known7_4 17 (.br (.var 17)
 (.both (.both (.both (.stuck 7 0 0) .top) .top) .top)
 (.need (.cmp .lss (.lit 2) (.var 4)) (.need (.cmp .lss (.lit 2) (.dlen (.var 6))) (.know (.cmp .leq (.dlen (.var 6)) (.var 5)) (.need (.cmp .leq (.lit 0) (.var 5)) (.need (.cmp .leq (.lit 2) (.var 5)) (.both (.pre 5 o_known7_5 (.both (.fresh 19 (.post 5 0 o_known7_5 19 (.br (.not (.var 19))
 (.both (.both (.stuck 7 0 0) .top) .top)
 (.both (.pre 6 o_known7_8 (.both (.fresh 20 (.post 6 0 o_known7_8 20 (.both (.pre 6 o_known7_9 (.both (.fresh 21 (.post 6 0 o_known7_9 21 (.br (.c2 .req (r8 20) (r8 21))
 (.stuck 7 0 0)
 (.pre 7 (sg 0 []) (.both (.fresh 22 (.fresh 23 (.post 7 0 (sg 0 []) 22 (.fresh 24 (.fresh 25 (.pre 8 o_known7_11 (.both (.fresh 26 (.fresh 27 (.fresh 28 (.fresh 29 (.fresh 30 (.fresh 31 (.fresh 32 (.fresh 33 (.fresh 34 (.post 8 0 o_known7_11 26 (.fresh 35 (.pre 9 o_known7_12 (.both (.fresh 36 (.fresh 37 (.post 9 0 o_known7_12 36 (.fresh 38 (.both (.pre 10 (sg 0 [bt 0 (r8 36)]) (.both (.fresh 39 (.post 10 0 (sg 0 [bt 0 (r8 36)]) 39 (.pack [.cells 38 24 [(x8 0 36),(x8 1 36),(x8 2 36),(x8 3 36),(x8 4 36),(x8 5 36),(x8 6 36),(x8 7 36),(x8 8 36),(x8 9 36),(x8 10 36),(x8 11 36),(x8 12 36),(x8 13 36),(x8 14 36),(x8 15 36),(x8 16 36),(x8 17 36),(x8 18 36),(x8 19 36),(x8 20 36),(x8 21 36),(x8 22 36),(x8 23 36),(x8 24 36),(x8 25 36),(x8 26 36),(x8 27 36),(x8 28 36),(x8 29 36),(x8 30 36),(x8 31 36)],.arr 22 151 [CK.int .u32,CK.int .i32,CK.int .u32,CK.int .u8,CK.int .u8,CK.int .u8,CK.int .u8,CK.int .u8,CK.int .u8,CK.int .u8,CK.int .u8,CK.int .u8,CK.int .u8,CK.int .u8,CK.int .u8,CK.int .u8,CK.int .u8,CK.int .u8,CK.int .u8,CK.int .u8,CK.int .u8,CK.int .u8,CK.int .u8,CK.int .u8,CK.int .u8,CK.int .u8,CK.int .u8,CK.int .u8,CK.int .u8,CK.int .u8,CK.int .u8,CK.int .u8,CK.int .u8,CK.int .u8,CK.int .u8,CK.int .u8,CK.int .u8,CK.int .u8,CK.int .u8,CK.int .u8,CK.int .u8,CK.int .u8,CK.int .u8,CK.int .u8,CK.int .u8,CK.int .u8,CK.int .u8,CK.int .u8,CK.int .u8,CK.int .u8,CK.int .u8,CK.int .u8,CK.int .u8,CK.int .u8,CK.int .u8,CK.int .u8,CK.int .u8,CK.int .u8,CK.int .u8,CK.int .u8,CK.int .u8,CK.int .u8,CK.int .u8,CK.int .u8,CK.int .u8,CK.int .u8,CK.int .u8,CK.int .u8,CK.int .u8,CK.int .u8,CK.int .u8,CK.int .u8,CK.int .u8,CK.int .u8,CK.int .u8,CK.int .u8,CK.int .u8,CK.int .u8,CK.int .u8,CK.int .u8,CK.int .u8,CK.int .u8,CK.int .u8,CK.int .u8,CK.int .u8,CK.int .u8,CK.int .u8,CK.int .u8,CK.int .u8,CK.int .u8,CK.int .u8,CK.int .u8,CK.int .u8,CK.int .u8,CK.int .u8,CK.int .u8,CK.int .u8,CK.int .u8,CK.int .u8,CK.int .u8,CK.int .u8,CK.int .u8,CK.int .u8,CK.int .u8,CK.int .u8,CK.int .u8,CK.int .u8,CK.int .u8,CK.int .u8,CK.int .u8,CK.int .u8,CK.int .u8,CK.int .u8,CK.int .u8,CK.int .u8,CK.int .u8,CK.int .u8,CK.int .u8,CK.int .u8,CK.int .u8,CK.int .u8,CK.int .u8,CK.int .u8,CK.int .u8,CK.int .u8,CK.int .u8,CK.int .u8,CK.int .u8,CK.int .u8,CK.int .u8,CK.int .u8,CK.int .u8,CK.int .u8,CK.int .u8,CK.int .u8,CK.int .u8,CK.int .u8,CK.int .u8,CK.int .u8,CK.int .u8,CK.int .u8,CK.int .u8,CK.int .u8,CK.int .u8,CK.int .u8,CK.int .u8,CK.int .u8,CK.int .u8,CK.int .u8,CK.int .u8,CK.int .u8,CK.int .u8,CK.int .u8,CK.int .u8,CK.int .u8,CK.int .u8,CK.int .u8,CK.int .u8,CK.int .u8,CK.int .u8,CK.int .u8,CK.int .u8,CK.int .u8,CK.int .u8,CK.int .u8,CK.int .u8,CK.int .u8,CK.int .u8,CK.int .u8,CK.int .u8,CK.int .u8,CK.int .u8,CK.int .u8,CK.int .u8,CK.int .u8,CK.int .u8,CK.int .u8,CK.int .u8,CK.int .u8,CK.int .u8,CK.int .u8,CK.int .u8,CK.int .u8,CK.int .u8,CK.int .u8,CK.int .u8,CK.int .u8,CK.int .u8,CK.int .u8,CK.int .u8,CK.int .u8,CK.int .u8,CK.int .u8,CK.int .u8,CK.int .u8,CK.int .u8,CK.int .u8,CK.int .u8,CK.int .u8,CK.int .u8,CK.int .u8,CK.int .u8,CK.int .u8,CK.int .u8,CK.int .u8,CK.int .u8,CK.int .u8,CK.int .u8,CK.int .u8,CK.int .u8,CK.int .u8,CK.int .u8,CK.int .u8,CK.int .u8,CK.int .u8,CK.int .u8,CK.int .u8,CK.int .u8,CK.int .u8,CK.int .u8,CK.int .u8,CK.int .u8,CK.int .u8,CK.int .u8,CK.int .u8,CK.int .u8,CK.int .u8,CK.int .u8,CK.int .u8,CK.int .u8,CK.int .u8,CK.int .u8,CK.int .u8,CK.int .u8,CK.int .u8,CK.int .u8,CK.int .u8,CK.int .u8,CK.int .u8,CK.int .u8,CK.int .u8,CK.int .u8,CK.int .u8,CK.int .u8,CK.int .u8,CK.int .u8,CK.int .u8,CK.int .u8,CK.int .u8,CK.int .u8,CK.int .u8,CK.int .u8,CK.int .u8,CK.int .u8,CK.int .u8,CK.int .u8,CK.int .u8,CK.int .u8,CK.int .u8,CK.int .u8,CK.int .u8,CK.int .u8,CK.int .u8,CK.int .u8,CK.int .u8,CK.int .u8,CK.int .u8,CK.int .u8,CK.int .u8,CK.int .u8,CK.int .u8,CK.int .u8,CK.int .u8,CK.int .u8,CK.int .u8,CK.int .u8,CK.int .u8,CK.int .u8,CK.int .u8,CK.int .u8,CK.int .u8,CK.int .u8,CK.int .u8,CK.int .u8,CK.int .u8,CK.int .u8,CK.int .u8,CK.int .u8,CK.int .u8,CK.int .u8,CK.int .u8,CK.int .u8,CK.int .u8,CK.int .u8,CK.int .u8,CK.int .u8,CK.int .u8,CK.int .u8,CK.int .u8,CK.int .u8,CK.int .u8,CK.int .u8,CK.int .u8,CK.int .u8,CK.int .u8,CK.int .u8,CK.int .u8,CK.int .u8,CK.int .u8,CK.int .u8,CK.int .u8,CK.int .u8,CK.int .u8,CK.int .u8,CK.int .u8,CK.int .u8,CK.int .u8,CK.int .u8,CK.int .u8,CK.int .u8,CK.int .u8,CK.int .u8,CK.int .u8,CK.int .u8,CK.int .u8,CK.int .u8,CK.int .u8,CK.int .u8,CK.int .u8,CK.int .u8,CK.int .u8,CK.int .u8,CK.int .u8,CK.int .u8,CK.int .u8,CK.int .u8,CK.int .u8,CK.int .u8,CK.int .u8,CK.int .u8,CK.int .u8,CK.int .u8,CK.int .u8,CK.int .u8,CK.int .u8,CK.int .u8,CK.int .u8,CK.int .u8,CK.int .u8,CK.int .u8,CK.int .u8,CK.int .u8,CK.int .u8,CK.int .u8,CK.int .u8,CK.int .u8,CK.int .u8,CK.int .u8,CK.int .u8,CK.int .u8,CK.int .u8,CK.int .u8,CK.int .u8,CK.int .u8,CK.int .u8,CK.int .u8,CK.int .u8,CK.int .u8,CK.int .u8,CK.int .u8,CK.int .u8,CK.int .u8,CK.int .u8,CK.int .u8,CK.int .u8,CK.int .u8,CK.int .u8,CK.int .u8,CK.int .u8,CK.int .u8,CK.int .u8,CK.int .u8,CK.int .u8,CK.int .u8,CK.int .u8,CK.int .u8,CK.int .u8,CK.int .u8,CK.int .u8,CK.int .u8,CK.int .u8,CK.int .u8,CK.int .u8,CK.int .u8,CK.int .u8,CK.int .u8,CK.int .u8,CK.int .u8,CK.int .u8,CK.int .u8,CK.int .u8,CK.int .u8,CK.int .u8,CK.int .u8,CK.int .u8,CK.int .u8,CK.int .u8,CK.int .u8,CK.int .u8,CK.int .u8,CK.int .u8,CK.int .u8,CK.int .u8,CK.int .u8,CK.int .u8,CK.int .u8,CK.int .u8,CK.int .u8,CK.int .u8,CK.int .u8,CK.int .u8,CK.int .u8,CK.int .u8,CK.int .u8,CK.int .u8,CK.int .u8,CK.int .u8,CK.int .u8,CK.int .u8,CK.int .u8,CK.int .u8,CK.int .u8,CK.int .u8,CK.int .u8,CK.int .u8,CK.int .u8,CK.int .u8,CK.int .u8,CK.int .u8,CK.int .u8,CK.int .u8,CK.int .u8,CK.int .u8,CK.int .u8,CK.int .u8,CK.int .u8,CK.int .u8,CK.int .u8,CK.int .u8,CK.int .u8,CK.int .u8,CK.int .u8,CK.int .u8,CK.int .u8,CK.int .u8,CK.int .u8,CK.int .u8,CK.int .u8,CK.int .u8,CK.int .u8,CK.int .u8,CK.int .u8,CK.int .u8,CK.int .u8,CK.int .u8,CK.int .u8,CK.int .u8,CK.int .u8,CK.int .u8,CK.int .u8,CK.int .u8,CK.int .u8,CK.int .u8,CK.int .u8,CK.int .u8,CK.int .u8,CK.int .u8,CK.int .u8,CK.int .u8,CK.int .u8,CK.int .u8,CK.int .u8,CK.int .u8,CK.int .u8,CK.int .u8,CK.int .u8,CK.int .u8,CK.int .u8,CK.int .u8,CK.int .u8,CK.int .u8,CK.int .u8,CK.int .u8,CK.int .u8,CK.int .u8,CK.int .u8,CK.int .u8,CK.int .u8,CK.int .u8,CK.int .u8,CK.int .u8,CK.int .u8,CK.int .u8,CK.int .u8,CK.int .u8,CK.int .u8,CK.int .u8,CK.int .u8,CK.int .u8,CK.int .u8,CK.int .u8,CK.int .u8,CK.int .u8,CK.int .i64,CK.int .i64,CK.int .i64,CK.int .i64,CK.int .i64,CK.int .i64,CK.int .i64,CK.int .i64,CK.int .i64,CK.int .i64,CK.int .i64,CK.int .i64,CK.int .i64,CK.int .i64,CK.int .i64,CK.int .i64,CK.int .i64,CK.int .i64,CK.int .i64,CK.int .i64,CK.int .i64,CK.int .i64,CK.int .i64,CK.int .i64,CK.int .i64,CK.int .i64,CK.int .i64,CK.int .i64,CK.int .i64,CK.int .i64,CK.int .i64,CK.int .i64,CK.int .i64,CK.int .i64,CK.int .i64,CK.int .i64,CK.int .i64,CK.int .i64,CK.int .i64,CK.int .i64,CK.int .i64,CK.int .i64,CK.int .i64,CK.int .i64,CK.int .i64,CK.int .i64,CK.int .i64,CK.int .i64,CK.int .i64,CK.int .i64,CK.int .i64,CK.int .i64,CK.int .i64,CK.int .i64,CK.int .i64,CK.int .i64,CK.int .i64,CK.int .i64,CK.int .i64,CK.int .i64,CK.int .i64,CK.int .i64,CK.int .i64,CK.int .i64,CK.int .i64,CK.int .i64,CK.int .i64,CK.int .i64,CK.int .i64,CK.int .i64,CK.int .i64,CK.int .i64,CK.int .i64,CK.int .i64,CK.int .i64,CK.int .i64,CK.int .i64,CK.int .i64,CK.int .i64,CK.int .i64,CK.int .i64,CK.int .i64,CK.int .i64,CK.int .i64,CK.int .i64,CK.int .i64,CK.int .i64,CK.int .i64,CK.int .i64,CK.int .i64,CK.int .i64,CK.int .i64,CK.int .i64,CK.int .i64,CK.int .i64,CK.int .i64,CK.int .i64,CK.int .i64,CK.int .i64,CK.int .i64,CK.int .i64,CK.int .i64,CK.int .i64,CK.int .i64,CK.int .i64,CK.int .i64,CK.int .i64,CK.int .i64,CK.int .i64,CK.int .i64,CK.int .i64,CK.int .i64,CK.int .i64,CK.int .i64,CK.int .i64,CK.int .i64,CK.int .i64,CK.int .i64,CK.int .i64,CK.int .i64,CK.int .i64,CK.int .i64,CK.int .i64,CK.int .i64,CK.int .i64,CK.int .i64,CK.int .i64,CK.int .i64,CK.int .i64,CK.int .i64,CK.int .i64,CK.int .i64,CK.int .i64,CK.int .i64,CK.int .i64,CK.int .i64,CK.int .i64,CK.int .i64,CK.int .i64,CK.int .i64,CK.int .i64,CK.int .i64,CK.int .i64,CK.int .i64,CK.int .i64,CK.int .i64,CK.int .i64,CK.int .i64,CK.int .i64,CK.int .i64,CK.int .i64,CK.int .i64,CK.int .i64,CK.int .i64,CK.int .i64,CK.int .i64,CK.int .i64,CK.int .i64,CK.int .i64,CK.int .i64,CK.int .i64,CK.int .i64,CK.int .i64,CK.int .i64,CK.int .i64,CK.int .i64,CK.int .i64,CK.int .i64,CK.int .i64,CK.int .i64,CK.int .i64,CK.int .i64,CK.int .i64,CK.int .i64,CK.int .i64,CK.int .i64,CK.int .i64,CK.int .i64,CK.int .i64,CK.int .i64,CK.int .i64,CK.int .i64,CK.int .i64,CK.int .i64,CK.int .i64,CK.int .i64,CK.int .i64,CK.int .i64,CK.int .i64,CK.int .i64,CK.int .i64,CK.int .i64,CK.int .i64,CK.int .i64,CK.int .i64,CK.int .i64,CK.int .i64,CK.int .i64,CK.int .i64,CK.int .i64,CK.int .i64,CK.int .i64,CK.int .i64,CK.int .i64,CK.int .i64,CK.int .i64,CK.int .i64,CK.int .i64,CK.int .i64,CK.int .i64,CK.int .i64,CK.int .i64,CK.int .i64,CK.int .i64,CK.int .i64,CK.int .i64,CK.int .i64,CK.int .i64,CK.int .i64,CK.int .i64,CK.int .i64,CK.int .i64,CK.int .i64,CK.int .i64,CK.int .i64,CK.int .i64,CK.int .i64,CK.int .i64,CK.int .i64,CK.int .i64,CK.int .i64,CK.int .i64,CK.int .i64,CK.int .i64,CK.int .i64,CK.int .i64,CK.int .i64,CK.int .i64,CK.int .i64,CK.int .i64,CK.int .i64,CK.int .i64,CK.int .i64,CK.int .i64,CK.int .i64,CK.int .i64,CK.int .i64,CK.int .i64,CK.int .i64,CK.int .i64,CK.int .i64,CK.int .i64,CK.int .i64,CK.int .i64,CK.int .i64,CK.int .i64] (.var 31) (.lit 1),.cells 11 179 [(.var 12)],.cells 9 3 [(.vint .i64 (.lit 0)),(.vint .i64 (.lit 1)),(.vint .i64 (.lit 2))],.cells 7 3 [(.vint .i64 (.lit 0)),(.vint .i64 (.lit 1)),(.vint .i64 (.lit 2))],.arr 3 3 [CK.int .i64] (.var 6) (.var 5),.cells 2 24 [(.vint .u8 (.lit 1)),o8,o8,o8,o8,o8,o8,o8,o8,o8,o8,o8,o8,o8,o8,o8,o8,o8,o8,o8,o8,o8,o8,o8,o8,o8,o8,o8,o8,o8,o8,o8]] 40 (.cut 0 39 (sg 1000 [bg 1018 34,bv 1017 33,bv 1014 32,bv 1013 28,bg 1012 27,bt 1011 (r8 26),bg 1009 40,bt 1008 .dnil,bt 1004 (.lit 0),bt 1003 .dnil,bt 1007 (.lit 0),bt 1006 (.lit 0),(1005,.nil),(1002,.nil),bt 1001 (s8 36),bg 1000 39,bv 1016 30,bg 1015 29,bg 1010 35]))))) .top)) (.fresh 39 (.fresh 40 (.fresh 41 (.fresh 42 (.fresh 43 (.fresh 44 (.fresh 45 (.fresh 46 (.fresh 47 (.fresh 48 (.fresh 49 (.fresh 50 (.fresh 51 (.fresh 52 (.fresh 53 (.fresh 54 (.fresh 55 (.fresh 56 (.fresh 57 (.hyp 0 39 (.need (.cmp .lss (.lit 0) (.dlen (.var 56))) (.both (.viewL (.vcell (.var 56) (.lit 0) 1) [CK.int .u8] [57] 58 (.pre 11 o_known7_10 (.both (.fresh 61 (.fresh 62 (.fresh 63 (.fresh 64 (.fresh 65 (.fresh 66 (.fresh 67 (.fresh 68 (.fresh 69 (.post 11 0 o_known7_10 61 (.both (.both (.both (.br (.cmp .eql (.var 69) (.lit 0))
 (.both (.both (.pre 12 o_known7_13 (.both (.fresh 70 (.post 12 0 o_known7_13 70 (.both (.both (.br (.var 70)
 (.both (.both (.pre 13 o_known7_13 (.both (.fresh 71 (.fresh 72 (.fresh 73 (.fresh 74 (.post 13 0 o_known7_13 71 (.both (.need (.cmp .leq (.lit 0) (.var 72)) (.both (.both (.both (.need (.beq (.bl true) (.cmp .eql (.var 72) (.lit 1))) (.ret 0 (sg 2 []))) .top) .top) .top)) .top)))))) .top)) .top) .top)
 (.both (.both (.both (.both (.both (.both (.stuck 7 0 0) .top) .top) .top) .top) .top) .top)) .top) .top))) .top)) .top) .top)
 (.both (.both (.both (.both (.both (.both (.both (.both (.both (.both (.stuck 7 0 0) .top) .top) .top) .top) .top) .top) .top) .top) .top) .top)) .top) .top) .top))))))))))) .top))) .top))))))))))))))))))))))))))) .top))))))))))))) .top))))))) .top))))) .top)) .top))) .top)) .top)))) .top)) .top)))))))))) .top)) .top))))) .top)) .top))))) .top)) .top))))))) .top))))) .top)))))) .top)))))))))) .top)))
theorem o_known7_eq:treeOf ⟨Tryz.prog,known7C,[rankingC,dutyC,newClC,noteC,blockedC,covSC,scoreC,newFieldC,makeGC,idC,newGaC,offerC,readyC,indsC],[known7J]⟩ 100000 Tryz.f31 = o_known7:=by kernel_rfl
theorem known7_of (hd:∀ c ∈ ([rankingC,dutyC,newClC,noteC,blockedC,covSC,scoreC,newFieldC,makeGC,idC,newGaC,offerC,readyC,indsC]:List Ctr),c.ok Tryz.prog) (h:∀ ρ:Env,ρ.good→(known7C).pre ρ→o_known7.den ⟨Tryz.prog,known7C,[rankingC,dutyC,newClC,noteC,blockedC,covSC,scoreC,newFieldC,makeGC,idC,newGaC,offerC,readyC,indsC],[known7J]⟩ ρ):(known7C).ok Tryz.prog :=
 ok_of_tree Tryz.func31 (fun a w=>Tryz.call31 a w) hd 100000 (fun ρ hg hp=>by rw [o_known7_eq]; exact h ρ hg hp)
end Go.Proofs

set_option linter.unusedSimpArgs false
set_option linter.unusedVariables false
namespace Go.Proofs
open Go Go.Eng
def d1:List Int:=1 :: List.replicate 31 0
theorem d1_bet01:betF d1 0 1 = true:=by decide +kernel
theorem d1_bet02:betF d1 0 2 = true:=by decide +kernel
theorem d1_bet12:betF d1 1 2 = true:=by decide +kernel
theorem d1_score:¬ scoreF d1 0 = scoreF d1 1:=by decide +kernel
theorem d1_sort:sortF d1 [0,1,2] = [0,1,2]:=by
 symm
 refine sortF_uniq ⟨List.Perm.refl _,?_⟩ (by decide)
 simp [d1_bet01,d1_bet02,d1_bet12]
theorem peers012:peersL [0,1,2] = [0,1,2]:=by decide
theorem d1_rank:rankingF d1 3 = [0,1,2]:=by
 have h:upTo 3 = [0,1,2]:=by decide
 rw [rankingF,h,chosenF,peers012,d1_sort]; rfl
theorem d1_chosen:chosenF d1 [0,1,2] 3 = [0,1,2]:=by
 rw [chosenF,peers012,d1_sort]; rfl
theorem d1_duty1:dutyF d1 1 [0,1,2] 3 false false = 1:=by simp [dutyF,d1_chosen]
theorem d1_duty2:dutyF d1 3 [0,1,2] 3 true false = 2:=by simp [dutyF,d1_chosen]
theorem d1_cov:covF d1 2 2 [0,1] = true:=by
 have h:peersL [0,1] = [0,1]:=by decide
 rw [covF,h]; simp [d1_bet02,d1_bet12]
def cl1:Cl:=noteF (fun _ _=>none) d1 0 5
theorem d1_block16:blockedF cl1 d1 1 16 [0,1,2] [] = true:=by
 rw [blockedF,List.any_eq_true]
 refine ⟨0,by simp,?_⟩
 have h:cl1 d1 ((0:Nat):Int) = some 5:=by simp [cl1,noteF]
 rw [h]
 simp [d1_bet01,curF]
theorem d1_block17:blockedF cl1 d1 1 17 [0,1,2] [] = false:=by
 rw [blockedF,List.any_eq_false]
 intro i _
 by_cases hi:i = 0
 ·subst hi
  have h:cl1 d1 ((0:Nat):Int) = some 5:=by simp [cl1,noteF]
  rw [h]; simp [curF]
 ·have h:cl1 d1 ((i:Nat):Int) = none:=by simp [cl1,noteF,hi]
  rw [h]; simp
end Go.Proofs
