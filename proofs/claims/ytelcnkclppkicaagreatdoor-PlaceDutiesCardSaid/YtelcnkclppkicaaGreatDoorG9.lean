/- Texts PV, PY, PZ, QM, QI, QN, QR, PA, PB, PC, PD, PE, P0, P1, PX, PW, QB, QC, QE, QD, QG, QH, QJ, QK, QL, QO, QP. -/
import Derived.Test.YtelcnkclppkicaaGreatDoorG8
import Derived.Test.YtelcnkclppkicaaGreatDoorProg
import Derived.Test.YtelcnkclppkicaaGreatDoorG7
import Derived.Test.YtelcnkclppkicaaGreatDoorG4
import Derived.Shelf.SlSortCmp.NoneTotal
import Derived.Deep.QuietTactic
import Derived.BigQuiet
import Derived.Ground.SlsfProg
import Derived.Test.YtelcnkclppkicaaGreatDoorG3
import Derived.Test.YtelcnkclppkicaaGreatDoorG5
set_option linter.unusedSimpArgs false
set_option linter.unusedVariables false
namespace Go.Proofs
open Go Go.Eng
set_option maxRecDepth 20000
theorem q0j {l:List Bool} {i:Nat}:qbb [l.map Value.bool] i = l.getD i false:=by
 unfold qbb
 rw [List.headD_cons,List.getElem?_map,List.getD_eq_getElem?_getD]
 cases l[i]? <;> rfl
theorem qcJ {l:List Bool} {L:List Int} {n:Nat} (h:qeO l L) (hn:L.length <= n):qcP [l.map Value.bool] L n:=by
 refine ⟨⟨_,rfl,by rw [List.length_map]; exact h.1⟩,fun x x0 x1=>?_⟩
 rw [q0j,List.take_of_length_le hn]
 have:=h.2 x.toNat (by omega)
 rwa [Int.toNat_of_nonneg x0] at this
theorem qb2 {D:qe}:(qh D).length <= D.length:=by simp [qh]
theorem qdt {d:qe} {L:List Int} {n:Nat} {x:Int} (h:qcP d L n) (hn:L.length <= n) (x0:0 <= x) (x1:x < 16):qbb d x.toNat = true↔x ∈ L:=by
 have:=h.2 x x0 x1
 rwa [List.take_of_length_le hn] at this
theorem qnI {d:qe} {L:List Int} {n:Nat} (h:qcP d L n):0 < d.length:=by obtain ⟨⟨row,e,_⟩,_⟩:=h; rw [e]; exact Nat.one_pos
theorem qrZ {s:Int} {H L:List Int} {n:Nat}:qdm s H L (n + 1) = qdm s H L n ++ (if (n:Int) ∈ H/\(n:Int) ∈ L/\(n:Int) ≠ s then [(n:Int)] else []):=by
 unfold qdm
 rw [List.range_succ,List.map_append,List.filter_append]
 congr 1
 simp only [List.map_cons,List.map_nil,List.filter_cons,List.filter_nil,decide_eq_true_eq]
theorem qbo {i:Int} (h0:0 <= i) (h1:i < 1000000000000):qc .add .i64 i 1 = i + 1:=add64 (by omega) (by omega)
theorem qxZ {s:Int} {H L:List Int} {D:qe} {i:Int} (hD:qh D = qdm s H L i.toNat) (h0:0 <= i) (h1:i < 16) (hH:i ∈ H) (hL:i ∈ L) (hne:¬ i = s):qh (D ++ [[.int .i64 i]]) = qdm s H L (qc .add .i64 i 1).toNat:=by
 rw [qbo h0 (by omega),qfA,hD,show (i + 1).toNat = i.toNat + 1 by omega,qrZ,Int.toNat_of_nonneg h0,if_pos ⟨hH,hL,hne⟩]
theorem qg1 {s:Int} {H L:List Int} {D:qe} {i:Int} (hD:qh D = qdm s H L i.toNat) (h0:0 <= i) (h1:i < 16) (h:¬ (i ∈ H/\i ∈ L/\i ≠ s)):qh D = qdm s H L (qc .add .i64 i 1).toNat:=by
 rw [qbo h0 (by omega),hD,show (i + 1).toNat = i.toNat + 1 by omega,qrZ,Int.toNat_of_nonneg h0,if_neg h,List.append_nil]
theorem qgs {d:qe} {L:List Int} {n:Nat} {x:Int} (h:qcP d L n) (hn:L.length <= n) (x0:0 <= x) (x1:x < 16) (hf:qbb d x.toNat = false):x ∉ L:=fun hx=>by
 rw [(qdt h hn x0 x1).2 hx] at hf; cases hf
theorem qj8 {D:qe} {row:List Value} {v:Value} (hr:row ∈ D∨row = [v]) (h:∀ row,row ∈ D->row.length = 1):row.length = 1:=hr.elim (h row) fun h=>by rw [h]; rfl
theorem qdn {D:qe} {row:List Value} (hr:row ∈ D) (h:∀ row,row ∈ D->row.length = 1):row.length = 1:=h row hr
theorem qzL {b:Bool} {p:Prop} [Decidable p] (h:b = decide p) (hb:b = true):p:=of_decide_eq_true (h ▸ hb)
theorem qkS {b:Bool} {p:Prop} [Decidable p] (h:b = decide p) (hb:b = false):¬ p:=of_decide_eq_false (h ▸ hb)
theorem qyd {s:Int} {H L:List Int} {D:qe} {n:Nat} (h:qh D = qdm s H L n):D.length <= n:=by
 have h1:=congrArg List.length h
 rw [qB] at h1
 have h2:(qdm s H L n).length <= n:=by
  unfold qdm
  exact Nat.le_trans (List.length_filter_le ..) (by simp)
 omega
theorem qxV {s:Int} {H L:List Int} {D:qe} {i:Int} (hD:qh D = qdm s H L i.toNat) (h1:i <= 16) (h2:16 <= i):qh D = qdm s H L 16:=by rw [hD,show i.toNat = 16 by omega]
theorem qkw {L:List Int}:(qbc L).length <= 16:=by
 rw [qs2]; unfold qH
 exact Nat.le_trans (List.length_filter_le ..) (by simp)
theorem qxH {o L:List Int} {n:Int}:(qaq o L n).length <= 16:=by
 unfold qaq
 rw [List.length_take,qfB]
 have:=qkw (L:=L)
 omega
theorem qiY {o L:List Int} {n:Int} {D:qe} (h:qh D = qaq o L n):D.length <= 16:=by
 have h1:=congrArg List.length h
 rw [qB] at h1
 have:=qxH (o:=o) (L:=L) (n:=n)
 omega
theorem q85:qhu.ok Tryz.prog:=q8Y (by simp [qpP]) fun ρ hg hp=>by
 obtain ⟨⟨hl,h1,hr⟩,⟨hl2,h12,hr2⟩⟩:=hp
 simp only [Nat.reduceAdd] at hl h1 hr hl2 h12 hr2
 simp (config:={ maxSteps:=4000000 }) [qz2,qhu,q42,qcb,qaK,qal,qa4,hl,hl2]
 repeat' (first | with_reducible apply And.intro | with_reducible intro _)
 all_goals first
  | assumption
  | omega
  | exact qcJ (l:=[_,_,_,_,_,_,_,_,_,_,_,_,_,_,_,_]) (by assumption) qb2
  | exact qnI (by assumption)
  | (rw [qbo (by assumption) (by omega)]; omega)
  | rfl
  | exact qdn (by assumption) (by assumption)
  | exact qj8 (by assumption) (by assumption)
  | exact (by have:=qyd (by assumption); omega)
  | exact qxZ (by assumption) (by assumption) (by assumption) ((qdt (by assumption) qb2 (by assumption) (by assumption)).1 (by assumption)) ((qdt (by assumption) qb2 (by assumption) (by assumption)).1 (by assumption)) (by assumption)
  | exact qg1 (by assumption) (by assumption) (by assumption) (fun h=>h.2.2 (by assumption))
  | exact qg1 (by assumption) (by assumption) (by assumption) (fun h=>qgs (by assumption) qb2 (by assumption) (by assumption) (by assumption) h.1)
  | exact qg1 (by assumption) (by assumption) (by assumption) (fun h=>qgs (by assumption) qb2 (by assumption) (by assumption) (by assumption) h.2.1)
  | exact qxV (by assumption) (by assumption) (by assumption)
theorem q7h:qgP.ok Tryz.prog:=q7G (by simp [qvw]) fun ρ hg hp=>by
 obtain ⟨⟨hl,h1,hr⟩,⟨hl2,h12,hr2⟩⟩:=hp
 simp only [Nat.reduceAdd] at hl h1 hr hl2 h12 hr2
 simp (config:={ maxSteps:=4000000 }) [qwy,qgP,qhu,q0U,qdQ,qaK,qal,qa4,hl,hl2]
 repeat' (first | with_reducible apply And.intro | with_reducible intro _)
 all_goals first
  | assumption
  | omega
  | (rw [qbo (by assumption) (by omega)]; omega)
  | rfl
  | exact qdn (by assumption) (by assumption)
  | exact qj8 (by assumption) (by assumption)
  | exact (by have:=qyd (by assumption); omega)
  | exact qxV (by assumption) (by assumption) (by assumption)
  | exact qg1 (by assumption) (by assumption) (by assumption) (fun h=>h.2.2 (by assumption))
  | exact qxZ (by assumption) (by assumption) (by assumption) (qzL (by assumption) (by assumption)) (qzL (by assumption) (by assumption)) (by assumption)
  | exact qg1 (by assumption) (by assumption) (by assumption) (fun h=>qkS (by assumption) (by assumption) h.1)
  | exact qg1 (by assumption) (by assumption) (by assumption) (fun h=>qkS (by assumption) (by assumption) h.2.1)
theorem q3d {o L:List Int} {self n x:Int} {D:qe} {held buried:Bool} (hD:qh D = qaq o L n) (hx:x = (D.length:Int)) (hn:1 <= n) (hm:¬ self ∈ qh D) (hh:held = true) (hb:buried = false) (he:x = n):2 = qeA o self L n held buried:=by
 have h1:((qaq o L n).length:Int) = n:=by rw [<- hD,qB]; omega
 rw [hD] at hm
 unfold qeA
 rw [hh,hb,if_neg (by simp),if_neg (by omega),if_neg hm,if_pos ⟨rfl,h1⟩]
theorem q39 {o L:List Int} {self n x:Int} {D:qe} {held buried:Bool} (hD:qh D = qaq o L n) (hx:x = (D.length:Int)) (hn:1 <= n) (hm:¬ self ∈ qh D) (hh:held = true) (hb:buried = false) (he:¬ x = n):0 = qeA o self L n held buried:=by
 have h1:¬ ((qaq o L n).length:Int) = n:=by rw [<- hD,qB]; omega
 rw [hD] at hm
 unfold qeA
 rw [hh,hb,if_neg (by simp),if_neg (by omega),if_neg hm,if_neg (fun h=>h1 h.2)]
theorem qxP (hch:qat.ok Tryz.prog):qcI.ok Tryz.prog:=q7u (by simp [qnz,hch]) fun ρ hg hp=>by
 obtain ⟨hO,⟨hl,h1,hr⟩,hGr,hGd⟩:=hp
 simp only [Nat.reduceAdd] at hl h1 hr
 simp (config:={ maxSteps:=4000000 }) [qu3,qcI,qat,qaR,qi4,qaK,qal,qa4,gOk,hl,hO,hGr,hGd]
 repeat' (first | with_reducible apply And.intro | with_reducible intro _)
 all_goals first
  | assumption
  | omega
  | exact qdn (by assumption) (by assumption)
  | exact (by have:=qiY (by assumption); omega)
  | (unfold qeA; simp_all [qB]; done)
  | exact q3d (by assumption) (by assumption) (by assumption) (qkS (by assumption) (by assumption)) (by assumption) (by assumption) (by assumption)
  | exact q39 (by assumption) (by assumption) (by assumption) (qkS (by assumption) (by assumption)) (by assumption) (by assumption) (by assumption)
theorem q4Q (hch:qaQ.ok Tryz.prog):qeW.ok Tryz.prog:=q5I (by simp [qvw,hch]) fun ρ hg hp=>by
 obtain ⟨hO,⟨hl,h1,hr⟩,hGr,hGd⟩:=hp
 simp only [Nat.reduceAdd] at hl h1 hr
 simp (config:={ maxSteps:=4000000 }) [qrf,qeW,qcI,qaQ,qat,qdQ,qi4,qaK,qal,qa4,gOk,hl,hO,hGr,hGd]
 repeat' (first | with_reducible apply And.intro | with_reducible intro _)
 all_goals first
  | assumption
  | omega
  | exact qdn (by assumption) (by assumption)
  | exact (by have:=qiY (by assumption); omega)
  | (unfold qeA; simp_all [qB]; done)
  | exact q3d (by assumption) (by assumption) (by assumption) (qkS (by assumption) (by assumption)) (by assumption) (by assumption) (by assumption)
  | exact q39 (by assumption) (by assumption) (by assumption) (qkS (by assumption) (by assumption)) (by assumption) (by assumption) (by assumption)
theorem q4u {n:Int}:(qgo n).length = (min (max n 0) 16).toNat:=by simp [qgo]
theorem q1i {i n:Int} (h:min (max i 0) 16 = min (max n 0) 16):qgo i = qgo n:=by unfold qgo; rw [h]
theorem q3D {i:Int} {D:qe} (hD:qh D = qgo i) (h0:0 <= i) (h1:i < 16):qh (D ++ [[.int .i64 i]]) = qgo (qc .add .i64 i 1):=by
 rw [qbo h0 (by omega),qfA,hD]
 unfold qgo
 rw [show (min (max (i + 1) 0) 16).toNat = (min (max i 0) 16).toNat + 1 by omega,List.range_succ,List.map_append]
 congr 1
 show [i] = [(((min (max i 0) 16).toNat:Nat):Int)]
 congr 1; omega
theorem q35 {i:Int} {D:qe} (hD:qh D = qgo i):D.length <= 16:=by
 have h1:=congrArg List.length hD
 rw [qB,q4u] at h1
 omega
theorem q5n {o:List Int} {i n:Int} {D E:qe} (hE:qh E = qaq o (qh D) 16) (hD:qh D = qgo i) (h:min (max i 0) 16 = min (max n 0) 16):qh E = qkn o n:=by
 rw [hE,hD,q1i h]; rfl
theorem qyI (hch:qat.ok Tryz.prog):qc0.ok Tryz.prog:=qzZ (by simp [hch]) fun ρ hg hp=>by
 obtain ⟨hO,hGr,hGd⟩:=hp
 simp (config:={ maxSteps:=4000000 }) [qlz,qc0,qnJ,qat,qi4,qaK,qal,qa4,gOk,hO,hGr,hGd]
 repeat' (first | with_reducible apply And.intro | with_reducible intro _)
 all_goals first
  | assumption
  | omega
  | exact qdn (by assumption) (by assumption)
  | exact qj8 (by assumption) (by assumption)
  | (rw [qbo (by assumption) (by omega)]; omega)
  | rfl
  | exact (by have:=q35 (by assumption); omega)
  | exact q3D (by assumption) (by assumption) (by omega)
  | exact q5n (by assumption) (by assumption) (by omega)
section
variable {o L:List Int}
theorem qnA {L:List Int} {n:Nat}:(qH L n).length <= n:=by
 unfold qH
 exact Nat.le_trans (List.length_filter_le ..) (by simp)
theorem q8P {D:qe} {i:Int} (h:D = (qH L i.toNat).map (qE o)) (h1:i <= 16):D.length <= 16:=by
 rw [h,List.length_map]
 have:=qnA (L:=L) (n:=i.toNat)
 omega
theorem q8M {D v:qe} {i:Int} {l:List Bool} (hD:D = (qH L i.toNat).map (qE o)) (h0:0 <= i) (h1:i < 16) (hb:qeO l L) (hc:qbb [l.map Value.bool] i.toNat = true) (hv:qd v 32 = qN o i) :
  D ++ [Value.int .i64 i :: (qd v 32).map (Value.int .u8)] = (qH L (qc .add .i64 i 1).toNat).map (qE o):=by
 have hm:i ∈ L:=(qdt (qcJ hb (Nat.le_refl _)) (Nat.le_refl _) h0 h1).1 hc
 rw [qbo h0 (by omega),show (i + 1).toNat = i.toNat + 1 by omega,qcv,Int.toNat_of_nonneg h0,if_pos hm,List.map_append,hD,hv]; rfl
theorem q6M {D:qe} {i:Int} {l:List Bool} (hD:D = (qH L i.toNat).map (qE o)) (h0:0 <= i) (h1:i < 16) (hb:qeO l L) (hc:qbb [l.map Value.bool] i.toNat = false) :
  D = (qH L (qc .add .i64 i 1).toNat).map (qE o):=by
 have hm:¬ i ∈ L:=qgs (qcJ hb (Nat.le_refl _)) (Nat.le_refl _) h0 h1 hc
 rw [qbo h0 (by omega),show (i + 1).toNat = i.toNat + 1 by omega,qcv,Int.toNat_of_nonneg h0,if_neg hm,List.append_nil,hD]
theorem qlE {D E:qe} {i:Int} (hO:qM o) (hD:D = (qH L i.toNat).map (qE o)) (h1:i <= 16) (h2:16 <= i) (h:∀ o L:List Int,qM o->D = L.map (qE o)->(∀ x,x ∈ L->0 <= x/\x < 16)->E = (qaj o L).map (qE o)):E = (qaj o (qbc L)).map (qE o)/\E.length = D.length:=by
 have hi:i.toNat = 16:=by omega
 rw [hi] at hD
 have hE:=h o (qH L 16) hO hD (fun x hx=>by have:=qjc.1 hx; omega)
 exact ⟨hE,by rw [hE,hD,List.length_map,List.length_map,qfB]⟩
theorem q3P {D:qe} {n:Nat} (hO:qM o) (hD:D = (qH L n).map (qE o)) (hn:n <= 16):∃ o:List Int,qM o/\∃ x:List Int,D = x.map (qE o)/\∀ y:Int,y ∈ x->0 <= y/\y < 16 :=
 ⟨o,hO,_,hD,fun x hx=>by have:=qjc.1 hx; omega⟩
theorem q98 {M:List Int} {D:qe} {i:Int} (hD:D = M.map (qE o)) (h0:0 <= i) (h1:i < M.length):qg D i 0 = M.getD i.toNat 0:=by
 have hl:i.toNat < M.length:=by omega
 subst hD
 rw [List.getD_eq_getElem?_getD,List.getElem?_eq_getElem hl]
 simp [qg,qar,List.getElem?_eq_getElem hl,qE,qV]
theorem take_add {M:List Int} {D E:qe} {i:Int} (hE:E = M.map (qE o)) (hD:qh D = M.take i.toNat) (h0:0 <= i) (h1:i < M.length) (hb:i < 1000000):qh (D ++ [[.int .i64 (qg E i 0)]]) = M.take (qc .add .i64 i 1).toNat:=by
 rw [qbo h0 (by omega),show (i + 1).toNat = i.toNat + 1 by omega,qcC (by omega),qfA,hD,q98 hE h0 h1]
theorem q7y {M:List Int} {D:qe} {i:Nat} (hD:qh D = M.take i):D.length <= i/\D.length <= M.length:=by
 have h1:=congrArg List.length hD
 rw [qB,List.length_take] at h1
 omega
theorem qql {o L:List Int}:(qaj o (qbc L)).length <= 16:=by rw [qfB]; exact qkw
theorem q87 {D:qe} {i n:Int} (hD:qh D = (qaj o (qbc L)).take i.toNat) (h:i = min (max n 0) ((qaj o (qbc L)).length:Int)):qh D = qaq o L n:=by
 rw [hD]
 unfold qaq
 by_cases hn:n.toNat <= (qaj o (qbc L)).length
 ·rw [show i.toNat = n.toNat by omega]
 ·rw [List.take_of_length_le (by omega),List.take_of_length_le (by omega)]
end
theorem q3m (hs:qeC.ok Tryz.prog):qat.ok Tryz.prog:=q1t (by simp [hs,qpP,qy9]) fun ρ hg hp=>by
 obtain ⟨hO,⟨hl,h1,hr⟩,hGr,hGd⟩:=hp
 simp only [Nat.reduceAdd] at hl h1 hr
 simp (config:={ maxSteps:=4000000 }) [qoq,qat,qqD,qrD,qcb,qdZ,qeC,qi4,qaK,qal,qa4,gOk,hl,hO,hGr,hGd]
 have hsl:=qql (o:=qd (ρ 0).d 32) (L:=qh (ρ 4).d)
 repeat' (first | with_reducible apply And.intro | with_reducible intro _)
 all_goals first
  | assumption
  | omega
  | exact qdn (by assumption) (by assumption)
  | exact qj8 (by assumption) (by assumption)
  | (rw [qbo (by assumption) (by omega)]; omega)
  | rfl
  | exact (by have:=q8P (by assumption) (by omega); omega)
  | exact q8M (l:=[_,_,_,_,_,_,_,_,_,_,_,_,_,_,_,_]) (by assumption) (by assumption) (by assumption) (by assumption) (by assumption) (by assumption)
  | exact q6M (l:=[_,_,_,_,_,_,_,_,_,_,_,_,_,_,_,_]) (by assumption) (by assumption) (by assumption) (by assumption) (by assumption)
  | exact q3P hO (by assumption) (by omega)
  | exact (qlE hO (by assumption) (by assumption) (by assumption) (by assumption)).1
  | (have h:=qlE hO (by assumption) (by assumption) (by assumption) (by assumption); have h2:=congrArg List.length h.1; rw [List.length_map] at h2; have h3:=h.2; split <;> split <;> omega)
  | (have h:=qlE hO (by assumption) (by assumption) (by assumption) (by assumption); have h2:=congrArg List.length h.1; rw [List.length_map] at h2; have h3:=h.2; split <;> omega)
  | exact take_add (by assumption) (by assumption) (by assumption) (by omega) (by omega)
  | exact q87 (by assumption) (by omega)
  | (have h2:=q7y (by assumption); omega)
section
variable {o L:List Int} {D E:qe} {n m k b i:Int}
theorem qbO (h:chR o L D E n m k):n = (D.length:Int)/\m = (E.length:Int)/\D.length + E.length <= 16/\m <= max k 0:=by
 obtain ⟨⟨h1,_⟩,⟨h2,_⟩,_,_,h5,h6⟩:=h
 have h7:=congrArg List.length h6
 have h8:=qql (o:=o) (L:=L)
 rw [List.length_append,qfB,qB,qB] at h7
 exact ⟨h1,h2,by omega,h5⟩
theorem q53 {l:List Int} (h:l.Nodup) {i j:Nat} (hi:i < l.length) (hj:j < l.length) (hne:i ≠ j):l[i] ≠ l[j]:=by
 have hp:=List.pairwise_iff_getElem.1 h
 rcases Nat.lt_or_gt_of_ne hne with h1 | h1
 ·exact hp i j hi hj h1
 ·exact (hp j i hj hi h1).symm
theorem q1g {l:List Int} {b n:Nat} (h:qfL o l b n):b < n/\n <= l.length:=⟨h.1,h.2.1⟩
theorem qfr {b n:Nat} (h:qfL o (qh D) b n):b < n/\n <= D.length:=by have:=q1g h; rwa [qB] at this
theorem q2m (hn:n = (D.length:Int)) (hD:qh D = qbc L) (hr:∀ row ∈ D,row.length = 1):chR o L D [] n 0 k:=by
 refine ⟨⟨hn,hr⟩,⟨rfl,fun r h=>by cases h⟩,?_,?_,by omega,?_⟩
 ·rw [hD]; exact qtc
 ·rw [hD]; exact fun x hx=>⟨(qpq.1 hx).1,(qpq.1 hx).2.1⟩
 ·rw [hD]; rfl
theorem q5m {row:List Value} (hr:row ∈ E) (h:chR o L D E n m k):row.length = 1:=h.2.1.2 row hr
theorem q0z (h:chR o L D E n m k) (hn:0 < n):qfL o (qh D) 0 1:=by
 have hc:=qbO h
 refine ⟨by omega,by rw [qB]; omega,fun j hj hne=>by omega⟩
theorem q8X {x:Bool} (hb:qfL o (qh D) b.toNat i.toNat) (b0:0 <= b) (i1:1 <= i) (hi:i < D.length) (hu:x = qA o (qg D i 0) (qg D b 0)) (hx:x = true) (hs:i < 1000000):qfL o (qh D) i.toNat (qc .add .i64 i 1).toNat:=by
 have hf:=qfr hb
 rw [hx,qa0 (by omega) hi,qa0 b0 (by omega)] at hu
 rw [qbo (by omega) (by omega),show (i + 1).toNat = i.toNat + 1 by omega]
 refine ⟨by omega,by rw [qB]; omega,fun j hj hne=>?_⟩
 by_cases hjb:j = b.toNat
 ·rw [hjb]; exact hu.symm
 ·exact qsE hu.symm (hb.2.2 j (by omega) hjb)
theorem q84 {x:Bool} (h:chR o L D E n m k) (hb:qfL o (qh D) b.toNat i.toNat) (b0:0 <= b) (i1:1 <= i) (hi:i < D.length) (hu:x = qA o (qg D i 0) (qg D b 0)) (hx:x = false) (hs:i < 1000000):qfL o (qh D) b.toNat (qc .add .i64 i 1).toNat:=by
 have hf:=qfr hb
 rw [hx,qa0 (by omega) hi,qa0 b0 (by omega)] at hu
 rw [qbo (by omega) (by omega),show (i + 1).toNat = i.toNat + 1 by omega]
 refine ⟨by omega,by rw [qB]; omega,fun j hj hne=>?_⟩
 by_cases hji:j = i.toNat
 ·subst hji
  have hne2:(qh D).getD b.toNat 0 ≠ (qh D).getD i.toNat 0:=by
   have hl:=qB (d:=D)
   rw [List.getD_eq_getElem?_getD,List.getD_eq_getElem?_getD,List.getElem?_eq_getElem (by omega),List.getElem?_eq_getElem (by omega),Option.getD_some,Option.getD_some]
   exact fun he=>q53 h.2.2.1 (by omega) (by omega) (fun h'=>hne h'.symm) he
  rcases qlg (o:=o) hne2 with h' | h'
  ·exact h'
  ·rw [h'] at hu; cases hu
 ·exact hb.2.2 j (by omega) hne
theorem q5L {cap:Int} (h:chR o L D E n m k) (hmk:m < k) (b0:0 <= b) (hb:qfL o (qh D) b.toNat i.toNat) (hi:n <= i) (hc:(D.length:Int) <= cap) (hs:b < 1000000) :
  chR o L (D.take b.toNat ++ (D.drop (if cap = qc .add .i64 b 1 then 0 else qc .add .i64 b 1).toNat).take (n - qc .add .i64 b 1).toNat) (E ++ [[.int .i64 (qg D b 0)]]) (b + (n - qc .add .i64 b 1)) (m + 1) k:=by
 have hf:=qfr hb
 have hF:=qbO h
 obtain ⟨⟨h1,r1⟩,⟨h2,r2⟩,h3,h4,h5,h6⟩:=h
 rw [qbo b0 (by omega)]
 have hlist:D.take b.toNat ++ (D.drop (if cap = b + 1 then 0 else b + 1).toNat).take (n - (b + 1)).toNat = D.take b.toNat ++ D.drop (b.toNat + 1):=by
  congr 1
  split
  ·rw [show (n - (b + 1)).toNat = 0 by omega,List.take_zero,List.drop_eq_nil_of_le (by omega)]
  ·rw [show (b + 1).toNat = b.toNat + 1 by omega,List.take_of_length_le (by rw [List.length_drop]; omega)]
 rw [hlist]
 have hin:qh (D.take b.toNat ++ D.drop (b.toNat + 1)) = (qh D).take b.toNat ++ (qh D).drop (b.toNat + 1):=by simp [qh,List.map_take,List.map_drop]
 have hb':qfL o (qh D) b.toNat (qh D).length:=by rw [qB,show D.length = i.toNat by omega]; exact hb
 have hsub:((qh D).take b.toNat ++ (qh D).drop (b.toNat + 1)).Sublist (qh D):=by
  conv=>rhs; rw [<- List.take_append_drop b.toNat (qh D)]
  refine List.Sublist.append (List.Sublist.refl _) ?_
  rw [<- List.drop_drop]
  exact List.drop_sublist 1 _
 refine ⟨⟨?_,?_⟩,⟨?_,?_⟩,?_,?_,by omega,?_⟩
 ·rw [List.length_append,List.length_take,List.length_drop]; omega
 ·intro row hr
  rcases List.mem_append.1 hr with hr | hr
  ·exact r1 row (List.mem_of_mem_take hr)
  ·exact r1 row (List.mem_of_mem_drop hr)
 ·rw [List.length_append]; simp; omega
 ·intro row hr
  rcases List.mem_append.1 hr with hr | hr
  ·exact r2 row hr
  ·rw [List.mem_singleton.1 hr]; rfl
 ·rw [hin]; exact h3.sublist hsub
 ·rw [hin]; exact fun x hx=>h4 x (hsub.subset hx)
 ·rw [hin,qfA,List.append_assoc,qa0 b0 (by omega),<- h6,qz7 h3 hb']; rfl
theorem q3L (h:chR o L D E n m k) (hk:k <= m):qh E = qaq o L k:=by
 have hF:=qbO h
 obtain ⟨⟨h1,r1⟩,⟨h2,r2⟩,h3,h4,h5,h6⟩:=h
 unfold qaq
 rw [<- h6,List.take_append_of_le_length (by rw [qB]; omega),List.take_of_length_le (by rw [qB]; omega)]
theorem q5v (h:chR o L D E n m k) (hn:n <= 0):qh E = qaq o L k:=by
 have hF:=qbO h
 obtain ⟨⟨h1,r1⟩,⟨h2,r2⟩,h3,h4,h5,h6⟩:=h
 have hD:D = []:=List.length_eq_zero_iff.1 (by omega)
 subst hD
 unfold qaq
 rw [<- h6,List.take_of_length_le (by rw [List.length_append,qfB,qB,qB]; simp; omega)]
 simp [qh,qaj]
end
theorem q0G:qaQ.ok Tryz.prog:=q08 (by simp [qvv,qoB]) fun ρ hg hp=>by
 obtain ⟨hO,⟨hl,h1,hr⟩,hGr,hGd⟩:=hp
 simp only [Nat.reduceAdd] at hl h1 hr
 simp (config:={ maxSteps:=4000000 }) [qmh,qaQ,qat,qo2,qo4,qcG,qbs,qi4,qaK,qal,qa4,gOk,hl,hO,hGr,hGd]
 repeat' (first | with_reducible apply And.intro | with_reducible intro _)
 all_goals first
  | assumption
  | omega
  | exact qdn (by assumption) (by assumption)
  | exact q5m (by assumption) (by assumption)
  | exact q2m (by assumption) (by assumption) (by assumption)
  | (have hc:=qbO (by assumption); omega)
  | (have hc:=qbO (by assumption); have hb:=qfr (by assumption); omega)
  | (have hc:=qbO (by assumption); have hb:=qfr (by assumption); rw [qbo (by omega) (by omega)]; omega)
  | (have hc:=qbO (by assumption); have hb:=qfr (by assumption); rw [qbo (by omega) (by omega)]; split <;> omega)
  | exact q0z (by assumption) (by assumption)
  | (have hc:=qbO (by assumption); exact q8X (by assumption) (by assumption) (by assumption) (by omega) (by assumption) (by assumption) (by omega))
  | (have hc:=qbO (by assumption); exact q84 (by assumption) (by assumption) (by assumption) (by assumption) (by omega) (by assumption) (by assumption) (by omega))
  | (have hc:=qbO (by assumption); have hb:=qfr (by assumption); exact q5L (by assumption) (by assumption) (by assumption) (by assumption) (by assumption) (by assumption) (by omega))
  | exact q3L (by assumption) (by assumption)
  | exact q5v (by assumption) (by assumption)
end Go.Proofs

set_option linter.unusedSimpArgs false
set_option linter.unusedVariables false
set_option maxRecDepth 100000
namespace Go.Proofs
open Go Go.Eng

def qmO:Out:=(.fresh 10 (.pre 0 (sg 0 [bv 4 7,bv 3 6,bv 2 5,bv 1 4,bg 0 3]) (.both (.fresh 11 (.fresh 12 (.fresh 13 (.fresh 14 (.fresh 15 (.fresh 16 (.fresh 17 (.fresh 18 (.fresh 19 (.fresh 20 (.fresh 21 (.fresh 22 (.fresh 23 (.fresh 24 (.fresh 25 (.fresh 26 (.post 0 0 (sg 0 [bv 4 7,bv 3 6,bv 2 5,bv 1 4,bg 0 3]) 11 (.inv 0 27 (sg 1000 [bt 1001 (.lit 0),bt 1002 (.lit 0),bg 1000 10]) (.fresh 27 (.fresh 28 (.fresh 29 (.hyp 0 27 (.br (.cmp .lss (.var 28) (.lit 16))
 (.need (.cmp .leq (.lit 0) (.var 28)) (.br (.c2 (.xbool 0) (.rcons (.vbool (.var 11)) (.rcons (.vbool (.var 12)) (.rcons (.vbool (.var 13)) (.rcons (.vbool (.var 14)) (.rcons (.vbool (.var 15)) (.rcons (.vbool (.var 16)) (.rcons (.vbool (.var 17)) (.rcons (.vbool (.var 18)) (.rcons (.vbool (.var 19)) (.rcons (.vbool (.var 20)) (.rcons (.vbool (.var 21)) (.rcons (.vbool (.var 22)) (.rcons (.vbool (.var 23)) (.rcons (.vbool (.var 24)) (.rcons (.vbool (.var 25)) (.rcons (.vbool (.var 26)) .rnil)))))))))))))))) (.var 28))
 (.pre 1 (sg 0 [bv 4 9,bv 2 1,bv 1 28,bt 0 (r8 0),bg 3 8]) (.both (.fresh 30 (.post 1 0 (sg 0 [bv 4 9,bv 2 1,bv 1 28,bt 0 (r8 0),bg 3 8]) 30 (.br (.var 30)
 (.back 0 27 (sg 1000 [bt 1001 (.arith .add .i64 (.var 28) (.lit 1)),bt 1002 (.arith .add .i64 (.var 29) (.lit 1)),bg 1000 27]))
 (.back 0 27 (sg 1000 [bt 1001 (.arith .add .i64 (.var 28) (.lit 1)),bv 1002 29,bg 1000 27]))))) .top))
 (.back 0 27 (sg 1000 [bt 1001 (.arith .add .i64 (.var 28) (.lit 1)),bv 1002 29,bg 1000 27]))))
 (.br (.cmp .geq (.var 2) (.lit 1))
 (.ret 0 (sg 10 [bt 10 (.cmp .geq (.var 29) (.var 2))]))
 (.ret 0 (sg 10 [bt 10 (.bl false)])))))))))))))))))))))))))) .top)))
theorem q59:qk ⟨Tryz.prog,qft,[qcb,qaS],[qu0]⟩ 100000 Tryz.f37 = qmO:=by kernel_rfl
theorem q8I (hd:∀ c ∈ ([qcb,qaS]:List Ctr),c.ok Tryz.prog) (h:∀ ρ:Env,ρ.good->(qft).pre ρ->qmO.den ⟨Tryz.prog,qft,[qcb,qaS],[qu0]⟩ ρ):(qft).ok Tryz.prog :=
 qf Tryz.func37 (fun a w=>Tryz.call37 a w) hd 100000 (fun ρ hg hp=>by rw [q59]; exact h ρ hg hp)
def qu8:Out:=(.fresh 10 (.pre 0 (sg 0 [bv 4 7,bv 3 6,bv 2 5,bv 1 4,bg 0 3]) (.both (.fresh 11 (.fresh 12 (.fresh 13 (.fresh 14 (.post 0 0 (sg 0 [bv 4 7,bv 3 6,bv 2 5,bv 1 4,bg 0 3]) 11 (.inv 0 15 (sg 1000 [bv 1006 14,bt 1001 (.lit 0),bv 1005 13,bv 1004 12,bg 1003 11,bt 1002 (.lit 0),bg 1000 10]) (.fresh 15 (.fresh 16 (.fresh 17 (.fresh 18 (.fresh 19 (.fresh 20 (.fresh 21 (.hyp 0 15 (.need (.cmp .leq (.lit 0) (.var 19)) (.br (.cmp .lss (.var 16) (.var 19))
 (.need (.cmp .leq (.lit 0) (.var 16)) (.need (.cmp .lss (.var 16) (.dlen (.var 21))) (.both (.pre 1 (sg 0 [bv 4 9,bv 2 1,bt 1 (.icell (.var 21) (.var 16) 0),bt 0 (r8 0),bg 3 8]) (.both (.fresh 22 (.post 1 0 (sg 0 [bv 4 9,bv 2 1,bt 1 (.icell (.var 21) (.var 16) 0),bt 0 (r8 0),bg 3 8]) 22 (.br (.var 22)
 (.back 0 15 (sg 1000 [bv 1006 21,bt 1001 (.arith .add .i64 (.var 16) (.lit 1)),bv 1005 20,bv 1004 19,bg 1003 18,bt 1002 (.arith .add .i64 (.var 17) (.lit 1)),bg 1000 15]))
 (.back 0 15 (sg 1000 [bv 1006 21,bt 1001 (.arith .add .i64 (.var 16) (.lit 1)),bv 1005 20,bv 1004 19,bg 1003 18,bv 1002 17,bg 1000 15]))))) .top)) .top)))
 (.br (.cmp .geq (.var 2) (.lit 1))
 (.ret 0 (sg 10 [bt 10 (.cmp .geq (.var 17) (.var 2))]))
 (.ret 0 (sg 10 [bt 10 (.bl false)]))))))))))))))))))) .top)))
theorem q2W:qk ⟨Tryz.prog,qgJ,[qcG,qbs],[qyO]⟩ 100000 Tryz.f42 = qu8:=by kernel_rfl
theorem q7w (hd:∀ c ∈ ([qcG,qbs]:List Ctr),c.ok Tryz.prog) (h:∀ ρ:Env,ρ.good->(qgJ).pre ρ->qu8.den ⟨Tryz.prog,qgJ,[qcG,qbs],[qyO]⟩ ρ):(qgJ).ok Tryz.prog :=
 qf Tryz.func42 (fun a w=>Tryz.call42 a w) hd 100000 (fun ρ hg hp=>by rw [q2W]; exact h ρ hg hp)
end Go.Proofs

set_option linter.unusedSimpArgs false
set_option linter.unusedVariables false
namespace Go.Proofs
open Go Go.Eng
set_option maxRecDepth 20000
section
variable {o L:List Int} {i c s:Int} {l:List Bool}
def qeu (o:List Int) (s:Int) (l:List Int):Int:=((l.filter fun i=>qA o i s).length:Int)
theorem qtN {l:List Int}:0 <= qeu o s l/\qeu o s l <= l.length:=⟨by unfold qeu; omega,by unfold qeu; have:=List.length_filter_le (fun i=>qA o i s) l; omega⟩
theorem qi2 {l:List Int} {x:Int}:qeu o s (l ++ [x]) = qeu o s l + (if qA o x s = true then 1 else 0):=by
 unfold qeu
 rw [List.filter_append,List.length_append]
 by_cases h:qA o x s = true
 ·rw [if_pos h]; simp [h]
 ·rw [if_neg h]; simp [h]
theorem qyw {n:Nat}:0 <= qeu o s (qH L n)/\qeu o s (qH L n) <= n:=by
 have h:=qtN (o:=o) (s:=s) (l:=qH L n)
 have:=qnA (L:=L) (n:=n)
 omega
theorem q6o {x:Bool} (hc:c = ((qH L i.toNat).filter fun i=>qA o i s).length) (h0:0 <= i) (h1:i < 16) (hb:qeO l L) (hx:qbb [l.map Value.bool] i.toNat = true) (hu:x = qA o i s) (ht:x = true):qc .add .i64 c 1 = ((qH L (qc .add .i64 i 1).toNat).filter fun i=>qA o i s).length:=by
 have hm:i ∈ L:=(qdt (qcJ hb (Nat.le_refl _)) (Nat.le_refl _) h0 h1).1 hx
 have h2:=qyw (o:=o) (s:=s) (L:=L) (n:=i.toNat)
 change c = qeu o s (qH L i.toNat) at hc
 show _ = qeu o s _
 rw [qbo h0 (by omega),qbo (by omega) (by omega),show (i + 1).toNat = i.toNat + 1 by omega,qcv,Int.toNat_of_nonneg h0,if_pos hm,qi2,if_pos (hu ▸ ht),hc]
theorem q6z {x:Bool} (hc:c = ((qH L i.toNat).filter fun i=>qA o i s).length) (h0:0 <= i) (h1:i < 16) (hb:qeO l L) (hx:qbb [l.map Value.bool] i.toNat = true) (hu:x = qA o i s) (ht:x = false):c = ((qH L (qc .add .i64 i 1).toNat).filter fun i=>qA o i s).length:=by
 have hm:i ∈ L:=(qdt (qcJ hb (Nat.le_refl _)) (Nat.le_refl _) h0 h1).1 hx
 have h2:=qyw (o:=o) (s:=s) (L:=L) (n:=i.toNat)
 change c = qeu o s (qH L i.toNat) at hc
 show _ = qeu o s _
 rw [qbo h0 (by omega),show (i + 1).toNat = i.toNat + 1 by omega,qcv,Int.toNat_of_nonneg h0,if_pos hm,qi2,if_neg (by rw [<- hu,ht]; simp),hc,Int.add_zero]
theorem q6u (hc:c = ((qH L i.toNat).filter fun i=>qA o i s).length) (h0:0 <= i) (h1:i < 16) (hb:qeO l L) (hx:qbb [l.map Value.bool] i.toNat = false):c = ((qH L (qc .add .i64 i 1).toNat).filter fun i=>qA o i s).length:=by
 have hm:¬ i ∈ L:=qgs (qcJ hb (Nat.le_refl _)) (Nat.le_refl _) h0 h1 hx
 rw [qbo h0 (by omega),show (i + 1).toNat = i.toNat + 1 by omega,qcv,Int.toNat_of_nonneg h0,if_neg hm,List.append_nil,hc]
theorem qy3 {n:Int} (hc:c = ((qH L i.toNat).filter fun i=>qA o i s).length) (h0:i <= 16) (h1:16 <= i) (hn:1 <= n):decide (c ≥ n) = qhq o s n L:=by
 rw [show i.toNat = 16 by omega] at hc
 unfold qhq
 rw [decide_eq_true hn,Bool.true_and,hc]; rfl
theorem qij {n:Int} (hn:n < 1):false = qhq o s n L:=by
 unfold qhq
 rw [decide_eq_false (by omega),Bool.false_and]
theorem qkc {D:qe} (h:qh D = qbc L):D.length <= 16:=by
 have h1:=congrArg List.length h
 rw [qB] at h1
 have:=qkw (L:=L)
 omega
theorem q9b {x:Bool} {D:qe} (hc:c = (((qh D).take i.toNat).filter fun i=>qA o i s).length) (h0:0 <= i) (h1:i < D.length) (h16:D.length <= 16) (hu:x = qA o (qg D i 0) s) (ht:x = true):qc .add .i64 c 1 = (((qh D).take (qc .add .i64 i 1).toNat).filter fun i=>qA o i s).length:=by
 change c = qeu o s _ at hc
 show _ = qeu o s _
 have h2:=qtN (o:=o) (s:=s) (l:=(qh D).take i.toNat)
 have h3:=qB (d:=D)
 rw [List.length_take] at h2
 rw [qa0 h0 h1] at hu
 rw [qbo h0 (by omega),qbo (by omega) (by omega),show (i + 1).toNat = i.toNat + 1 by omega,qcC (by omega),qi2,if_pos (hu ▸ ht),hc]
theorem q8J {x:Bool} {D:qe} (hc:c = (((qh D).take i.toNat).filter fun i=>qA o i s).length) (h0:0 <= i) (h1:i < D.length) (h16:D.length <= 16) (hu:x = qA o (qg D i 0) s) (ht:x = false):c = (((qh D).take (qc .add .i64 i 1).toNat).filter fun i=>qA o i s).length:=by
 change c = qeu o s _ at hc
 show _ = qeu o s _
 have h3:=qB (d:=D)
 rw [qa0 h0 h1] at hu
 rw [qbo h0 (by omega),show (i + 1).toNat = i.toNat + 1 by omega,qcC (by omega),qi2,if_neg (by rw [<- hu,ht]; simp),hc,Int.add_zero]
theorem q4I {D:qe} {n:Int} (hc:c = (((qh D).take i.toNat).filter fun i=>qA o i s).length) (hD:qh D = qbc L) (h1:(D.length:Int) <= i) (hn:1 <= n):qK .geq c n = qhq o s n L:=by
 have h3:=qB (d:=D)
 rw [List.take_of_length_le (by omega),hD] at hc
 unfold qhq
 rw [decide_eq_true hn,Bool.true_and,hc]; rfl
end
theorem q8e:qft.ok Tryz.prog:=q8I (by simp [qpP,qlC]) fun ρ hg hp=>by
 obtain ⟨hO,⟨hl,h1,hr⟩,hGr,hGd⟩:=hp
 simp only [Nat.reduceAdd] at hl h1 hr
 simp (config:={ maxSteps:=4000000 }) [qmO,qft,qu0,qcb,qaS,qaK,qal,gOk,hl,hO,hGr,hGd]
 repeat' (first | with_reducible apply And.intro | with_reducible intro _)
 all_goals first
  | assumption
  | omega
  | rfl
  | exact qdn (by assumption) (by assumption)
  | (rw [qbo (by assumption) (by omega)]; omega)
  | exact q6o (l:=[_,_,_,_,_,_,_,_,_,_,_,_,_,_,_,_]) (by assumption) (by assumption) (by assumption) (by assumption) (by assumption) (by assumption) (by assumption)
  | exact q6z (l:=[_,_,_,_,_,_,_,_,_,_,_,_,_,_,_,_]) (by assumption) (by assumption) (by assumption) (by assumption) (by assumption) (by assumption) (by assumption)
  | exact q6u (l:=[_,_,_,_,_,_,_,_,_,_,_,_,_,_,_,_]) (by assumption) (by assumption) (by assumption) (by assumption) (by assumption)
  | exact qy3 (by assumption) (by assumption) (by assumption) (by assumption)
  | exact qij (by assumption)
  | exact (qij (by assumption)).symm
theorem q6K:qgJ.ok Tryz.prog:=q7w (by simp [qvv,qoB]) fun ρ hg hp=>by
 obtain ⟨hO,⟨hl,h1,hr⟩,hGr,hGd⟩:=hp
 simp only [Nat.reduceAdd] at hl h1 hr
 simp (config:={ maxSteps:=4000000 }) [qu8,qgJ,qft,qyO,qcG,qbs,qaK,qal,gOk,hl,hO,hGr,hGd]
 repeat' (first | with_reducible apply And.intro | with_reducible intro _)
 all_goals first
  | assumption
  | omega
  | rfl
  | exact qdn (by assumption) (by assumption)
  | (rw [qbo (by assumption) (by omega)]; omega)
  | exact (qij (by assumption)).symm
  | (have h16:=qkc (by assumption); rw [qbo (by omega) (by omega)]; omega)
  | (have h16:=qkc (by assumption); exact q9b (by assumption) (by assumption) (by omega) h16 (by assumption) (by assumption))
  | (have h16:=qkc (by assumption); exact q8J (by assumption) (by assumption) (by omega) h16 (by assumption) (by assumption))
  | exact q4I (by assumption) (by assumption) (by omega) (by assumption)
end Go.Proofs

set_option linter.unusedSimpArgs false
set_option linter.unusedVariables false
namespace Go.Eng
open Go Go.Proofs
def qmN (ρ:Env) (r:Nat):Prop:=0 <= (ρ (r + 1)).i/\(ρ (r + 1)).i <= (ρ (r + 3)).d.length/\(ρ (r + 1)).i <= 1000000000000/\∀ row ∈ (ρ (r + 3)).d,row.length = 1
def qgZ:Ctr:={ qcb with pre:=fun ρ=>qmN ρ 0,alts:=[
 { k:=16,ret:=b16 5,heap:=[],post:=fun ρ=>qeO [(ρ 5).b,(ρ 6).b,(ρ 7).b,(ρ 8).b,(ρ 9).b,(ρ 10).b,(ρ 11).b,(ρ 12).b,(ρ 13).b,(ρ 14).b,(ρ 15).b,(ρ 16).b,(ρ 17).b,(ρ 18).b,(ρ 19).b,(ρ 20).b] ((qh (ρ 3).d).take (ρ 1).i.toNat) }] }
def qfR:Ctr:={ qft with pre:=fun ρ=>qM (qd (ρ 0).d 32)/\qmN ρ 3/\gOk ρ 8 9 gR,alts:=[{ k:=1,ret:=.one (.vbool (.var 10)),heap:=[],post:=fun ρ=>(ρ 10).b = qhq (qd (ρ 0).d 32) (ρ 1).i (ρ 2).i ((qh (ρ 6).d).take (ρ 4).i.toNat) }] }
def q1e:Inv:={ qu0 with inv:=(fun ρ=>0 <= (ρ 1001).i/\(ρ 1001).i <= 16/\(ρ 1002).i = (((qH ((qh (ρ 6).d).take (ρ 4).i.toNat) (ρ 1001).i.toNat).filter fun i=>qA (qd (ρ 0).d 32) i (ρ 1).i).length:Int)) }
end Go.Eng
namespace Go.Proofs
open Go Go.Eng
set_option maxRecDepth 100000
theorem q2e:qk ⟨Tryz.prog,qgZ,[qc2],[qq3]⟩ 100000 Tryz.f82 = qmH:=by kernel_rfl
theorem q7d (hd:∀ c ∈ ([qc2]:List Ctr),c.ok Tryz.prog) (h:∀ ρ:Env,ρ.good->(qgZ).pre ρ->qmH.den ⟨Tryz.prog,qgZ,[qc2],[qq3]⟩ ρ):(qgZ).ok Tryz.prog :=
 qf Tryz.func82 (fun a w=>Tryz.call82 a w) hd 100000 (fun ρ hg hp=>by rw [q2e]; exact h ρ hg hp)
theorem q1E:qk ⟨Tryz.prog,qfR,[qgZ,qaS],[q1e]⟩ 100000 Tryz.f37 = qmO:=by kernel_rfl
theorem q78 (hd:∀ c ∈ ([qgZ,qaS]:List Ctr),c.ok Tryz.prog) (h:∀ ρ:Env,ρ.good->(qfR).pre ρ->qmO.den ⟨Tryz.prog,qfR,[qgZ,qaS],[q1e]⟩ ρ):(qfR).ok Tryz.prog :=
 qf Tryz.func37 (fun a w=>Tryz.call37 a w) hd 100000 (fun ρ hg hp=>by rw [q1E]; exact h ρ hg hp)
theorem q7P:qgZ.ok Tryz.prog:=q7d (by simp [qrk]) fun ρ hg hp=>by
 obtain ⟨h0,hl,h1,hr⟩:=hp
 simp only [Nat.reduceAdd] at h0 hl h1 hr
 simp (config:={ maxSteps:=4000000 }) [qmH,qgZ,qcb,qq3,qc2,h0]
 have hil:(qh (ρ 3).d).length = (ρ 3).d.length:=by simp [qh]
 refine ⟨qmZ,fun s _ i _ i0 i1 hs=>⟨fun hi=>⟨i0,by omega,fun u _ hu=>⟨fun ht=>?_,fun hf=>?_⟩⟩,fun hi=>?_⟩⟩
 ·have hp:0 <= qg (ρ 3).d i.i 0/\qg (ρ 3).d i.i 0 < 16:=by rw [hu] at ht; exact of_decide_eq_true ht
  have hsl:0 < s.d.length:=by obtain ⟨⟨row,e,_⟩,_⟩:=hs; rw [e]; exact Nat.one_pos
  rw [add64 (x:=i.i) (by omega) (by omega)]
  refine ⟨hp.1,hp.2,hsl,⟨by omega,by omega,?_⟩,by omega⟩
  rw [show (i.i + 1).toNat = i.i.toNat + 1 by omega]
  exact qnw hs (by omega) (qa0 i0 (by omega)) hp.1 hp.2
 ·have hp:¬ (0 <= qg (ρ 3).d i.i 0/\qg (ρ 3).d i.i 0 < 16):=by rw [hu] at hf; exact of_decide_eq_false hf
  rw [add64 (x:=i.i) (by omega) (by omega)]
  refine ⟨⟨by omega,by omega,?_⟩,by omega⟩
  rw [show (i.i + 1).toNat = i.i.toNat + 1 by omega]
  exact qny hs (by omega) (qa0 i0 (by omega)) hp
 ·obtain ⟨⟨row,hs1,hrl⟩,hs2⟩:=hs
  rw [show i.i.toNat = (ρ 1).i.toNat by omega] at hs2
  rw [hs1] at hs2 ⊢
  match row,hrl with
  | [a0,a1,a2,a3,a4,a5,a6,a7,a8,a9,a10,a11,a12,a13,a14,a15],_ =>
   refine ⟨by simp,?_⟩
   have key:qeO ((List.range 16).map (qbb [[a0,a1,a2,a3,a4,a5,a6,a7,a8,a9,a10,a11,a12,a13,a14,a15]])) ((qh (ρ 3).d).take (ρ 1).i.toNat):=⟨by simp,fun j hj=>by
    rw [List.getD_eq_getElem?_getD,List.getElem?_map,List.getElem?_range hj]
    exact hs2 j (by omega) (by omega)⟩
   exact key
theorem q7z:qfR.ok Tryz.prog:=q78 (by simp [q7P,qlC]) fun ρ hg hp=>by
 obtain ⟨hO,⟨h0,hl,h1,hr⟩,hGr,hGd⟩:=hp
 simp only [Nat.reduceAdd] at h0 hl h1 hr
 simp (config:={ maxSteps:=4000000 }) [qmO,qfR,qft,q1e,qu0,qgZ,qcb,qaS,qaK,qmN,gOk,h0,hl,hO,hGr,hGd]
 repeat' (first | with_reducible apply And.intro | with_reducible intro _)
 all_goals first
  | assumption
  | omega
  | rfl
  | exact qdn (by assumption) (by assumption)
  | (rw [qbo (by assumption) (by omega)]; omega)
  | exact q6o (l:=[_,_,_,_,_,_,_,_,_,_,_,_,_,_,_,_]) (by assumption) (by assumption) (by assumption) (by assumption) (by assumption) (by assumption) (by assumption)
  | exact q6z (l:=[_,_,_,_,_,_,_,_,_,_,_,_,_,_,_,_]) (by assumption) (by assumption) (by assumption) (by assumption) (by assumption) (by assumption) (by assumption)
  | exact q6u (l:=[_,_,_,_,_,_,_,_,_,_,_,_,_,_,_,_]) (by assumption) (by assumption) (by assumption) (by assumption) (by assumption)
  | exact qy3 (by assumption) (by assumption) (by assumption) (by assumption)
  | exact qij (by assumption)
  | exact (qij (by assumption)).symm
end Go.Proofs

set_option linter.unusedSimpArgs false
set_option linter.unusedVariables false
namespace Go.Eng
open Go Go.Proofs
def qdj:Ctr:={ fn := 31,nv:=2,ow:=[1003,200096],ip:=[gIp 0,(1127,8),(58,2),(1001,9),(1002,9)],args:=[],heap:=[],ro:=[gHp 0 1],pre:=fun ρ=>gOk ρ 0 1 gR,alts:=[qri] }
def qqR:Inv:={ key:=1000012,nv:=19,env:=[(4,.one (.vptr 1010 (.lit 0) 37 0)),(5,.one (.vslice 1015 (.lit 0) (.lit 1) (.var 1016) 2)),(6,.one (.vint .i64 (.lit 0))),(9,gaP 1000)],heap:=qt0 1000 20 ++ [.cells 1010 27 ([.vint .i64 (.lit 1),.vint .i64 (.lit 1),.vint .i64 (.lit 1),.vint .i64 (.lit 1)] ++ (qaz .u8 1011 32 ++ [.vslice 1012 (.lit 0) (.lit 1) (.var 1013) 32])),qfV 1012 1014 1013,q5o 1015 1017 1016,.abs 1018 10],inv:=(fun ρ=>gaB ρ 1000 none []/\qM (qd (ρ 1011).d 32)/\qfD (ρ 1014).d/\(ρ 1014).d.length = 1/\(ρ 1017).d.length = 1/\qq7 (ρ 1018).h (ρ 1017).d 1/\pcI (ρ 1017).d 0 = 0/\qct 1 1 1 1 1 (dgs (ρ 1014).d) 0 (pcD (ρ 1018).h (ρ 1017).d 0) = 0/\qd (ρ 1001).d 32 = sha (qaO 1 1 1 1 (qd (ρ 1011).d 32) ++ (dgs (ρ 1014).d).flatten)),mu:=fun _=>0 }
end Go.Eng

set_option linter.unusedSimpArgs false
set_option linter.unusedVariables false
namespace Go.Eng
open Go Go.Proofs
end Go.Eng

set_option linter.unusedSimpArgs false
set_option linter.unusedVariables false
namespace Go.Eng
open Go Go.Proofs
def qlr:SV:=.agg (qaz .u8 0 32 ++ [.vint .i64 (.var 1),.vint .i64 (.var 2),.vslice 3 (.lit 0) (.var 4) (.var 5) 1,.vslice 8 (.lit 0) (.var 9) (.var 10) 1,.vbool (.var 13),.vbool (.var 14)])
def q6q (ρ:Env) (r:Nat):Prop:=(ρ (r + 1)).i = (ρ (r + 3)).d.length/\(ρ (r + 1)).i <= 17592186043904/\∀ row ∈ (ρ (r + 3)).d,row.length = 1
def qbG:Ctr:={ fn := 9,nv:=19,ip:=[gIs 15,gIp 17,(1001,9),(1002,9)],args:=[qlr],heap:=[],ro:=[qaK 3,qaK 8,gHp 15 16,gHp 17 18],pre:=fun ρ=>qM (qd (ρ 0).d 32)/\q6q ρ 3/\q6q ρ 8/\gOk ρ 15 16 gS/\gOk ρ 17 18 gR,alts:=[qri] }
end Go.Eng

set_option linter.unusedSimpArgs false
set_option linter.unusedVariables false
set_option maxRecDepth 100000
namespace Go.Proofs
open Go Go.Eng

end Go.Proofs

set_option linter.unusedSimpArgs false
set_option linter.unusedVariables false
namespace Go.Proofs
open Go Go.Eng
set_option maxRecDepth 100000
end Go.Proofs

set_option linter.unusedSimpArgs false
set_option linter.unusedVariables false
namespace Go.Eng
open Go Go.Proofs
end Go.Eng

set_option linter.unusedSimpArgs false
set_option linter.unusedVariables false
set_option maxRecDepth 100000
namespace Go.Proofs
open Go Go.Eng

end Go.Proofs

set_option linter.unusedSimpArgs false
set_option linter.unusedVariables false
namespace Go.Proofs
open Go Go.Eng
set_option maxRecDepth 20000
set_option maxRecDepth 100000
end Go.Proofs

set_option linter.unusedSimpArgs false
set_option linter.unusedVariables false
namespace Go.Proofs
open Go Go.Eng
end Go.Proofs

set_option linter.unusedSimpArgs false
set_option linter.unusedVariables false
namespace Go.Proofs
open Go Go.Eng Go.RowKit Go.Lib Go.Sort
def qnF (W:World) (p q:Int) (xs ys:List Int):World:=(W.alloc (Obj.cells (Value.int .i64 p :: xs.map (Value.int .u8)).toArray 153)).alloc (Obj.cells (Value.int .i64 q :: ys.map (Value.int .u8)).toArray 153)
theorem qy4 {W:World} {p q:Int} {xs ys:List Int}:(qnF W p q xs ys).heap[W.heap.size]? = some (Obj.cells (Value.int .i64 p :: xs.map (Value.int .u8)).toArray 153):=by
 simp only [qnF,World.alloc]
 rw [Array.getElem?_push,if_neg (by simp),Array.getElem?_push,if_pos rfl]
theorem qyr {W:World} {p q:Int} {xs ys:List Int}:(qnF W p q xs ys).heap[W.heap.size + 1]? = some (Obj.cells (Value.int .i64 q :: ys.map (Value.int .u8)).toArray 153):=by
 simp only [qnF,World.alloc]
 rw [Array.getElem?_push,if_pos (by simp)]
theorem q17 {W:World} {b:Nat} {p:Int} {xs:List Int} {ty:TypeId} (h:W.heap[b]? = some (Obj.cells (Value.int .i64 p :: xs.map (Value.int .u8)).toArray ty)) (n j:Nat) (x:Int) (hx:xs[j]? = some x):(W.drewN n).cell? ((⟨b,1,none⟩:Addr).add j) = some (.int .u8 x):=by
 have e:((⟨b,1,none⟩:Addr).add j) = ⟨b,1 + j,none⟩:=by
  unfold Addr.add
  by_cases hj0:j = 0
  ·subst hj0; simp
  ·simp [hj0]
 have h':(W.drewN n).heap[b]? = some (Obj.cells (Value.int .i64 p :: xs.map (Value.int .u8)).toArray ty):=h
 rw [e]
 simp only [World.cell?,h']
 rw [show 1 + j = j + 1 by omega]
 simp [hx]
theorem qwf {W:World} {b:Nat} {p:Int} {xs:List Int} {ty:TypeId} (h:W.heap[b]? = some (Obj.cells (Value.int .i64 p :: xs.map (Value.int .u8)).toArray ty)) (n:Nat):(W.drewN n).cell? ⟨b,0,none⟩ = some (.int .i64 p):=by
 have h':(W.drewN n).heap[b]? = some (Obj.cells (Value.int .i64 p :: xs.map (Value.int .u8)).toArray ty):=h
 simp only [World.cell?,h']
 simp
set_option maxHeartbeats 2000000 in
set_option maxRecDepth 100000 in
theorem q1r (p q:Int) (xs ys:List Int) (hx:xs.length = 32) (hy:ys.length = 32) (W:World) :
  Calls Tryz.prog 81 #[.agg (Value.int .i64 p :: xs.map (Value.int .u8)).toArray,.agg (Value.int .i64 q :: ys.map (Value.int .u8)).toArray] W fun e w' =>
   e = .returned (.int .i64 (if compareBytes (Lib.bytesOf xs) (Lib.bytesOf ys) = 0 then RowKit.wrap64 (p - q) else compareBytes (Lib.bytesOf xs) (Lib.bytesOf ys)))/\∃ n os',w' = grow (W.drewN n) os':=by
 have hc:=fun (a b:Addr) (w:World) h1 h2=>qpZ a b xs ys 32 32 w h1 h2
 rw [hx,hy] at hc
 have c1:=q17 (qy4 (W:=W) (p:=p) (q:=q) (xs:=xs) (ys:=ys))
 have c2:=q17 (qyr (W:=W) (p:=p) (q:=q) (xs:=xs) (ys:=ys))
 have c3:=qwf (qy4 (W:=W) (p:=p) (q:=q) (xs:=xs) (ys:=ys))
 have c4:=qwf (qyr (W:=W) (p:=p) (q:=q) (xs:=xs) (ys:=ys))
 have hg:∀ n,∃ m os',(qnF W p q xs ys).drewN n = grow (W.drewN m) os':=fun n=>⟨n,_,by rw [qnF,alloc_eq_grow,alloc_eq_grow,grow_grow]; rfl⟩
 unfold qnF at c1 c2 c3 c4 hg
 generalize compareBytes (Lib.bytesOf xs) (Lib.bytesOf ys) = r at hc ⊢
 go_enter Tryz.func81,Tryz.ntmps81
 go_wp2
 go_quiet ((go_at_call 118; refine Calls.quiet_of_same (hc _ _ _ ?_ ?_); exact c1 _; exact c2 _))
 go_wp2
 all_goals go_ret
 all_goals refine ⟨?_,hg nq⟩
 all_goals simp_all
end Go.Proofs

namespace Go.Proofs
open Go Go.Shelf Go.RowKit Go.Lib Go.Sort
def qx0:Go.Shelf.Ren:=⟨fun | 6=>83 | 15=>120 | 14=>119 | 28=>148 | 29=>149 | 20=>140 | 21=>141 | 22=>142 | 23=>143 | 24=>144 | 25=>145 | 26=>146 | 27=>147 | 46=>172 | 47=>173 | 48=>174 | 49=>175 | 50=>176 | 57=>186 | n=>n,fun | 22=>156 | 24=>153 | 25=>155 | 3=>3 | 39=>187 | 0=>0 | 53=>131 | 55=>113 | 4=>4 | 46=>234 | 45=>233 | 50=>238 | 5=>5 | 9=>9 | 66=>258 | 70=>262 | 76=>271 | 77=>272 | n=>n,fun | n=>n⟩
theorem qyt:SlLaysF0.n6 Tryz.prog qx0:={
 mixed:=by kernel_rfl
 f6:=⟨Tryz.f83.name,by decide,Tryz.func83.trans (congrArg some (by kernel_rfl))⟩
 f14:=⟨Tryz.f119.name,by decide,Tryz.func119.trans (congrArg some (by kernel_rfl))⟩
 f15:=Tryz.func120.trans (congrArg some (by kernel_rfl))
 f20:=⟨Tryz.f140.name,by decide,Tryz.func140.trans (congrArg some (by kernel_rfl))⟩
 f21:=⟨Tryz.f141.name,by decide,Tryz.func141.trans (congrArg some (by kernel_rfl))⟩
 f22:=⟨Tryz.f142.name,by decide,Tryz.func142.trans (congrArg some (by kernel_rfl))⟩
 f23:=⟨Tryz.f143.name,by decide,Tryz.func143.trans (congrArg some (by kernel_rfl))⟩
 f24:=⟨Tryz.f144.name,by decide,Tryz.func144.trans (congrArg some (by kernel_rfl))⟩
 f25:=⟨Tryz.f145.name,by decide,Tryz.func145.trans (congrArg some (by kernel_rfl))⟩
 f26:=⟨Tryz.f146.name,by decide,Tryz.func146.trans (congrArg some (by kernel_rfl))⟩
 f27:=⟨Tryz.f147.name,by decide,Tryz.func147.trans (congrArg some (by kernel_rfl))⟩
 f28:=Tryz.func148.trans (congrArg some (by kernel_rfl))
 f29:=Tryz.func149.trans (congrArg some (by kernel_rfl))
 f46:=⟨Tryz.f172.name,by decide,Tryz.func172.trans (congrArg some (by kernel_rfl))⟩
 f47:=Tryz.func173.trans (congrArg some (by kernel_rfl))
 f48:=Tryz.func174.trans (congrArg some (by kernel_rfl))
 f49:=⟨Tryz.f175.name,by decide,Tryz.func175.trans (congrArg some (by kernel_rfl))⟩
 f50:=⟨Tryz.f176.name,by decide,Tryz.func176.trans (congrArg some (by kernel_rfl))⟩
 f57:=⟨Tryz.f186.name,by decide,Tryz.func186.trans (congrArg some (by kernel_rfl))⟩
 t0:=Tryz.underlying0
 a0:=Tryz.isAgg0
 z0:=Tryz.sizeOf0
 v0:=Tryz.zeroValue0
 t3:=Tryz.underlying3
 a3:=Tryz.isAgg3
 z3:=Tryz.sizeOf3
 v3:=Tryz.zeroValue3
 t4:=Tryz.underlying4
 a4:=Tryz.isAgg4
 z4:=Tryz.sizeOf4
 v4:=Tryz.zeroValue4
 t5:=Tryz.underlying5
 a5:=Tryz.isAgg5
 z5:=Tryz.sizeOf5
 v5:=Tryz.zeroValue5
 t9:=Tryz.underlying9
 a9:=Tryz.isAgg9
 z9:=Tryz.sizeOf9
 v9:=Tryz.zeroValue9
 t22:=Tryz.underlying156
 a22:=Tryz.isAgg156
 z22:=Tryz.sizeOf156
 v22:=Tryz.zeroValue156
 t25:=Tryz.underlying155
 a25:=Tryz.isAgg155
 z25:=Tryz.sizeOf155
 v25:=Tryz.zeroValue155
 t39:=Tryz.underlying187
 a39:=Tryz.isAgg187
 z39:=Tryz.sizeOf187
 v39:=Tryz.zeroValue187
 t45:=Tryz.underlying233
 a45:=Tryz.isAgg233
 z45:=Tryz.sizeOf233
 v45:=Tryz.zeroValue233
 t46:=Tryz.underlying234
 a46:=Tryz.isAgg234
 z46:=Tryz.sizeOf234
 v46:=Tryz.zeroValue234
 t50:=Tryz.underlying238
 a50:=Tryz.isAgg238
 z50:=Tryz.sizeOf238
 v50:=Tryz.zeroValue238
 t53:=Tryz.underlying131
 a53:=Tryz.isAgg131
 z53:=Tryz.sizeOf131
 v53:=Tryz.zeroValue131
 t55:=Tryz.underlying113
 a55:=Tryz.isAgg113
 z55:=Tryz.sizeOf113
 v55:=Tryz.zeroValue113
 t66:=Tryz.underlying258
 a66:=Tryz.isAgg258
 z66:=Tryz.sizeOf258
 v66:=Tryz.zeroValue258
 t70:=Tryz.underlying262
 a70:=Tryz.isAgg262
 z70:=Tryz.sizeOf262
 v70:=Tryz.zeroValue262
 t76:=Tryz.underlying271
 a76:=Tryz.isAgg271
 z76:=Tryz.sizeOf271
 v76:=Tryz.zeroValue271
 t77:=Tryz.underlying272
 a77:=Tryz.isAgg272
 z77:=Tryz.sizeOf272
 v77:=Tryz.zeroValue272 }
end Go.Proofs

set_option linter.unusedSimpArgs false
set_option linter.unusedVariables false
namespace Go.Proofs
open Go Go.Eng Go.Shelf Go.RowKit Go.Lib Go.Sort
def qfo (o:List Int) (p:Fin 16):List Value:=qE o (p.val:Int)
def cfK (o:List Int) (a b:Fin 16):Int:=qd6 o (a.val:Int) (b.val:Int)
theorem ltK {o:List Int} {a b:Fin 16}:ltOf (cfK o) a b = qA o (a.val:Int) (b.val:Int):=by unfold ltOf cfK; rw [qfC]
theorem q9Y (o:List Int):SWO (ltOf (cfK o)) where
 irrefl x:=by rw [ltK]; exact q0c
 trans x y z h1 h2:=by rw [ltK] at *; exact qsE h1 h2
 ntrans x y z h1 h2:=by
  rw [ltK] at *
  have e1:(!qA o (x.val:Int) (y.val:Int)) = true:=by rw [h1]; rfl
  have e2:(!qA o (y.val:Int) (z.val:Int)) = true:=by rw [h2]; rfl
  rw [qjN] at e1 e2
  have e3:(!qA o (x.val:Int) (z.val:Int)) = true:=by
   rw [qjN]
   by_cases c1:qd6 o (y.val:Int) (x.val:Int) = 0
   ·rw [<- qfx.1 c1]; exact e2
   ·by_cases c2:qd6 o (z.val:Int) (y.val:Int) = 0
    ·rw [qfx.1 c2]; exact e1
    ·have:=qkP (o:=o) (a:=(z.val:Int)) (b:=(y.val:Int)) (c:=(x.val:Int)) (by omega) (by omega)
     omega
  simpa using e3
theorem q9W (o:List Int) (x y:Fin 16) (h1:ltOf (cfK o) x y = false) (h2:ltOf (cfK o) y x = false):x = y:=by
 rw [ltK] at h1 h2
 by_cases h:x = y
 ·exact h
 ·have hv:(x.val:Int) ≠ (y.val:Int):=fun e=>h (Fin.ext (by omega))
  rcases qlg (o:=o) hv with e | e
  ·rw [e] at h1; cases h1
  ·rw [e] at h2; cases h2
theorem q8l {o:List Int} {p:Int}:qt kRk (qE o p):=by
 refine ⟨by rw [qiG]; rfl,fun c k v hk hv=>?_⟩
 cases c with
 | zero =>
  simp only [kRk,qE,List.getElem?_cons_zero,Option.some.injEq] at hk hv
  subst hk hv; rfl
 | succ c =>
  simp only [kRk,qE,List.getElem?_cons_succ] at hk hv
  rw [List.getElem?_replicate] at hk
  split at hk
  ·simp only [Option.some.injEq] at hk
   rw [List.getElem?_map] at hv
   obtain ⟨z,_,rfl⟩:=Option.map_eq_some_iff.1 hv
   subst hk; rfl
  ·cases hk
theorem qyi {o:List Int} {p:Int}:∀ v ∈ qE o p,v.oneCell' = true:=fun v hv=>by
 rcases List.mem_cons.1 hv with rfl | hv
 ·rfl
 ·obtain ⟨z,_,rfl⟩:=List.mem_map.1 hv; rfl
def toFin (x:Int):Fin 16:=⟨x.toNat % 16,by omega⟩
theorem qs7 {x:Int} (h:0 <= x/\x < 16):((toFin x).val:Int) = x:=by simp only [toFin]; omega
theorem qye {M:List Int} {d:Array (Fin 16)} (h:d.toList.map (fun p=>(p.val:Int)) = M) {i:Nat} (hi:i < d.size):M[i]? = some ((d[i]!).val:Int):=by
 rw [<- h,List.getElem?_map,List.getElem?_eq_getElem (by simpa using hi),Option.map_some]
 rw [getElem!_pos d i hi]; rfl
theorem qws {o:List Int} {M:List Int} {d:Array (Fin 16)} (h:d.toList.map (fun p=>(p.val:Int)) = M) {i k:Nat} {row:List Value} {v:Value} (hr:(M.map (qE o))[i]? = some row) (hv:row[k]? = some v) :
  i < d.size/\k < 33/\(flatK (qfo o) 33 d)[i * 33 + k]! = v:=by
 rw [List.getElem?_map] at hr
 obtain ⟨x,hx,rfl⟩:=Option.map_eq_some_iff.1 hr
 have hi:i < d.size:=by
  have:=(List.getElem?_eq_some_iff.1 hx).1
  rw [<- h] at this; simpa using this
 have hk:k < 33:=by
  have:=(List.getElem?_eq_some_iff.1 hv).1
  rwa [qiG] at this
 rw [qye h hi,Option.some.injEq] at hx
 refine ⟨hi,hk,?_⟩
 have hlt:i * 33 + k < d.size * 33:=by omega
 rw [get_flatK _ _ _ _ hlt,show (i * 33 + k) / 33 = i by omega,show (i * 33 + k) % 33 = k by omega]
 unfold qfo
 rw [hx,List.getElem!_eq_getElem?_getD,hv]; rfl
theorem qxo {o:List Int} {L:List Int} {d:Array (Fin 16)} (h:d.toList.map (fun p=>(p.val:Int)) = L) {w:World} {b:Nat} {c:Array Value} {ty:TypeId} (hb:w.heap[b]? = some (.cells c ty (0,0))) (hr:qad c 0 kRk (L.map (qE o))):HoldsK (qfo o) 33 w b 0 d:=by
 intro j hj
 rw [size_flatK] at hj
 have hi:j / 33 < d.size:=by omega
 have hrow:(L.map (qE o))[j / 33]? = some (qE o ((d[j / 33]!).val:Int)):=by rw [List.getElem?_map,qye h hi]; rfl
 have hkl:j % 33 < (qE o ((d[j / 33]!).val:Int)).length:=by rw [qiG]; omega
 have hv:=(hr _ _ hrow).2 (j % 33) _ (List.getElem?_eq_getElem hkl)
 have hf:=(qws h hrow (List.getElem?_eq_getElem hkl)).2.2
 rw [show j / 33 * 33 + j % 33 = j by omega] at hf
 have hlen:kRk.length = 33:=rfl
 rw [hlen,show 0 + j / 33 * 33 + j % 33 = j by omega] at hv
 refine ⟨?_,by simp [World.frozen?,hb]⟩
 show w.cell? ⟨b,0 + j,none⟩ = some (id (flatK (qfo o) 33 d)[j]!)
 simp only [World.cell?,hb,Nat.zero_add,id]
 rw [hf,hv]; rfl
theorem qzp {o:List Int} {w:World} {b n:Nat} {d:Array (Fin 16)} {os:Array Obj} {c:Array Value} {ty:TypeId} (hb:w.heap[b]? = some (.cells c ty (0,0))) :
  (sortWorldK (qfo o) 33 w b 0 n d os).heap[b]? = some (.cells (putCells id 0 (flatK (qfo o) 33 d) c) ty (0,0)):=by
 have hlt:b < w.heap.size:=(Array.getElem?_eq_some_iff.1 hb).1
 unfold sortWorldK grow putRowK putRow mapBlock
 have e:(Go.Sort.ahead w n).heap = w.heap:=rfl
 simp only [e]
 rw [Array.getElem?_append_left (by simpa using hlt),Array.getElem?_modify,if_pos rfl,hb]; rfl
theorem qxn {o:List Int} {w:World} {b x n:Nat} {d:Array (Fin 16)} {os:Array Obj} {X:Obj} (hx:w.heap[x]? = some X) (hne:x ≠ b):(sortWorldK (qfo o) 33 w b 0 n d os).heap[x]? = some X:=by
 have hlt:x < w.heap.size:=(Array.getElem?_eq_some_iff.1 hx).1
 unfold sortWorldK grow putRowK putRow mapBlock
 have e:(Go.Sort.ahead w n).heap = w.heap:=rfl
 simp only [e]
 rw [Array.getElem?_append_left (by simpa using hlt),Array.getElem?_modify,if_neg (Ne.symm hne),hx]
theorem qzV {o:List Int} {M:List Int} {d:Array (Fin 16)} (h:d.toList.map (fun p=>(p.val:Int)) = M) {c:Array Value} (hc:d.size * 33 <= c.size):qad (putCells id 0 (flatK (qfo o) 33 d) c) 0 kRk (M.map (qE o)):=by
 intro i row hi
 have hfit:qt kRk row:=by
  rw [List.getElem?_map] at hi
  obtain ⟨x,_,rfl⟩:=Option.map_eq_some_iff.1 hi
  exact q8l
 refine ⟨hfit,fun k v hv=>?_⟩
 obtain ⟨h1,h2,h3⟩:=qws h hi hv
 have hlen:kRk.length = 33:=rfl
 rw [hlen,Nat.zero_add]
 have hlt:i * 33 + k < d.size * 33:=by omega
 unfold putCells
 rw [Array.getElem?_mapIdx,Array.getElem?_eq_getElem (by omega),Option.map_some,if_pos ⟨by omega,by rw [size_flatK]; omega⟩,Nat.sub_zero,h3]; rfl
theorem q9U (o:List Int) (ho:qM o) (x y:Fin 16) (W:World):Calls Tryz.prog 81 #[.agg (qfo o x).toArray,.agg (qfo o y).toArray] W fun e w'=>e = .returned (.int .i64 (cfK o x y))/\∃ q os',w' = grow (W.drewN q) os':=by
 refine (q1r (x.val:Int) (y.val:Int) (qN o x.val) (qN o y.val) qks qks W).mono fun e w' h=>?_
 obtain ⟨rfl,h⟩:=h
 refine ⟨?_,h⟩
 rw [qlK qnr qnr]
 have hx:=x.isLt
 have hy:=y.isLt
 unfold cfK qd6
 by_cases he:qN o (x.val:Int) = qN o (y.val:Int)
 ·rw [if_pos (qf1.2 he),if_pos he]
  have:RowKit.wrap64 ((x.val:Int) - (y.val:Int)) = (x.val:Int) - (y.val:Int):=by unfold RowKit.wrap64; omega
  rw [this]
 ·rw [if_neg (fun h=>he (qf1.1 h)),if_neg he]
theorem q38 (o:List Int) (ho:qM o) (b cap:Nat) (d:Array (Fin 16)) (w:World) (hH:HoldsK (qfo o) 33 w b 0 d) (hb:b < w.heap.size) (hsz:d.size < 4611686018427387904) :
  Calls Tryz.prog 83 #[.slice (some ⟨b,0,none⟩) d.size cap,.func (.func 81) #[] #[]] w fun e w'=>e = .returned (.tuple #[])/\∃ n os,w' = sortWorldK (qfo o) 33 w b 0 n (d.toList.mergeSort fun x y=>!(ltOf (cfK o)) y x).toArray os :=
 AnyQ.slices_SortFunc_total qyt 33 Tryz.isAgg153 Tryz.sizeOf153 (qfo o) (fun _=>qiG) (fun _=>qyi) (cfK o) (q9Y o) 81 #[] b 0 cap d w (fun args w=>Tryz.call81 args w) (fun m os dk hs x y=>q9U o ho x y _) hH hb hsz (q9W o)
theorem q0E (p:Option Addr) (cap:Nat) (fv:Value) (w:World):Calls Tryz.prog 83 #[.slice p 0 cap,fv] w fun e w'=>e = .returned (.tuple #[])/\w' = w:=AnyF.slices_SortFunc_none qyt p cap fv w
theorem qyU {o L:List Int} (hL:∀ x ∈ L,0 <= x/\x < 16):(((L.map toFin).mergeSort fun x y=>!(ltOf (cfK o)) y x).map fun p=>(p.val:Int)) = qaj o L:=by
 have hv:(L.map toFin).map (fun p=>(p.val:Int)) = L:=by
  rw [List.map_map]
  conv=>rhs; rw [<- List.map_id L]
  exact List.map_congr_left fun x hx=>qs7 (hL x hx)
 rw [List.map_mergeSort (s:=fun a b=>!qA o b a) (fun a _ b _=>by rw [ltK]),hv]; rfl
theorem qxy {o o' L:List Int} (h:L.map (qE o) = L.map (qE o')):(qaj o L).map (qE o) = (qaj o' L).map (qE o'):=by
 have h1:∀ x ∈ L,qE o x = qE o' x:=List.map_inj_left.1 h
 have hsc:∀ x ∈ L,qN o x = qN o' x:=fun x hx=>by
  have h2:=h1 x hx
  simp only [qE,List.cons.injEq,true_and] at h2
  have h3:=congrArg (List.map qV) h2
  rw [List.map_map,List.map_map] at h3
  have e:(qV ∘ Value.int IntKind.u8) = id:=rfl
  rwa [e,List.map_id,List.map_id] at h3
 have hs:qaj o L = qaj o' L:=by
  have:=List.map_mergeSort (r:=fun a b=>!qA o b a) (s:=fun a b=>!qA o' b a) (f:=id) (l:=L) (fun a ha b hb=>by simp only [id,qA,hsc a ha,hsc b hb])
  rwa [List.map_id,List.map_id] at this
 rw [<- hs]
 exact List.map_congr_left fun x hx=>h1 x (qsz.1 hx)
theorem q73:qeC.ok Tryz.prog:=by
 refine ⟨fun args w=>Tryz.call83 args w,fun ρ w hF hO hg hd hw hs hro hp=>?_⟩
 obtain ⟨hl,hb1,o,L,ho,hD,hL⟩:=hp
 obtain ⟨h1,h2,hdis,hu,harr,_⟩:=hs
 have huniq:∀ {o' L':List Int},(ρ 3).d = L'.map (qE o')->L' = L:=fun {o' L'} h=>by
  have e:=congrArg qh (h.symm.trans hD)
  rwa [qtJ,qtJ] at e
 have hlen:(ρ 1).i = L.length:=by rw [hl,hD,List.length_map]
 -- the answer, once the rows are qc5
 have key:∀ (w':World) (hO':Hp),Hp.disj hF.h hO'->SH.den (ρ.set 4 { d:=(qaj o L).map (qE o) }) (quP 0 4 2) hO'->(Hp.union hF.h hO').sub w'->hF.wi w' ->
   ∃ (ai:Nat) (al:Alt) (ρ':Env),qeC.alts[ai]? = some al/\ρ'.good/\(∀ n,n < qeC.nv->ρ' n = ρ n)/\(Ending.returned (.tuple #[]):Ending) = .returned (al.ret.den ρ')/\al.post (ρ'.upto (qeC.nv + al.k))/\qr ρ' hF al.heap w':=by
  intro w' hO' a1 a2 a3 a4
  have hgood:({ d:=(qaj o L).map (qE o) }:U).good:=⟨rfl,fun row hr v hv=>by
   obtain ⟨x,_,rfl⟩:=List.mem_map.1 hr
   exact qyi v hv⟩
  refine ⟨0,_,ρ.set 4 { d:=(qaj o L).map (qE o) },rfl,fun n=>?_,fun n hn=>Env.set_ne _ _ (by have:n < 4:=hn; omega),rfl,?_,hO',a1,⟨hO',Hp.emp,fun _=>.inr rfl,?_,a2,trivial⟩,a3,a4⟩
  ·by_cases hn:n = 4
   ·subst hn; rw [Env.set_same]; exact hgood
   ·rw [Env.set_ne _ _ hn]; exact hg n
  ·intro o' L' ho' hD' hL'
   have hD2:(ρ 3).d = L'.map (qE o'):=hD'
   obtain rfl:=huniq hD2
   show (qaj o L').map (qE o) = (qaj o' L').map (qE o')
   exact qxy (hD.symm.trans hD2)
  ·funext b
   simp only [Hp.union,Hp.emp]
   cases hO' b <;> rfl
 rcases harr with ⟨hr,hd0,hc0⟩ | ⟨b,c,hr,hb,hcs,hcap,hrows⟩
 ·have hL0:L = []:=by
   have e:(ρ 3).d = []:=hd0
   rw [hD] at e
   exact List.map_eq_nil_iff.1 e
  subst hL0
  have hargs:(List.map (SV.den ρ) qeC.args).toArray = #[.slice none 0 (ρ 2).i.toNat,.func (.func 81) #[] #[]]:=by
   have hr':(ρ 0).r = none:=hr
   simp [qeC,rkS,SV.den,qb,T.den,O0.den,O3.den,hr',hlen,qm]
  rw [hargs]
  refine (q0E none _ _ w).mono fun e w' h=>?_
  obtain ⟨rfl,rfl⟩:=h
  refine key _ hO hd (.inl ⟨?_,?_,?_⟩) hw.1 hw.2
  ·rw [Env.set_ne _ _ (by decide)]; exact hr
  ·show ((ρ.set 4 _) 4).d = []
   rw [Env.set_same]; simp [qaj]
  ·show ((ρ.set 4 _) 2).i = 0
   rw [Env.set_ne _ _ (by decide)]; exact hc0
 ·have hbO:hO b = some (.cells c 153 (0,0)):=by rw [hu]; simp [Hp.union,hb]
  have hbw:w.heap[b]? = some (.cells c 153 (0,0)):=hw.1 _ _ (by
   unfold Hp.union
   rcases hd b with h | h
   ·rw [h]; exact hbO
   ·rw [hbO] at h; cases h)
  have hblt:b < w.heap.size:=(Array.getElem?_eq_some_iff.1 hbw).1
  have hrows':qad c 0 kRk (L.map (qE o)):=by
   have h:=hrows
   rw [show (T.den ρ (.var 3)).d = (ρ 3).d from rfl,hD] at h
   exact h
  have hcs':c.size = (ρ 2).i.toNat * 33:=hcs
  have hcap':((ρ 3).d.length:Int) <= (ρ 2).i:=hcap
  rw [hD,List.length_map] at hcap'
  let d:Array (Fin 16):=(L.map toFin).toArray
  have hdv:d.toList.map (fun p=>(p.val:Int)) = L:=by
   simp only [d,List.toList_toArray,List.map_map]
   conv=>rhs; rw [<- List.map_id L]
   exact List.map_congr_left fun x hx=>qs7 (hL x hx)
  have hds:d.size = L.length:=by simp [d]
  have hH:=qxo hdv hbw hrows'
  have hargs:(List.map (SV.den ρ) qeC.args).toArray = #[.slice (some ⟨b,0,none⟩) d.size (ρ 2).i.toNat,.func (.func 81) #[] #[]]:=by
   have hr':(ρ 0).r = some ⟨b,0,none⟩:=hr
   simp [qeC,rkS,SV.den,qb,T.den,O0.den,O3.den,hr',hlen,qm,hds]
  rw [hargs]
  refine (q38 o ho b _ d w hH hblt (by omega)).mono fun e w' h=>?_
  obtain ⟨rfl,n,os,rfl⟩:=h
  have hsv:((d.toList.mergeSort fun x y=>!(ltOf (cfK o)) y x).toArray:Array (Fin 16)).toList.map (fun p=>(p.val:Int)) = qaj o L:=by
   simp only [d,List.toList_toArray]
   exact qyU hL
  have hsl:((d.toList.mergeSort fun x y=>!(ltOf (cfK o)) y x).toArray:Array (Fin 16)).size * 33 <= c.size:=by
   rw [hcs',List.size_toArray,List.length_mergeSort]
   simp only [Array.length_toList,hds]
   omega
  refine key _ (Hp.upd hO b (.cells (putCells id 0 (flatK (qfo o) 33 (d.toList.mergeSort fun x y=>!(ltOf (cfK o)) y x).toArray) c) 153 (0,0))) (fun x=>?_) (.inr ⟨b,putCells id 0 (flatK (qfo o) 33 (d.toList.mergeSort fun x y=>!(ltOf (cfK o)) y x).toArray) c,?_,?_,?_,?_,?_⟩) (fun x X hX=>?_) ?_
  ·by_cases hx:x = b
   ·subst hx
    rcases hd x with h | h
    ·exact .inl h
    ·rw [hbO] at h; cases h
   ·unfold Hp.upd; rw [if_neg hx]; exact hd x
  ·rw [Env.set_ne _ _ (by decide)]; exact hr
  ·unfold Hp.upd; rw [if_pos rfl]
  ·show (putCells id 0 _ c).size = ((ρ.set 4 _) 2).i.toNat * 33
   rw [Env.set_ne _ _ (by decide),<- hcs']
   simp [putCells]
  ·show ((((ρ.set 4 { d:=(qaj o L).map (qE o) }) 4).d.length:Nat):Int) <= ((ρ.set 4 _) 2).i
   rw [Env.set_same,Env.set_ne _ _ (by decide),List.length_map,qfB]; exact hcap'
  ·show qad _ 0 kRk ((ρ.set 4 { d:=(qaj o L).map (qE o) }) 4).d
   rw [Env.set_same]
   exact qzV hsv hsl
  ·by_cases hx:x = b
   ·subst hx
    have hFn:hF.h x = none:=by
     rcases hd x with h | h
     ·exact h
     ·rw [hbO] at h; cases h
    simp only [Hp.union,hFn,Hp.upd,if_true,Option.none_or,Option.some.injEq] at hX
    rw [<- hX]
    exact qzp hbw
   ·have hX':Hp.union hF.h hO x = some X:=by
     simpa [Hp.union,Hp.upd,hx] using hX
    exact qxn (hw.1 _ _ hX') hx
  ·exact hw.2
end Go.Proofs

set_option linter.unusedSimpArgs false
set_option linter.unusedVariables false
set_option maxRecDepth 100000
namespace Go.Proofs
open Go Go.Eng

def qyT:Out:=(.br (.cmp .geq (.var 1) (.var 0))
 (.ret 0 (sg 2 [bt 2 (.cmp .lss (.arith .sub .u64 (.var 1) (.var 0)) (.lit 12))]))
 (.ret 0 (sg 2 [bt 2 (.bl false)])))
theorem q3I:qk ⟨Tryz.prog,qjd,[],[]⟩ 100000 Tryz.f101 = qyT:=by kernel_rfl
theorem q9g (hd:∀ c ∈ ([]:List Ctr),c.ok Tryz.prog) (h:∀ ρ:Env,ρ.good->(qjd).pre ρ->qyT.den ⟨Tryz.prog,qjd,[],[]⟩ ρ):(qjd).ok Tryz.prog :=
 qf Tryz.func101 (fun a w=>Tryz.call101 a w) hd 100000 (fun ρ hg hp=>by rw [q3I]; exact h ρ hg hp)
def qrv:Out:=(.mop .new 0 (.fresh 2 (.ret 0 (sg 0 [bg 2 0,bv 1 1,bg 0 2]))) .top)
theorem qyW:qk ⟨Tryz.prog,qep,[],[]⟩ 100000 Tryz.f61 = qrv:=by kernel_rfl
theorem q3N (hd:∀ c ∈ ([]:List Ctr),c.ok Tryz.prog) (h:∀ ρ:Env,ρ.good->(qep).pre ρ->qrv.den ⟨Tryz.prog,qep,[],[]⟩ ρ):(qep).ok Tryz.prog :=
 qf Tryz.func61 (fun a w=>Tryz.call61 a w) hd 100000 (fun ρ hg hp=>by rw [qyW]; exact h ρ hg hp)
def qus:Out:=(.fresh 6 (.pre 0 (sg 0 [bv 0 2]) (.both (.fresh 7 (.post 0 0 (sg 0 [bv 0 2]) 7 (.br (.not (.var 7))
 (.ret 0 (sg 6 [bg 6 5]))
 (.both (.mop (.get (.var 4) [(.c2 (.xint 0) (.var 1) (.lit 0)),(.c2 (.xint 1) (.var 1) (.lit 0)),(.c2 (.xint 2) (.var 1) (.lit 0)),(.c2 (.xint 3) (.var 1) (.lit 0)),(.c2 (.xint 4) (.var 1) (.lit 0)),(.c2 (.xint 5) (.var 1) (.lit 0)),(.c2 (.xint 6) (.var 1) (.lit 0)),(.c2 (.xint 7) (.var 1) (.lit 0)),(.c2 (.xint 8) (.var 1) (.lit 0)),(.c2 (.xint 9) (.var 1) (.lit 0)),(.c2 (.xint 10) (.var 1) (.lit 0)),(.c2 (.xint 11) (.var 1) (.lit 0)),(.c2 (.xint 12) (.var 1) (.lit 0)),(.c2 (.xint 13) (.var 1) (.lit 0)),(.c2 (.xint 14) (.var 1) (.lit 0)),(.c2 (.xint 15) (.var 1) (.lit 0)),(.c2 (.xint 16) (.var 1) (.lit 0)),(.c2 (.xint 17) (.var 1) (.lit 0)),(.c2 (.xint 18) (.var 1) (.lit 0)),(.c2 (.xint 19) (.var 1) (.lit 0)),(.c2 (.xint 20) (.var 1) (.lit 0)),(.c2 (.xint 21) (.var 1) (.lit 0)),(.c2 (.xint 22) (.var 1) (.lit 0)),(.c2 (.xint 23) (.var 1) (.lit 0)),(.c2 (.xint 24) (.var 1) (.lit 0)),(.c2 (.xint 25) (.var 1) (.lit 0)),(.c2 (.xint 26) (.var 1) (.lit 0)),(.c2 (.xint 27) (.var 1) (.lit 0)),(.c2 (.xint 28) (.var 1) (.lit 0)),(.c2 (.xint 29) (.var 1) (.lit 0)),(.c2 (.xint 30) (.var 1) (.lit 0)),(.c2 (.xint 31) (.var 1) (.lit 0))] ⟨true,[.u8,.u8,.u8,.u8,.u8,.u8,.u8,.u8,.u8,.u8,.u8,.u8,.u8,.u8,.u8,.u8,.u8,.u8,.u8,.u8,.u8,.u8,.u8,.u8,.u8,.u8,.u8,.u8,.u8,.u8,.u8,.u8],false,[CK.any],[.vnilm]⟩ [5]) 8 (.both (.mop (.isnil (.vcell (.var 8) (.lit 0) 0)) 9 (.br (.var 9)
 (.both (.mop .new 10 (.both (.pack [.abs 10 1003,.abs 5 1003] 12 (.mop (.put 12 (.var 4) [(.c2 (.xint 0) (.var 1) (.lit 0)),(.c2 (.xint 1) (.var 1) (.lit 0)),(.c2 (.xint 2) (.var 1) (.lit 0)),(.c2 (.xint 3) (.var 1) (.lit 0)),(.c2 (.xint 4) (.var 1) (.lit 0)),(.c2 (.xint 5) (.var 1) (.lit 0)),(.c2 (.xint 6) (.var 1) (.lit 0)),(.c2 (.xint 7) (.var 1) (.lit 0)),(.c2 (.xint 8) (.var 1) (.lit 0)),(.c2 (.xint 9) (.var 1) (.lit 0)),(.c2 (.xint 10) (.var 1) (.lit 0)),(.c2 (.xint 11) (.var 1) (.lit 0)),(.c2 (.xint 12) (.var 1) (.lit 0)),(.c2 (.xint 13) (.var 1) (.lit 0)),(.c2 (.xint 14) (.var 1) (.lit 0)),(.c2 (.xint 15) (.var 1) (.lit 0)),(.c2 (.xint 16) (.var 1) (.lit 0)),(.c2 (.xint 17) (.var 1) (.lit 0)),(.c2 (.xint 18) (.var 1) (.lit 0)),(.c2 (.xint 19) (.var 1) (.lit 0)),(.c2 (.xint 20) (.var 1) (.lit 0)),(.c2 (.xint 21) (.var 1) (.lit 0)),(.c2 (.xint 22) (.var 1) (.lit 0)),(.c2 (.xint 23) (.var 1) (.lit 0)),(.c2 (.xint 24) (.var 1) (.lit 0)),(.c2 (.xint 25) (.var 1) (.lit 0)),(.c2 (.xint 26) (.var 1) (.lit 0)),(.c2 (.xint 27) (.var 1) (.lit 0)),(.c2 (.xint 28) (.var 1) (.lit 0)),(.c2 (.xint 29) (.var 1) (.lit 0)),(.c2 (.xint 30) (.var 1) (.lit 0)),(.c2 (.xint 31) (.var 1) (.lit 0))] [(.var 11)] ⟨true,[.u8,.u8,.u8,.u8,.u8,.u8,.u8,.u8,.u8,.u8,.u8,.u8,.u8,.u8,.u8,.u8,.u8,.u8,.u8,.u8,.u8,.u8,.u8,.u8,.u8,.u8,.u8,.u8,.u8,.u8,.u8,.u8],false,[CK.any],[.vnilm]⟩) 13 (.both (.mop (.get (.var 4) [(.c2 (.xint 0) (.var 1) (.lit 0)),(.c2 (.xint 1) (.var 1) (.lit 0)),(.c2 (.xint 2) (.var 1) (.lit 0)),(.c2 (.xint 3) (.var 1) (.lit 0)),(.c2 (.xint 4) (.var 1) (.lit 0)),(.c2 (.xint 5) (.var 1) (.lit 0)),(.c2 (.xint 6) (.var 1) (.lit 0)),(.c2 (.xint 7) (.var 1) (.lit 0)),(.c2 (.xint 8) (.var 1) (.lit 0)),(.c2 (.xint 9) (.var 1) (.lit 0)),(.c2 (.xint 10) (.var 1) (.lit 0)),(.c2 (.xint 11) (.var 1) (.lit 0)),(.c2 (.xint 12) (.var 1) (.lit 0)),(.c2 (.xint 13) (.var 1) (.lit 0)),(.c2 (.xint 14) (.var 1) (.lit 0)),(.c2 (.xint 15) (.var 1) (.lit 0)),(.c2 (.xint 16) (.var 1) (.lit 0)),(.c2 (.xint 17) (.var 1) (.lit 0)),(.c2 (.xint 18) (.var 1) (.lit 0)),(.c2 (.xint 19) (.var 1) (.lit 0)),(.c2 (.xint 20) (.var 1) (.lit 0)),(.c2 (.xint 21) (.var 1) (.lit 0)),(.c2 (.xint 22) (.var 1) (.lit 0)),(.c2 (.xint 23) (.var 1) (.lit 0)),(.c2 (.xint 24) (.var 1) (.lit 0)),(.c2 (.xint 25) (.var 1) (.lit 0)),(.c2 (.xint 26) (.var 1) (.lit 0)),(.c2 (.xint 27) (.var 1) (.lit 0)),(.c2 (.xint 28) (.var 1) (.lit 0)),(.c2 (.xint 29) (.var 1) (.lit 0)),(.c2 (.xint 30) (.var 1) (.lit 0)),(.c2 (.xint 31) (.var 1) (.lit 0))] ⟨true,[.u8,.u8,.u8,.u8,.u8,.u8,.u8,.u8,.u8,.u8,.u8,.u8,.u8,.u8,.u8,.u8,.u8,.u8,.u8,.u8,.u8,.u8,.u8,.u8,.u8,.u8,.u8,.u8,.u8,.u8,.u8,.u8],false,[CK.any],[.vnilm]⟩ [13]) 14 (.both (.mop (.put 13 (.vcell (.var 14) (.lit 0) 0) [(.var 2)] [(.vint .u64 (.var 3))] ⟨false,[.i64],false,[CK.int .u64],[(.vint .u64 (.lit 0))]⟩) 15 (.ret 0 (sg 6 [bg 6 15])) .top) .top) .top) .top) .top)) .top) .top) .top)
 (.both (.mop (.get (.var 4) [(.c2 (.xint 0) (.var 1) (.lit 0)),(.c2 (.xint 1) (.var 1) (.lit 0)),(.c2 (.xint 2) (.var 1) (.lit 0)),(.c2 (.xint 3) (.var 1) (.lit 0)),(.c2 (.xint 4) (.var 1) (.lit 0)),(.c2 (.xint 5) (.var 1) (.lit 0)),(.c2 (.xint 6) (.var 1) (.lit 0)),(.c2 (.xint 7) (.var 1) (.lit 0)),(.c2 (.xint 8) (.var 1) (.lit 0)),(.c2 (.xint 9) (.var 1) (.lit 0)),(.c2 (.xint 10) (.var 1) (.lit 0)),(.c2 (.xint 11) (.var 1) (.lit 0)),(.c2 (.xint 12) (.var 1) (.lit 0)),(.c2 (.xint 13) (.var 1) (.lit 0)),(.c2 (.xint 14) (.var 1) (.lit 0)),(.c2 (.xint 15) (.var 1) (.lit 0)),(.c2 (.xint 16) (.var 1) (.lit 0)),(.c2 (.xint 17) (.var 1) (.lit 0)),(.c2 (.xint 18) (.var 1) (.lit 0)),(.c2 (.xint 19) (.var 1) (.lit 0)),(.c2 (.xint 20) (.var 1) (.lit 0)),(.c2 (.xint 21) (.var 1) (.lit 0)),(.c2 (.xint 22) (.var 1) (.lit 0)),(.c2 (.xint 23) (.var 1) (.lit 0)),(.c2 (.xint 24) (.var 1) (.lit 0)),(.c2 (.xint 25) (.var 1) (.lit 0)),(.c2 (.xint 26) (.var 1) (.lit 0)),(.c2 (.xint 27) (.var 1) (.lit 0)),(.c2 (.xint 28) (.var 1) (.lit 0)),(.c2 (.xint 29) (.var 1) (.lit 0)),(.c2 (.xint 30) (.var 1) (.lit 0)),(.c2 (.xint 31) (.var 1) (.lit 0))] ⟨true,[.u8,.u8,.u8,.u8,.u8,.u8,.u8,.u8,.u8,.u8,.u8,.u8,.u8,.u8,.u8,.u8,.u8,.u8,.u8,.u8,.u8,.u8,.u8,.u8,.u8,.u8,.u8,.u8,.u8,.u8,.u8,.u8],false,[CK.any],[.vnilm]⟩ [5]) 10 (.both (.mop (.put 5 (.vcell (.var 10) (.lit 0) 0) [(.var 2)] [(.vint .u64 (.var 3))] ⟨false,[.i64],false,[CK.int .u64],[(.vint .u64 (.lit 0))]⟩) 11 (.ret 0 (sg 6 [bg 6 11])) .top) .top) .top) .top)) .top) .top) .top) .top)))) .top)))
theorem q1R:qk ⟨Tryz.prog,qfY,[qc2],[]⟩ 100000 Tryz.f62 = qus:=by kernel_rfl
theorem q7x (hd:∀ c ∈ ([qc2]:List Ctr),c.ok Tryz.prog) (h:∀ ρ:Env,ρ.good->(qfY).pre ρ->qus.den ⟨Tryz.prog,qfY,[qc2],[]⟩ ρ):(qfY).ok Tryz.prog :=
 qf Tryz.func62 (fun a w=>Tryz.call62 a w) hd 100000 (fun ρ hg hp=>by rw [q1R]; exact h ρ hg hp)
@[simp] def qiV:Out:=.back 0 57 (sg 1000 [bg 1007 65,bv 1004 61,bv 1002 59,bv 1006 63,bt 1005 (.bl false),bg 1003 60,bg 1001 58,bg 1000 57])
def qlW:Out:=(.fresh 18 (.pre 0 (sg 0 [bv 4 15,bv 3 14,bv 2 13,bv 1 12,bg 0 11]) (.both (.fresh 19 (.fresh 20 (.fresh 21 (.fresh 22 (.fresh 23 (.fresh 24 (.fresh 25 (.fresh 26 (.fresh 27 (.fresh 28 (.fresh 29 (.fresh 30 (.fresh 31 (.fresh 32 (.fresh 33 (.fresh 34 (.post 0 0 (sg 0 [bv 4 15,bv 3 14,bv 2 13,bv 1 12,bg 0 11]) 19 (.pre 0 (sg 0 [bv 4 10,bv 3 9,bv 2 8,bv 1 7,bg 0 6]) (.both (.fresh 35 (.fresh 36 (.fresh 37 (.fresh 38 (.fresh 39 (.fresh 40 (.fresh 41 (.fresh 42 (.fresh 43 (.fresh 44 (.fresh 45 (.fresh 46 (.fresh 47 (.fresh 48 (.fresh 49 (.fresh 50 (.post 0 0 (sg 0 [bv 4 10,bv 3 9,bv 2 8,bv 1 7,bg 0 6]) 35 (.fresh 51 (.fresh 52 (.both (.mop (.get (.var 4) [(.c2 (.xint 0) (.var 1) (.lit 0)),(.c2 (.xint 1) (.var 1) (.lit 0)),(.c2 (.xint 2) (.var 1) (.lit 0)),(.c2 (.xint 3) (.var 1) (.lit 0)),(.c2 (.xint 4) (.var 1) (.lit 0)),(.c2 (.xint 5) (.var 1) (.lit 0)),(.c2 (.xint 6) (.var 1) (.lit 0)),(.c2 (.xint 7) (.var 1) (.lit 0)),(.c2 (.xint 8) (.var 1) (.lit 0)),(.c2 (.xint 9) (.var 1) (.lit 0)),(.c2 (.xint 10) (.var 1) (.lit 0)),(.c2 (.xint 11) (.var 1) (.lit 0)),(.c2 (.xint 12) (.var 1) (.lit 0)),(.c2 (.xint 13) (.var 1) (.lit 0)),(.c2 (.xint 14) (.var 1) (.lit 0)),(.c2 (.xint 15) (.var 1) (.lit 0)),(.c2 (.xint 16) (.var 1) (.lit 0)),(.c2 (.xint 17) (.var 1) (.lit 0)),(.c2 (.xint 18) (.var 1) (.lit 0)),(.c2 (.xint 19) (.var 1) (.lit 0)),(.c2 (.xint 20) (.var 1) (.lit 0)),(.c2 (.xint 21) (.var 1) (.lit 0)),(.c2 (.xint 22) (.var 1) (.lit 0)),(.c2 (.xint 23) (.var 1) (.lit 0)),(.c2 (.xint 24) (.var 1) (.lit 0)),(.c2 (.xint 25) (.var 1) (.lit 0)),(.c2 (.xint 26) (.var 1) (.lit 0)),(.c2 (.xint 27) (.var 1) (.lit 0)),(.c2 (.xint 28) (.var 1) (.lit 0)),(.c2 (.xint 29) (.var 1) (.lit 0)),(.c2 (.xint 30) (.var 1) (.lit 0)),(.c2 (.xint 31) (.var 1) (.lit 0))] ⟨true,[.u8,.u8,.u8,.u8,.u8,.u8,.u8,.u8,.u8,.u8,.u8,.u8,.u8,.u8,.u8,.u8,.u8,.u8,.u8,.u8,.u8,.u8,.u8,.u8,.u8,.u8,.u8,.u8,.u8,.u8,.u8,.u8],false,[CK.any],[.vnilm]⟩ [5]) 53 (.both (.mop (.range (.vcell (.var 53) (.lit 0) 0) ⟨false,[.i64],false,[CK.int .u64],[(.vint .u64 (.lit 0))]⟩ [5]) 54 (.pack [.abs 54 1003,.abs 5 1003] 56 (.inv 0 57 (sg 1000 [bg 1007 56,bt 1004 (.rcons (.vbool (.var 35)) (.rcons (.vbool (.var 36)) (.rcons (.vbool (.var 37)) (.rcons (.vbool (.var 38)) (.rcons (.vbool (.var 39)) (.rcons (.vbool (.var 40)) (.rcons (.vbool (.var 41)) (.rcons (.vbool (.var 42)) (.rcons (.vbool (.var 43)) (.rcons (.vbool (.var 44)) (.rcons (.vbool (.var 45)) (.rcons (.vbool (.var 46)) (.rcons (.vbool (.var 47)) (.rcons (.vbool (.var 48)) (.rcons (.vbool (.var 49)) (.rcons (.vbool (.var 50)) .rnil)))))))))))))))),bt 1002 (.rcons (.vbool (.var 19)) (.rcons (.vbool (.var 20)) (.rcons (.vbool (.var 21)) (.rcons (.vbool (.var 22)) (.rcons (.vbool (.var 23)) (.rcons (.vbool (.var 24)) (.rcons (.vbool (.var 25)) (.rcons (.vbool (.var 26)) (.rcons (.vbool (.var 27)) (.rcons (.vbool (.var 28)) (.rcons (.vbool (.var 29)) (.rcons (.vbool (.var 30)) (.rcons (.vbool (.var 31)) (.rcons (.vbool (.var 32)) (.rcons (.vbool (.var 33)) (.rcons (.vbool (.var 34)) .rnil)))))))))))))))),bv 1006 55,bt 1005 (.bl false),bg 1003 52,bg 1001 51,bg 1000 18]) (.fresh 57 (.fresh 58 (.fresh 59 (.fresh 60 (.fresh 61 (.fresh 62 (.fresh 63 (.fresh 64 (.hyp 0 57 (.mop (.next 64 (.var 63) ⟨false,[.i64],false,[CK.int .u64],[(.vint .u64 (.lit 0))]⟩ [64]) 65 (.mop (.entry 65 (.var 63) ⟨false,[.i64],false,[CK.int .u64],[(.vint .u64 (.lit 0))]⟩ [65]) 68 (.br (.var 62)
 (.back 0 57 (sg 1000 [bg 1007 65,bv 1004 61,bv 1002 59,bv 1006 63,bt 1005 (.bl true),bg 1003 60,bg 1001 58,bg 1000 57]))
 (.pre 1 (sg 0 [bv 1 3,bt 0 (.c2 (.xint 0) (.var 69) (.lit 0))]) (.both (.fresh 70 (.post 1 0 (sg 0 [bv 1 3,bt 0 (.c2 (.xint 0) (.var 69) (.lit 0))]) 70 (.br (.var 70)
 (.need (.cmp .leq (.lit 0) (.c2 (.xint 0) (.var 68) (.lit 0))) (.need (.cmp .lss (.c2 (.xint 0) (.var 68) (.lit 0)) (.lit 16)) (.need (.cmp .lss (.lit 0) (.dlen (.var 61))) (.br (.c2 (.xbool 0) (.var 61) (.c2 (.xint 0) (.var 68) (.lit 0)))
 (.need (.cmp .lss (.lit 0) (.dlen (.var 59))) (.br (.not (.c2 (.xbool 0) (.var 59) (.c2 (.xint 0) (.var 68) (.lit 0))))
 (.pre 2 (sg 0 [bv 4 17,bv 2 2,bt 1 (.c2 (.xint 0) (.var 68) (.lit 0)),bt 0 (r8 1),bg 3 16]) (.both (.fresh 71 (.post 2 0 (sg 0 [bv 4 17,bv 2 2,bt 1 (.c2 (.xint 0) (.var 68) (.lit 0)),bt 0 (r8 1),bg 3 16]) 71 (.back 0 57 (sg 1000 [bg 1007 65,bv 1004 61,bv 1002 59,bv 1006 63,bv 1005 71,bg 1003 60,bg 1001 58,bg 1000 57])))) .top))
 qiV))
 qiV))))
 qiV))) .top))) .top) (.ret 0 (sg 18 [bg 19 64,bv 18 62])))))))))))))) .top) .top) .top) .top)))))))))))))))))))) .top))))))))))))))))))) .top)))
theorem qtR:qk ⟨Tryz.prog,qcr,[qcb,qjd,qaS],[qor]⟩ 100000 Tryz.f68 = qlW:=by kernel_rfl
theorem qyA (hd:∀ c ∈ ([qcb,qjd,qaS]:List Ctr),c.ok Tryz.prog) (h:∀ ρ:Env,ρ.good->(qcr).pre ρ->qlW.den ⟨Tryz.prog,qcr,[qcb,qjd,qaS],[qor]⟩ ρ):(qcr).ok Tryz.prog :=
 qf Tryz.func68 (fun a w=>Tryz.call68 a w) hd 100000 (fun ρ hg hp=>by rw [qtR]; exact h ρ hg hp)
end Go.Proofs

set_option linter.unusedSimpArgs false
set_option linter.unusedVariables false
namespace Go.Proofs
open Go Go.Eng
theorem qsM:∀ {ks:List IntKind} {a b:List Int},a.length = ks.length->b.length = ks.length->qU ks a = qU ks b->a = b
 | [],[],[],_,_,_=>rfl
 | k :: ks,x :: a,y :: b,h1,h2,h=>by
  simp only [qU,List.zipWith_cons_cons,List.cons.injEq,Value.int.injEq,true_and] at h
  rw [h.1,qsM (ks:=ks) (by simpa using h1) (by simpa using h2) h.2]
 | [],_ :: _,_,h,_,_=>by simp at h
 | [],_,_ :: _,_,h,_=>by simp at h
 | _ :: _,[],_,h,_,_=>by simp at h
 | _ :: _,_ :: _,[],_,h,_=>by simp at h
theorem qyh {g:Bool} {a b:List Value} {n:Nat} (ha:a.length = n) (hb:b.length = n) (hg:g = true∨n = 1) (h:mkV g a = mkV g b):a = b:=by
 cases g with
 | true =>
  simp only [mkV,Value.agg.injEq] at h
  simpa using congrArg Array.toList h
 | false =>
  obtain rfl:=hg.resolve_left (by simp)
  match a,b,ha,hb with
  | [x],[y],_,_ =>
   simp only [mkV,List.headD_cons] at h
   rw [h]
theorem qux {mt:MT} (hk:mt.kagg = true∨mt.kks.length = 1) (hv:mt.vagg = true∨mt.vpat.length = 1):∀ {l l':List ME},(∀ x ∈ l,x.k.length = mt.kks.length/\qt mt.vpat x.v)->(∀ x ∈ l',x.k.length = mt.kks.length/\qt mt.vpat x.v)->l.map mt.ent = l'.map mt.ent->l = l'
 | [],[],_,_,_=>rfl
 | [],_ :: _,_,_,h=>by simp at h
 | _ :: _,[],_,_,h=>by simp at h
 | x :: l,y :: l',h1,h2,h=>by
  simp only [List.map_cons,List.cons.injEq] at h
  obtain ⟨e1,e2⟩:=h
  have hx:=h1 x (List.mem_cons_self ..)
  have hy:=h2 y (List.mem_cons_self ..)
  simp only [MT.ent,MapEntry.mk.injEq] at e1
  obtain ⟨a1,a2,a3⟩:=e1
  have lk:∀ {k:List Int},k.length = mt.kks.length->(qU mt.kks k).length = mt.kks.length:=fun h=>by simp [qU,h]
  have b1:=qsM hx.1 hy.1 (qyh (lk hx.1) (lk hy.1) hk a1)
  have b2:=qyh hx.2.1 hy.2.1 hv a2
  obtain ⟨xk,xv,xb⟩:=x
  obtain ⟨yk,yv,yb⟩:=y
  simp only at b1 b2 a3
  subst b1 b2 a3
  rw [qux hk hv (fun z hz=>h1 z (List.mem_cons_of_mem _ hz)) (fun z hz=>h2 z (List.mem_cons_of_mem _ hz)) e2]
theorem qsF {h:Hp} {b:Nat} {mt:MT} {l l':List ME} {c c':Nat} (hk:mt.kagg = true∨mt.kks.length = 1) (hv:mt.vagg = true∨mt.vpat.length = 1) (h1:qaW h b mt l c) (h2:qaW h b mt l' c'):l = l'/\c = c':=by
 have e:=h1.1.symm.trans h2.1
 simp only [MT.obj,Option.some.injEq,Obj.map.injEq] at e
 exact ⟨qux hk hv (fun x hx=>⟨(h1.2.1 x hx).1,(h1.2.1 x hx).2.1⟩) (fun x hx=>⟨(h2.2.1 x hx).1,(h2.2.1 x hx).2.1⟩) (by simpa using congrArg Array.toList e.1),e.2⟩
theorem q9K {h:Hp} {b:Nat} {l l':List ME} {c c':Nat} (h1:qaW h b mtO l c) (h2:qaW h b mtO l' c'):l = l'/\c = c':=qsF (.inl rfl) (.inr rfl) h1 h2
theorem q6s {h:Hp} {b:Nat} {l l':List ME} {c c':Nat} (h1:qaW h b mtI l c) (h2:qaW h b mtI l' c'):l = l'/\c = c':=qsF (.inr rfl) (.inr rfl) h1 h2
theorem qhN {h:Hp} {v:Value} {cl cl':Cl} (h1:qW h v cl) (h2:qW h v cl'):cl' = cl:=by
 obtain ⟨b,l,c,rfl,hm,hi,_,hn,_⟩:=h1
 obtain ⟨b2,l2,c2,e,hm2,hi2,_,hn2,_⟩:=h2
 simp only [Value.map.injEq,Option.some.injEq] at e
 subst e
 obtain ⟨rfl,rfl⟩:=q9K hm hm2
 funext o i
 by_cases ho:∃ x ∈ l,x.k = o
 ·obtain ⟨x,hx,rfl⟩:=ho
  obtain ⟨b',m,c',e1,_,e2,e3⟩:=hi x hx
  obtain ⟨b2',m2,c2',e1',_,e2',e3'⟩:=hi2 x hx
  rw [e1] at e1'
  simp only [List.cons.injEq,Value.map.injEq,Option.some.injEq,and_true] at e1'
  subst e1'
  obtain ⟨rfl,_⟩:=q6s e2 e2'
  rw [e3,e3']
 ·have:∀ x ∈ l,x.k ≠ o:=fun x hx he=>ho ⟨x,hx,he⟩
  rw [hn o i this,hn2 o i this]
theorem qha {h h':Hp} {b:Nat} {mt:MT} {l:List ME} {c:Nat} (hm:qaW h b mt l c) (hl:Hp.le h h'):qaW h' b mt l c:=⟨hl _ _ hm.1,hm.2⟩
theorem qyc {h h':Hp} {v:Value} {cl:Cl} (hc:qW h v cl) (hl:Hp.le h h'):qW h' v cl:=by
 obtain ⟨b,l,c,e,hm,hi,hr⟩:=hc
 exact ⟨b,l,c,e,qha hm hl,fun x hx=>by
  obtain ⟨b',m,c',e1,e2,e3,e4⟩:=hi x hx
  exact ⟨b',m,c',e1,e2,qha e3 hl,e4⟩,hr⟩
theorem qv7 {l:List ME} {k:List Int}:qb9 l k = true↔∃ x ∈ l,x.k = k:=by
 unfold qb9
 rw [List.any_eq_true]
 exact ⟨fun ⟨x,h1,h2⟩=>⟨x,h1,by simpa using h2⟩,fun ⟨x,h1,h2⟩=>⟨x,h1,by simpa using h2⟩⟩
theorem qkl {l:List ME} {k:List Int} (h:qb9 l k = false):∀ x ∈ l,x.k ≠ k:=fun x hx he=>by
 rw [qv7.2 ⟨x,hx,he⟩] at h; cases h
theorem qtC {m:List ME} {i i' t:Int} {c:Nat}:qdR (qbB m [i] [.int .u64 t] c).1 i' = if i' = i then some t else qdR m i':=by
 unfold qbB
 by_cases h:qb9 m [i] = true
 ·rw [if_pos h]
  unfold qdR
  simp only
  rw [List.find?_map]
  have hp:((fun x:ME=>x.k == [i']) ∘ fun x:ME=>if x.k = [i] then { x with v:=[.int .u64 t] } else x) = fun x:ME=>x.k == [i']:=by
   funext x
   simp only [Function.comp]
   split <;> rfl
  rw [hp,Option.map_map]
  by_cases hi:i' = i
  ·subst hi
   rw [if_pos rfl]
   obtain ⟨x,hx,hk⟩:=qv7.1 h
   cases hf:m.find? fun x=>x.k == [i'] with
   | none =>
    rw [List.find?_eq_none] at hf
    exact absurd (by simpa using hk) (hf x hx)
   | some y =>
    have hy:=List.find?_some hf
    simp only [beq_iff_eq] at hy
    simp [hy,qV]
  ·rw [if_neg hi]
   cases hf:m.find? fun x=>x.k == [i'] with
   | none=>rfl
   | some y =>
    have hy:=List.find?_some hf
    simp only [beq_iff_eq] at hy
    have:y.k ≠ [i]:=by rw [hy]; simp [hi]
    simp [this]
 ·rw [if_neg h]
  have hn:=qkl (by simpa using h)
  unfold qdR
  simp only
  rw [List.find?_append]
  by_cases hi:i' = i
  ·subst hi
   rw [if_pos rfl]
   have:m.find? (fun x=>x.k == [i']) = none:=by
    rw [List.find?_eq_none]
    intro x hx hk
    exact hn x hx (by simpa using hk)
   rw [this]; simp [qV]
  ·rw [if_neg hi]
   have:([⟨[i],[.int .u64 t],c⟩]:List ME).find? (fun x=>x.k == [i']) = none:=by
    simp [Ne.symm hi]
   rw [this,Option.or_none]
theorem qiN {i t:Int}:([i]:List Int).length = mtI.kks.length/\qt mtI.vpat [.int .u64 t]:=⟨rfl,rfl,fun c k v hk hv=>by
 cases c with
 | zero=>simp only [mtI,List.getElem?_cons_zero,Option.some.injEq] at hk hv; subst hk hv; rfl
 | succ c=>simp [mtI] at hk⟩
theorem qw4 {h:Hp} {b x:Nat} {X:Obj} (hne:x ≠ b):Hp.upd h b X x = h x:=by unfold Hp.upd; rw [if_neg hne]
theorem qib {h:Hp} {b:Nat} {X:Obj}:Hp.upd h b X b = some X:=by unfold Hp.upd; rw [if_pos rfl]
theorem qdw {h:Hp} {b x:Nat} {X:Obj} {mt:MT} {l:List ME} {c:Nat} (hne:x ≠ b) (hm:qaW h x mt l c):qaW (Hp.upd h b X) x mt l c:=⟨by rw [qw4 hne]; exact hm.1,hm.2⟩
theorem q5E {h:Hp} {b b' c c':Nat} {l m:List ME} {x:ME} {cl:Cl} {i t:Int} (hm:qaW h b mtO l c) (hi:∀ x ∈ l,∃ b' m c',x.v = [.map (some b')]/\b' ≠ b/\qaW h b' mtI m c'/\∀ i,cl x.k i = qdR m i) (hd:∀ x ∈ l,∀ y ∈ l,x.k ≠ y.k->x.v ≠ y.v) (hn:∀ o i,(∀ x ∈ l,x.k ≠ o)->cl o i = none)
  (hr:∀ o i t,cl o i = some t->0 <= i/\i < 16/\0 <= t/\t < 18446744073709551616) (hx:x ∈ l) (hb:x.v = [.map (some b')]) (hI:qaW h b' mtI m c') (i0:0 <= i) (i1:i < 16) (t0:0 <= t) (t1:t < 18446744073709551616) :
  qW (Hp.upd h b' (mtI.obj (qbB m [i] [.int .u64 t] c'))) (.map (some b)) (qeB cl x.k i t):=by
 obtain ⟨b2,m2,c2,e1,e2,e3,e4⟩:=hi x hx
 rw [hb] at e1
 simp only [List.cons.injEq,Value.map.injEq,Option.some.injEq,and_true] at e1
 subst e1
 obtain ⟨rfl,rfl⟩:=q6s hI e3
 have hF:∀ o' i',qeB cl x.k i t o' i' = if o' = x.k/\i' = i then some t else cl o' i':=fun o' i'=>by unfold qeB; rw [if_pos ⟨i0,i1⟩]
 refine ⟨b,l,c,rfl,qdw (Ne.symm e2) hm,fun y hy=>?_,hd,fun o' i' ho=>?_,fun o' i' t' ht=>?_⟩
 ·by_cases hk:y.k = x.k
  ·have hvv:y.v = [.map (some b')]:=by
    obtain ⟨jx,hjx⟩:=List.getElem?_of_mem hx
    obtain ⟨jy,hjy⟩:=List.getElem?_of_mem hy
    have hj:=qip hm.2 hjy hjx hk
    rw [hj,hjx] at hjy
    rw [<- Option.some.inj hjy]; exact hb
   refine ⟨b',(qbB m [i] [.int .u64 t] c').1,(qbB m [i] [.int .u64 t] c').2,hvv,e2,⟨qib,qmI hI.2 (qiN (i:=i) (t:=t)).1 (qiN (i:=i) (t:=t)).2⟩,fun i'=>?_⟩
   rw [hF,qtC,hk,e4]
   by_cases hii:i' = i
   ·simp [hii]
   ·simp [hii]
  ·obtain ⟨b3,m3,c3,f1,f2,f3,f4⟩:=hi y hy
   have hne:b3 ≠ b':=fun he=>hd y hy x hx hk (by rw [f1,hb,he])
   refine ⟨b3,m3,c3,f1,f2,qdw hne f3,fun i'=>?_⟩
   rw [hF,if_neg (fun h=>hk h.1),f4]
 ·rw [hF,if_neg (fun h=>ho x hx h.1.symm),hn o' i' ho]
 ·rw [hF] at ht
  split at ht
  ·rename_i he
   obtain rfl:=Option.some.inj ht
   exact ⟨by omega,by omega,t0,t1⟩
  ·exact hr _ _ _ ht
theorem q5s {h:Hp} {b b' c:Nat} {l:List ME} {cl:Cl} {o:List Int} {i t:Int} (hm:qaW h b mtO l c) (hi:∀ x ∈ l,∃ b' m c',x.v = [.map (some b')]/\b' ≠ b/\qaW h b' mtI m c'/\∀ i,cl x.k i = qdR m i) (hd:∀ x ∈ l,∀ y ∈ l,x.k ≠ y.k->x.v ≠ y.v) (hn:∀ o i,(∀ x ∈ l,x.k ≠ o)->cl o i = none)
  (hr:∀ o i t,cl o i = some t->0 <= i/\i < 16/\0 <= t/\t < 18446744073709551616) (ho:qb9 l o = false) (hol:o.length = 32) (hbb:b' ≠ b) (hfree:∀ x ∈ l,x.v ≠ [.map (some b')]) (i0:0 <= i) (i1:i < 16) (t0:0 <= t) (t1:t < 18446744073709551616) :
  qW (Hp.upd (Hp.upd h b (mtO.obj (qbB l o [.map (some b')] c))) b' (mtI.obj (qbB [] [i] [.int .u64 t] 0))) (.map (some b)) (qeB cl o i t):=by
 have hF:∀ o' i',qeB cl o i t o' i' = if o' = o/\i' = i then some t else cl o' i':=fun o' i'=>by unfold qeB; rw [if_pos ⟨i0,i1⟩]
 have hput:qbB l o [.map (some b')] c = (l ++ [⟨o,[.map (some b')],c⟩],c + 1):=by unfold qbB; rw [if_neg (by rw [ho]; simp)]
 have hfit:qt mtO.vpat [.map (some b')]:=⟨rfl,fun c k v hk hv=>by
  cases c with
  | zero=>simp only [mtO,List.getElem?_cons_zero,Option.some.injEq] at hk hv; subst hk hv; rfl
  | succ c=>simp [mtO] at hk⟩
 have hno:=qkl ho
 refine ⟨b,(qbB l o [.map (some b')] c).1,(qbB l o [.map (some b')] c).2,rfl,⟨by rw [qw4 (Ne.symm hbb)]; exact qib,qmI hm.2 (by rw [hol]; rfl) hfit⟩,fun y hy=>?_,fun x hx y hy hk=>?_,fun o' i' ho'=>?_,fun o' i' t' ht=>?_⟩
 ·rw [hput] at hy
  rcases List.mem_append.1 hy with hy | hy
  ·obtain ⟨b3,m3,c3,f1,f2,f3,f4⟩:=hi y hy
   have hne:b3 ≠ b':=fun he=>hfree y hy (by rw [f1,he])
   refine ⟨b3,m3,c3,f1,f2,qdw hne (qdw f2 f3),fun i'=>?_⟩
   rw [hF,if_neg (fun h=>hno y hy h.1),f4]
  ·rw [List.mem_singleton] at hy
   subst hy
   refine ⟨b',(qbB [] [i] [.int .u64 t] 0).1,(qbB [] [i] [.int .u64 t] 0).2,rfl,hbb,⟨qib,qmI (c:=0) (l:=[]) ⟨fun x hx=>(by cases hx),List.Pairwise.nil⟩ (qiN (i:=i) (t:=t)).1 (qiN (i:=i) (t:=t)).2⟩,fun i'=>?_⟩
   rw [hF,qtC,hn o i' hno]
   by_cases hii:i' = i
   ·simp [hii]
   ·simp [hii,qdR]
 ·rw [hput] at hx hy
  rcases List.mem_append.1 hx with hx | hx <;> rcases List.mem_append.1 hy with hy | hy
  ·exact hd x hx y hy hk
  ·rw [List.mem_singleton] at hy; subst hy; exact hfree x hx
  ·rw [List.mem_singleton] at hx; subst hx; exact (hfree y hy).symm
  ·rw [List.mem_singleton] at hx hy; subst hx hy; exact absurd rfl hk
 ·rw [hput] at ho'
  rw [hF,if_neg (fun h=>ho' _ (List.mem_append_right _ (List.mem_singleton.2 rfl)) h.1.symm),hn o' i' fun x hx=>ho' x (List.mem_append_left _ hx)]
 ·rw [hF] at ht
  split at ht
  ·obtain rfl:=Option.some.inj ht
   rename_i he
   exact ⟨by omega,by omega,t0,t1⟩
  ·exact hr _ _ _ ht
end Go.Proofs

set_option linter.unusedSimpArgs false
set_option linter.unusedVariables false
namespace Go.Proofs
open Go Go.Eng
theorem qyy {m:List ME} {c:Nat} (hM:MWf mtI m c) {e:ME} (he:e ∈ m):∃ z,e.k = [z]:=qjy (hM.1 e he).1
theorem q1W {m:List ME} {i t:Int} (h:qdR m i = some t):∃ e ∈ m,e.k = [i]/\qV (e.v.headD .nilFunc) = t:=by
 unfold qdR at h
 obtain ⟨e,he,rfl⟩:=Option.map_eq_some_iff.1 h
 exact ⟨e,List.mem_of_find?_eq_some he,by simpa using List.find?_some he,rfl⟩
theorem quL {m:List ME} {c:Nat} (hM:MWf mtI m c) {e:ME} (he:e ∈ m) {z:Int} (hk:e.k = [z]):qdR m z = some (qV (e.v.headD .nilFunc)):=by
 unfold qdR
 cases hf:m.find? fun x=>x.k == [z] with
 | none =>
  rw [List.find?_eq_none] at hf
  exact absurd (by simpa using hk) (hf e he)
 | some y =>
  have hy:y.k = [z]:=by simpa using List.find?_some hf
  obtain ⟨j,hj⟩:=List.getElem?_of_mem he
  obtain ⟨j',hj'⟩:=List.getElem?_of_mem (List.mem_of_find?_eq_some hf)
  have hjj:=qip hM hj hj' (hk.trans hy.symm)
  rw [hjj,hj'] at hj
  rw [Option.some.inj hj]; rfl
theorem qvm {m:List ME} {c:Nat} {cl:Cl} {o:List Int} {s t:Int} {L Hs:List Int} (hM:MWf mtI m c) (he:∀ i,cl o i = qdR m i) (hr:∀ o i t,cl o i = some t->0 <= i/\i < 16/\0 <= t/\t < 18446744073709551616):m.any (qju o s t L Hs) = qef cl o s t L Hs:=by
 apply Bool.eq_iff_iff.2
 unfold qef
 rw [List.any_eq_true,List.any_eq_true]
 constructor
 ·rintro ⟨e,hem,hb⟩
  obtain ⟨z,hz⟩:=qyy hM hem
  have hg:=quL hM hem hz
  have hc:=(he z).trans hg
  obtain ⟨z0,z1,_⟩:=hr _ _ _ hc
  refine ⟨z.toNat,List.mem_range.2 (by omega),?_⟩
  rw [Int.toNat_of_nonneg z0,hc]
  unfold qju at hb
  rw [hz] at hb
  exact hb
 ·rintro ⟨i,hi,hb⟩
  cases hc:cl o i with
  | none=>rw [hc] at hb; cases hb
  | some tt =>
   rw [hc] at hb
   obtain ⟨e,hem,hk,hv⟩:=q1W ((he i).symm.trans hc)
   refine ⟨e,hem,?_⟩
   unfold qju
   rw [hk,hv]
   exact hb
theorem qxA {h:Hp} {v:Value} {cl:Cl} {bi:Nat} {mo:Option Nat} {since st:Nat} {seen:Array Nat} {X:Obj} (hc:qW h v cl) (hb:h bi = some (.mapIter mo since seen st)):qW (Hp.upd h bi X) v cl:=by
 have hne:∀ {b:Nat} {mt:MT} {l:List ME} {c:Nat},qaW h b mt l c->b ≠ bi:=fun hm he=>by
  rw [he] at hm
  have:=hm.1.symm.trans hb
  simp [MT.obj] at this
 obtain ⟨b,l,c,e,hm,hi,hr⟩:=hc
 exact ⟨b,l,c,e,qdw (hne hm) hm,fun x hx=>by
  obtain ⟨b',m,c',e1,e2,e3,e4⟩:=hi x hx
  exact ⟨b',m,c',e1,e2,qdw (hne e3) e3,e4⟩,hr⟩
theorem q6a {m:List ME} {c:Nat} (hM:MWf mtI m c) {e:ME} (he:e ∈ m) {seen:List Nat} {p:ME->Bool}:((m.filter fun y=>(seen ++ [e.born]).contains y.born).any p) = ((m.filter fun y=>seen.contains y.born).any p || p e):=by
 apply Bool.eq_iff_iff.2
 rw [Bool.or_eq_true,List.any_eq_true,List.any_eq_true]
 constructor
 ·rintro ⟨y,hy,hp⟩
  rw [List.mem_filter] at hy
  obtain ⟨hy1,hy2⟩:=hy
  simp only [List.contains_eq_mem,List.mem_append,List.mem_singleton,decide_eq_true_eq] at hy2
  rcases hy2 with h | h
  ·exact .inl ⟨y,List.mem_filter.2 ⟨hy1,by simpa using h⟩,hp⟩
  ·right
   have:y = e:=by
    obtain ⟨i,hi⟩:=List.getElem?_of_mem hy1
    obtain ⟨j,hj⟩:=List.getElem?_of_mem he
    have hij:i = j:=born_get hM hi hj h
    rw [hij,hj] at hi
    exact (Option.some.inj hi).symm
   rw [<- this]; exact hp
 ·rintro (⟨y,hy,hp⟩ | hp)
  ·rw [List.mem_filter] at hy
   exact ⟨y,List.mem_filter.2 ⟨hy.1,by have:=hy.2; simp only [List.contains_eq_mem,decide_eq_true_eq] at this; simp [this]⟩,hp⟩
  ·exact ⟨e,List.mem_filter.2 ⟨he,by simp⟩,hp⟩
where
 born_get {m:List ME} {c:Nat} (hM:MWf mtI m c) {i j:Nat} {x y:ME} (hi:m[i]? = some x) (hj:m[j]? = some y) (h:x.born = y.born):i = j:=by
  have hp:=List.pairwise_iff_getElem.1 hM.2
  obtain ⟨h1,e1⟩:=List.getElem?_eq_some_iff.1 hi
  obtain ⟨h2,e2⟩:=List.getElem?_eq_some_iff.1 hj
  rcases Nat.lt_trichotomy i j with hlt | heq | hlt
  ·have:=(hp i j h1 h2 hlt).1; rw [e1,e2] at this; omega
  ·exact heq
  ·have:=(hp j i h2 h1 hlt).1; rw [e1,e2] at this; omega
theorem qns {h:Hp} {it:Value} {bi b since st c:Nat} {seen:List Nat} {m:List ME} (hit:it = .pointer (some ⟨bi,0,none⟩)) (hb:h bi = some (.mapIter (some b) since seen.toArray st)) (hM:qaW h b mtI m c):qiq h it = (m.filter fun y=>!(seen.contains y.born)).length:=by
 subst hit
 unfold qiq
 simp only [hb,hM.1,MT.obj,List.toList_toArray,List.contains_toArray]
 rw [List.filter_map,List.length_map]
 rfl
theorem q21 {m:List ME} {e:ME} (he:e ∈ m) {seen:List Nat} (hn:¬ e.born ∈ seen):(m.filter fun y=>!((seen ++ [e.born]).contains y.born)).length < (m.filter fun y=>!(seen.contains y.born)).length:=by
 have h1:(m.filter fun y=>!((seen ++ [e.born]).contains y.born)) = ((m.filter fun y=>!(seen.contains y.born)).filter fun y=>!((seen ++ [e.born]).contains y.born)):=by
  rw [List.filter_filter]
  refine List.filter_congr fun y hy=>?_
  by_cases hs:y.born ∈ seen <;> simp [hs]
 rw [h1]
 refine List.length_filter_lt_length_iff_exists.2 ⟨e,List.mem_filter.2 ⟨he,by simp [hn]⟩,by simp⟩
section
variable {h0 H:Hp} {v it:Value} {o:List Int} {s t:Int} {L Hs:List Int} {cl:Cl}
theorem qtm {bi:Nat} (hc:qW h0 v cl) (hno:∀ i,cl o i = none) (hle:Hp.le h0 H) (hit:it = .pointer (some ⟨bi,0,none⟩)) (hb:H bi = some (.mapIter none 0 #[] 0)):qqy h0 H v it o s t L Hs false:=fun cl' h'=>by
 rw [qhN hc h']
 exact ⟨qyc hc hle,[],[],⟨bi,none,0,0,hit,hb,.inl ⟨rfl,rfl⟩⟩,fun i=>by rw [hno]; rfl,rfl⟩
theorem qta {bi b c:Nat} {m:List ME} (hc:qW h0 v cl) (hm:qaW h0 b mtI m c) (he:∀ i,cl o i = qdR m i) (hle:Hp.le h0 H) (hit:it = .pointer (some ⟨bi,0,none⟩)) (hb:H bi = some (.mapIter (some b) c #[] c)):qqy h0 H v it o s t L Hs false:=fun cl' h'=>by
 rw [qhN hc h']
 have hmH:=qha hm hle
 have hne:bi ≠ b:=fun e=>by
  rw [e] at hb
  have:=hmH.1.symm.trans hb
  simp [MT.obj] at this
 refine ⟨qyc hc hle,m,[],⟨bi,some b,c,c,hit,hb,.inr ⟨b,c,rfl,hne,hmH,Nat.le_refl _,.inl rfl,fun n hn=>by cases hn⟩⟩,he,?_⟩
 have:(m.filter fun e=>([]:List Nat).contains e.born) = []:=by simp
 rw [this]; rfl
theorem q71 {bi b since st c:Nat} {m:List ME} {seen:List Nat} {e:ME} {x y:Bool} (hc:qW h0 v cl) (hcH:qW H v cl) (hit:it = .pointer (some ⟨bi,0,none⟩)) (hb:H bi = some (.mapIter (some b) since seen.toArray st)) (hne:bi ≠ b) (hm:qaW H b mtI m c) (hcs:c <= since) (hseen:∀ n ∈ seen,∃ e ∈ m,e.born = n)
  (he:∀ i,cl o i = qdR m i) (hem:e ∈ m) (hx:x = (m.filter fun e=>seen.contains e.born).any (qju o s t L Hs)) (hy:y = (x || qju o s t L Hs e)):qqy h0 (Hp.upd H bi (.mapIter (some b) since (seen ++ [e.born]).toArray c)) v it o s t L Hs y:=fun cl' h'=>by
 rw [qhN hc h']
 refine ⟨qxA hcH hb,m,seen ++ [e.born],⟨bi,some b,since,c,hit,qib,.inr ⟨b,c,rfl,hne,qdw (Ne.symm hne) hm,hcs,.inr (.inr ⟨e,hem,(hm.2.1 e hem).2.2⟩),fun n hn=>?_⟩⟩,he,?_⟩
 ·rcases List.mem_append.1 hn with h | h
  ·exact hseen n h
  ·rw [List.mem_singleton] at h; exact ⟨e,hem,h.symm⟩
 ·rw [q6a hm.2 hem,<- hx,hy]
theorem q37 {since c:Nat} {m:List ME} {seen:List Nat} {x:Bool} (hM:MWf mtI m c) (hc:qW h0 v cl) (hcH:qW H v cl) (hcs:c <= since) (he:∀ i,cl o i = qdR m i) (hx:x = (m.filter fun e=>seen.contains e.born).any (qju o s t L Hs)) (hall:∀ e ∈ m,e.born < since->e.born ∈ seen) :
  ∀ cl',qW h0 v cl'->qW H v cl'/\x = qef cl' o s t L Hs:=fun cl' h'=>by
 rw [qhN hc h']
 refine ⟨hcH,?_⟩
 have hf:(m.filter fun e=>seen.contains e.born) = m:=List.filter_eq_self.2 fun e hem=>by
  have:=hall e hem (by have:=(hM.1 e hem).2.2; omega)
  simpa using this
 obtain ⟨b,l,c0,rfl,_,_,_,_,hr⟩:=hc
 rw [hf] at hx
 rw [hx]; exact qvm hM he hr
end
end Go.Proofs

set_option linter.unusedSimpArgs false
set_option linter.unusedVariables false
namespace Go.Proofs
open Go Go.Eng
set_option maxRecDepth 20000
theorem q4m:qep.ok Tryz.prog:=q3N (by simp) fun ρ hg hp=>by
 simp (config:={ maxSteps:=4000000 }) [qrv,qep]
 intro u _ v _ b hv hu
 exact ⟨b,[],0,hv,⟨by rw [hu]; simp [Hp.one,MT.obj],fun x hx=>(by cases hx),List.Pairwise.nil⟩,fun x hx=>(by cases hx),fun x hx=>(by cases hx),fun _ _ _=>rfl,fun _ _ _ h=>(by cases h)⟩
theorem q8R:qjd.ok Tryz.prog:=q9g (by simp) fun ρ hg hp=>by
 obtain ⟨h0,h1,h2,h3⟩:=hp
 simp (config:={ maxSteps:=4000000 }) [qyT,qjd]
 have hu:(ρ 0).i <= (ρ 1).i->qc .sub .u64 (ρ 1).i (ρ 0).i = (ρ 1).i - (ρ 0).i:=fun h=>by
  show IntKind.wrap .u64 _ = _
  rw [qmQ]; omega
 refine ⟨fun h=>?_,fun h=>?_⟩
 ·rw [hu h]; unfold qkQ; rw [decide_eq_true h,Bool.true_and]; rfl
 ·unfold qkQ; rw [decide_eq_false (by omega),Bool.false_and]
theorem qvp (d:qe):[qa d 0,qa d 1,qa d 2,qa d 3,qa d 4,qa d 5,qa d 6,qa d 7,qa d 8,qa d 9,qa d 10,qa d 11,qa d 12,qa d 13,qa d 14,qa d 15,qa d 16,qa d 17,qa d 18,qa d 19,qa d 20,qa d 21,qa d 22,qa d 23,qa d 24,qa d 25,qa d 26,qa d 27,qa d 28,qa d 29,qa d 30,qa d 31] = qd d 32:=rfl
theorem qui:(⟨true,[.u8,.u8,.u8,.u8,.u8,.u8,.u8,.u8,.u8,.u8,.u8,.u8,.u8,.u8,.u8,.u8,.u8,.u8,.u8,.u8,.u8,.u8,.u8,.u8,.u8,.u8,.u8,.u8,.u8,.u8,.u8,.u8],false,[.any],[.vnilm]⟩:MT) = mtO:=rfl
theorem quz:(⟨false,[.i64],false,[.int .u64],[.vint .u64 (.lit 0)]⟩:MT) = mtI:=rfl
theorem q6l (ρ:Env):List.map (fun t=>(T.den ρ t).v) mtO.zero = [.map none]:=rfl
theorem q6v (ρ:Env):List.map (fun t=>(T.den ρ t).v) mtI.zero = [.int .u64 0]:=rfl
theorem qsx (row:List Value):qar [row] 0 0 = row.headD .nilFunc:=by cases row <;> rfl
theorem qvB {l:List ME} {k:List Int} {z:List Value} (h:qb9 l k = true):∃ x ∈ l,x.k = k/\qdi l k z = x.v:=by
 obtain ⟨j,x,hj,hk,_,hg⟩:=qfQ (mt:=mtO) (i:=0) h
 exact ⟨x,List.mem_of_getElem? hj,hk,hg z⟩
theorem q5P {cl:Cl} {o:List Int} {i t:Int} (h:qp3 i = false):qeB cl o i t = cl:=by
 unfold qeB
 rw [if_neg (of_decide_eq_false h)]
theorem q4O {l:List ME} {k:List Int} {v z:List Value} {c:Nat} (h:qb9 l k = false):qdi (qbB l k v c).1 k z = v:=by
 have hn:=qkl h
 unfold qbB
 rw [if_neg (by rw [h]; simp)]
 unfold qdi
 simp only
 rw [List.find?_append]
 have:l.find? (fun x=>x.k == k) = none:=by
  rw [List.find?_eq_none]
  intro x hx hk
  exact hn x hx (by simpa using hk)
 rw [this]; simp
theorem qfu {ρ:Env} {l:List SH} {H:Hp} (n t:Nat) (hs:qab ρ l H) (hm:SH.abs n t ∈ l):Hp.le (ρ n).h H:=by
 obtain ⟨hb,lb,db⟩:=qcu hs hm
 exact Hp.le_trans db lb
theorem q1m {ρ:Env} {n m t t':Nat} {H:Hp} (hs:qab ρ [SH.abs n t,SH.abs m t'] H):Hp.disj (ρ n).h (ρ m).h:=by
 obtain ⟨h1,h2,hd,hu,hx,h3,h4,hd2,hu2,hy,_⟩:=hs
 intro b
 cases hb1:(ρ n).h b with
 | none=>exact .inl rfl
 | some X =>
  cases hb2:(ρ m).h b with
  | none=>exact .inr rfl
  | some Y =>
   have e1:=hx.1 b X hb1
   have e2:=hy.1 b Y hb2
   have e3:h2 b = some Y:=by rw [hu2]; simp [Hp.union,e2]
   rcases hd b with h | h
   ·rw [e1] at h; cases h
   ·rw [e3] at h; cases h
theorem q70 {b:Nat}:qt mtO.vpat [.map (some b)]:=⟨rfl,fun c k v hk hv=>by
 cases c with
 | zero=>simp only [mtO,List.getElem?_cons_zero,Option.some.injEq] at hk hv; subst hk hv; rfl
 | succ c=>simp [mtO] at hk⟩
theorem q6F:qfY.ok Tryz.prog:=q7x (by simp [qrk]) fun ρ hg hp=>by
 obtain ⟨⟨cl,hcl⟩,h0,h1⟩:=hp
 have hcl0:=hcl
 simp (config:={ maxSteps:=4000000 }) [qus,qfY,qc2,qvp,qui,quz,qsx,qb,q6l,q6v]
 obtain ⟨b,l,c,hv,hm,hi,hd,hn,hr⟩:=hcl
 intro u _ p _ hp
 refine ⟨fun hpf cl' h'=>by rw [q5P (hp ▸ hpf)]; exact h',fun hpt=>⟨l,.inr ⟨b,hv,c,hm⟩,?_⟩⟩
 have hpp:0 <= (ρ 2).i/\(ρ 2).i < 16:=of_decide_eq_true (hp ▸ hpt:qp3 (ρ 2).i = true)
 cases hh:qb9 l (qd (ρ 1).d 32) with
 | false =>
  refine .inl ⟨by rw [qlx hh]; rfl,fun m _ v _ b' hvv hmh H _ hst=>?_⟩
  obtain ⟨hA,lA,dA⟩:=qcu hst (n:=10) (t:=1003) (by simp)
  obtain ⟨hB,lB,dB⟩:=qcu hst (n:=5) (t:=1003) (by simp)
  have hle:Hp.le (ρ 5).h H.h:=by
   have h:=qfu 5 1003 hst (by simp)
   simpa using h
  have hone:H.h b' = some (.map #[] 0):=by
   have h:=qfu 10 1003 hst (by simp)
   have h:Hp.le m.h H.h:=by simpa using h
   exact h b' _ (by rw [hmh]; simp [Hp.one])
  have hnew:∀ X,(ρ 5).h b' = some X->False:=by
   intro X hX
   have h:=q1m hst
   have h:Hp.disj m.h (ρ 5).h:=by simpa using h
   rcases h b' with h | h
   ·rw [hmh] at h; simp [Hp.one] at h
   ·rw [hX] at h; cases h
  have hbb:b' ≠ b:=fun he=>hnew _ (by rw [he]; exact hm.1)
  have hfree:∀ x ∈ l,x.v ≠ [.map (some b')]:=fun x hx he=>by
   obtain ⟨b3,m3,c3,f1,f2,f3,f4⟩:=hi x hx
   rw [he] at f1
   simp only [List.cons.injEq,Value.map.injEq,Option.some.injEq,and_true] at f1
   exact hnew _ (by rw [f1]; exact f3.1)
  have hmH:=qha hm hle
  have hiH:∀ x ∈ l,∃ b' m c',x.v = [.map (some b')]/\b' ≠ b/\qaW H.h b' mtI m c'/\∀ i,cl x.k i = qdR m i:=fun x hx=>by
   obtain ⟨b3,m3,c3,f1,f2,f3,f4⟩:=hi x hx
   exact ⟨b3,m3,c3,f1,f2,qha f3 hle,f4⟩
  have hput:=q4O (z:=[.map none]) (v:=[v.v]) (c:=c) hh
  have hfit:qt mtO.vpat [v.v]:=by rw [hvv]; exact q70
  refine ⟨b,hv,l,c,hmH,fun u4 _ h4=>⟨(qbB l (qd (ρ 1).d 32) [v.v] c).1,.inr ⟨b,hv,(qbB l (qd (ρ 1).d 32) [v.v] c).2,⟨by rw [h4]; exact qib,qmI hm.2 (by simp [qd,mtO]) hfit⟩⟩,b',by rw [hput,hvv]; rfl,[],0,⟨by rw [h4,qw4 hbb,hone]; rfl,fun x hx=>(by cases hx),List.Pairwise.nil⟩,fun u5 _ h5 cl' h'=>?_⟩⟩
  rw [qhN hcl0 h',h5,hv,h4,hvv]
  exact q5s hmH hiH hd hn hr hh (by simp [qd]) hbb hfree hpp.1 hpp.2 h0 h1
 | true =>
  obtain ⟨x,hx,hk,hgx⟩:=qvB (z:=[.map none]) hh
  obtain ⟨b',m,c',e1,e2,e3,e4⟩:=hi x hx
  refine .inr ⟨⟨b',by rw [hgx,e1]; rfl⟩,l,.inr ⟨b,hv,c,hm⟩,b',by rw [hgx,e1]; rfl,m,c',e3,fun u5 _ h5 cl' h'=>?_⟩
  rw [qhN hcl0 h',h5,hv,<- hk]
  exact q5E hm hi hd hn hr hx e1 e3 hpp.1 hpp.2 h0 h1
theorem qzK:qcr.ok Tryz.prog:=qyA (by simp [qpP,q8R,qlC]) fun ρ hg hp=>by
 obtain ⟨⟨cl,hcl⟩,hO,⟨hl,h1,hr⟩,⟨hl2,h12,hr2⟩,⟨hGr,hGd⟩,t0,t1⟩:=hp
 simp only [Nat.reduceAdd] at hl h1 hr hl2 h12 hr2
 have hcl0:=hcl
 simp (config:={ maxSteps:=4000000 }) [qlW,qcr,qor,qcb,qjd,qaS,qaK,qal,gOk,qvp,qui,quz,qsx,qb,q6l,q6v,hl,hl2,hO,hGr,hGd]
 obtain ⟨b,l,c,hv,hm,hi,hd,hn,hrr⟩:=hcl
 repeat' (first | with_reducible apply And.intro | with_reducible intro _)
 all_goals first
  | omega
  | exact qdn (by assumption) (by assumption)
  | skip
 refine ⟨l,.inr ⟨b,hv,c,hm⟩,?_⟩
 have hstart:∃ (mo:Option Nat) (clock:Nat),((qdi l (qd (ρ 1).d 32) [Value.map none]).head?.getD .nilFunc = .map none/\mo = none/\clock = 0∨∃ b:Nat,(qdi l (qd (ρ 1).d 32) [Value.map none]).head?.getD .nilFunc = .map (some b)/\mo = some b/\∃ l,qaW (ρ 5).h b mtI l clock)/\∀ (H:Hp) (bi:Nat) (it:Value),Hp.le (ρ 5).h H->it = .pointer (some ⟨bi,0,none⟩)->H bi = some (.mapIter mo clock #[] clock)->qqy (ρ 5).h H (ρ 4).v it (qd (ρ 1).d 32) (ρ 2).i (ρ 3).i (qh (ρ 9).d) (qh (ρ 14).d) false:=by
  cases hh:qb9 l (qd (ρ 1).d 32) with
  | false =>
   have hg0:=qlx (z:=[.map none]) hh
   exact ⟨none,0,.inl ⟨by rw [hg0]; rfl,rfl,rfl⟩,fun H bi it hle hit hb=>qtm hcl0 (fun i=>hn _ _ (qkl hh)) hle hit hb⟩
  | true =>
   obtain ⟨x,hx,hk,hgx⟩:=qvB (z:=[.map none]) hh
   obtain ⟨b',m,c',e1,e2,e3,e4⟩:=hi x hx
   exact ⟨some b',c',.inr ⟨b',by rw [hgx,e1]; rfl,rfl,m,e3⟩,fun H bi it hle hit hb=>qta hcl0 e3 (fun i=>by rw [<- hk]; exact e4 i) hle hit hb⟩
 obtain ⟨mo,clock,hmo,hst0⟩:=hstart
 refine ⟨mo,clock,hmo,?_⟩
 intro I1 _ I2 _ bi hit hI1 H _ hst
 have hle:Hp.le I1.h H.h/\Hp.le (ρ 5).h H.h:=by
  have h1:=qfu 54 1003 hst (by simp)
  have h2:=qfu 5 1003 hst (by simp)
  exact ⟨by simpa using h1,by simpa using h2⟩
 have hbi:H.h bi = some (.mapIter mo clock #[] clock):=hle.1 _ _ (by rw [hI1]; simp [Hp.one])
 refine ⟨⟨qcJ (l:=[_,_,_,_,_,_,_,_,_,_,_,_,_,_,_,_]) (by assumption) qb2,qcJ (l:=[_,_,_,_,_,_,_,_,_,_,_,_,_,_,_,_]) (by assumption) qb2,hst0 H.h bi I2.v hle.2 hit hbi⟩,?_⟩
 intro F13 _ F14 _ x _ it _ H2 _ hs13 hs14 hB
 obtain ⟨hcH,m,seen,⟨bi2,mo2,since,stp,hit2,hbi2,hmo2⟩,hco,hx⟩:=hB cl hcl0
 refine ⟨bi2,hit2,since,seen,stp,mo2,hbi2,?_⟩
 rcases hmo2 with ⟨rfl,rfl⟩ | ⟨b2,c2,rfl,hne,hM,hcs,hstt,hseen⟩
 ·exact q37 (m:=[]) (c:=0) (since:=0) ⟨fun x hx=>(by cases hx),List.Pairwise.nil⟩ hcl0 hcH (Nat.le_refl _) hco hx (fun e he=>by cases he)
 ·refine ⟨m,c2,hM,hstt,fun hall=>q37 hM.2 hcl0 hcH hcs hco hx hall,fun e he hns u2 _ hu2=>⟨bi2,hit2,since,seen,c2,b2,m,e,by rw [hu2]; exact qib,by rw [hu2]; exact qdw (Ne.symm hne) hM,he,?_⟩⟩
  have hbl:∀ y:Bool,y = (x.b || qju (qd (ρ 1).d 32) (ρ 2).i (ρ 3).i (qh (ρ 9).d) (qh (ρ 14).d) e)->qqy (ρ 5).h u2.h (ρ 4).v it.v (qd (ρ 1).d 32) (ρ 2).i (ρ 3).i (qh (ρ 9).d) (qh (ρ 14).d) y:=fun y hy=>by
   rw [hu2]; exact q71 hcl0 hcH hit2 hbi2 hne hM hcs hseen hco he hx hy
  have hless:qiq u2.h it.v < qiq H2.h it.v:=by
   rw [qns (h:=H2.h) hit2 hbi2 hM,qns (h:=u2.h) (seen:=seen ++ [e.born]) hit2 (by rw [hu2]; exact qib) (by rw [hu2]; exact qdw (Ne.symm hne) hM)]
   exact q21 he hns
  obtain ⟨z,hz⟩:=qyy hM.2 he
  have hg:=(hco z).trans (quL hM.2 he hz)
  obtain ⟨z0,z1,v0,v1⟩:=hrr _ _ _ hg
  have hcv:qa [e.v] 0 = qV (e.v.headD .nilFunc):=by unfold qa; cases e.v <;> rfl
  have hbe:∀ a b c d:Bool,a = qkQ (qV (e.v.headD .nilFunc)) (ρ 3).i->b = decide (z ∈ qh (ρ 9).d)->c = decide (z ∈ qh (ρ 14).d)->d = qA (qd (ρ 1).d 32) z (ρ 2).i->qju (qd (ρ 1).d 32) (ρ 2).i (ρ 3).i (qh (ρ 9).d) (qh (ρ 14).d) e = (a && b && !c && d):=by
   intro a b c d ha hb hc hd
   unfold qju
   rw [hz,ha,hb,hc,hd,List.headD_cons]
  have hkx:qa [qU [IntKind.i64] e.k] 0 = z:=by rw [hz]; rfl
  have hkx':qa [qU mtI.kks e.k] 0 = z:=hkx
  rw [hcv,hkx']
  have hB:=fun (r:U) (hr':r.b = qkQ (qV (e.v.headD .nilFunc)) (ρ 3).i)=>hbe r.b (decide (z ∈ qh (ρ 9).d)) (decide (z ∈ qh (ρ 14).d)) (qA (qd (ρ 1).d 32) z (ρ 2).i) hr' rfl rfl rfl
  refine ⟨fun hxt=>⟨⟨hs13,hs14,hbl true (by rw [hxt,Bool.true_or])⟩,hless⟩,fun hxf=>⟨⟨v0,v1,t0,t1⟩,fun r _ hr'=>⟨fun hrt=>⟨z0,z1,qnI hs14,fun hf14=>⟨qnI hs13,fun hf13 w _ hw=>⟨⟨hs13,hs14,hbl w.b ?_⟩,hless⟩,fun hf13=>⟨⟨hs13,hs14,hbl false ?_⟩,hless⟩⟩,fun hf14=>⟨⟨hs13,hs14,hbl false ?_⟩,hless⟩⟩,fun hrf=>⟨⟨hs13,hs14,hbl false ?_⟩,hless⟩⟩⟩⟩
  ·rw [hxf,hB r hr',hrt,decide_eq_true ((qdt hs14 qb2 z0 z1).1 hf14),decide_eq_false (qgs hs13 qb2 z0 z1 hf13),hw]; generalize qA (qd (ρ 1).d 32) z (ρ 2).i = q; cases q <;> rfl
  ·rw [hxf,hB r hr',hrt,decide_eq_true ((qdt hs14 qb2 z0 z1).1 hf14),decide_eq_true ((qdt hs13 qb2 z0 z1).1 hf13)]; generalize qA (qd (ρ 1).d 32) z (ρ 2).i = q; cases q <;> rfl
  ·rw [hxf,hB r hr',hrt,decide_eq_false (qgs hs14 qb2 z0 z1 hf14)]; generalize qA (qd (ρ 1).d 32) z (ρ 2).i = q; cases q <;> rfl
  ·rw [hxf,hB r hr',hrf]; generalize qA (qd (ρ 1).d 32) z (ρ 2).i = q; cases q <;> simp
end Go.Proofs

set_option linter.unusedSimpArgs false
set_option linter.unusedVariables false
set_option maxRecDepth 100000
namespace Go.Proofs
open Go Go.Eng

def qqL:Out:=(.fresh 1 (.fresh 2 (.ret 0 (sg 1 [bg 1 2]))))
theorem q0r:qk ⟨Tryz.prog,qew,[],[]⟩ 100000 Tryz.f45 = qqL:=by kernel_rfl
theorem q5Z (hd:∀ c ∈ ([]:List Ctr),c.ok Tryz.prog) (h:∀ ρ:Env,ρ.good->(qew).pre ρ->qqL.den ⟨Tryz.prog,qew,[],[]⟩ ρ):(qew).ok Tryz.prog :=
 qf Tryz.func45 (fun a w=>Tryz.call45 a w) hd 100000 (fun ρ hg hp=>by rw [q0r]; exact h ρ hg hp)
def qqW:Out:=(.br (.not (.and (.cmp .eql (.dlen (.var 3)) (.lit 0)) (.isnil 2)))
 (.need (.cmp .leq (.lit 0) (.var 6)) (.need (.cmp .lss (.lit 0) (.dlen (.var 3))) (.ret 0 (sg 10 [bt 10 (.cmp .geq (.var 6) (.icell (.var 3) (.lit 0) 0))]))))
 (.ret 0 (sg 10 [bt 10 (.bl false)])))
theorem qzB:qk ⟨Tryz.prog,qcz,[],[]⟩ 100000 Tryz.f47 = qqW:=by kernel_rfl
theorem q4p (hd:∀ c ∈ ([]:List Ctr),c.ok Tryz.prog) (h:∀ ρ:Env,ρ.good->(qcz).pre ρ->qqW.den ⟨Tryz.prog,qcz,[],[]⟩ ρ):(qcz).ok Tryz.prog :=
 qf Tryz.func47 (fun a w=>Tryz.call47 a w) hd 100000 (fun ρ hg hp=>by rw [qzB]; exact h ρ hg hp)
def qwl:Out:=(.fresh 10 (.need (.cmp .leq (.lit 0) (.var 6)) (.inv 0 11 (sg 1000 [bt 1003 .dnil,bt 1004 (.lit 0),bt 1002 (.lit 0),bt 1001 (.lit 0),bg 1000 10]) (.fresh 11 (.fresh 12 (.fresh 13 (.fresh 14 (.fresh 15 (.hyp 0 11 (.br (.cmp .lss (.var 15) (.var 6))
 (.need (.cmp .leq (.lit 0) (.var 15)) (.need (.cmp .lss (.var 15) (.dlen (.var 8))) (.fresh 16 (.fresh 17 (.need (.cmp .eql (.var 12) (.dlen (.var 14))) (.need (.cmp .leq (.tims (.lit 8) (.plus (.var 12) (.lit 1))) (.lit 140737488355328)) (.fresh 18 (.fresh 19 (.back 0 11 (sg 1000 [bt 1003 (.dapp (.var 14) (.rcons (.vint .i64 (.icell (.var 8) (.var 15) 0)) .rnil)),bt 1004 (.arith .add .i64 (.var 15) (.lit 1)),bv 1002 19,bt 1001 (.plus (.var 12) (.lit 1)),bg 1000 18]))))))))))
 (.ret 0 (sg 10 [bv 13 14,bv 12 13,bv 11 12,bg 10 11]))))))))))))
theorem q2p:qk ⟨Tryz.prog,qdy,[],[qyN]⟩ 100000 Tryz.f55 = qwl:=by kernel_rfl
theorem q6G (hd:∀ c ∈ ([]:List Ctr),c.ok Tryz.prog) (h:∀ ρ:Env,ρ.good->(qdy).pre ρ->qwl.den ⟨Tryz.prog,qdy,[],[qyN]⟩ ρ):(qdy).ok Tryz.prog :=
 qf Tryz.func55 (fun a w=>Tryz.call55 a w) hd 100000 (fun ρ hg hp=>by rw [q2p]; exact h ρ hg hp)
def qnE:Out:=(.br (.and (.cmp .eql (.dlen (.var 3)) (.lit 0)) (.isnil 0))
 (.need (.cmp .eql (.var 1) (.lit 0)) (.ret 0 (sg 5 [bt 7 .dnil,bt 6 (.lit 0),(5,.nil)])))
 (.fresh 5 (.need (.cmp .leq (.lit 0) (.var 1)) (.need (.cmp .leq (.var 1) (.dlen (.var 3))) (.need (.cmp .leq (.tims (.lit 32) (.var 1)) (.lit 140737488355328)) (.fresh 6 (.fresh 7 (.ret 0 (sg 5 [bt 7 (.dtake (.var 3) (.var 1)),bv 6 7,bg 5 6])))))))))
theorem qx8:qk ⟨Tryz.prog,qdD,[],[]⟩ 100000 Tryz.f90 = qnE:=by kernel_rfl
theorem q22 (hd:∀ c ∈ ([]:List Ctr),c.ok Tryz.prog) (h:∀ ρ:Env,ρ.good->(qdD).pre ρ->qnE.den ⟨Tryz.prog,qdD,[],[]⟩ ρ):(qdD).ok Tryz.prog :=
 qf Tryz.func90 (fun a w=>Tryz.call90 a w) hd 100000 (fun ρ hg hp=>by rw [qx8]; exact h ρ hg hp)
@[simp] def qi0:Sg:=sg 0 [bg 9 9,bv 8 8,bv 4 4,bv 3 3,bv 7 7,bv 6 6,bg 5 5,bg 2 2,bt 1 (r8 1),bg 0 0]
@[simp] def qsK:Sg:=sg 0 [bv 11 27,bv 9 19,bv 8 18,bv 7 17,bv 6 16,bg 5 15,bv 3 13,bv 2 12,bv 1 11,bv 0 10,bt 4 (r8 14),bg 10 26]
@[simp] def qsq:Sg:=sg 0 [bv 17 27,bv 15 25,bv 14 24,bv 9 19,bv 8 18,bv 13 23,bv 12 22,bg 11 21,bv 10 20,bv 7 17,bv 6 16,bg 5 15,bv 3 13,bv 2 12,bv 1 11,bv 0 10,bt 4 (r8 14),bg 16 26]
def qrP:Out:=(.fresh 28 (.fresh 29 (.pre 0 qsK (.both (.fresh 30 (.fresh 31 (.post 0 0 qsK 30 (.fresh 32 (.br (.cmp .neq (.var 31) (.lit 0))
 (.pack [.cells 32 24 [(x8 0 30),(x8 1 30),(x8 2 30),(x8 3 30),(x8 4 30),(x8 5 30),(x8 6 30),(x8 7 30),(x8 8 30),(x8 9 30),(x8 10 30),(x8 11 30),(x8 12 30),(x8 13 30),(x8 14 30),(x8 15 30),(x8 16 30),(x8 17 30),(x8 18 30),(x8 19 30),(x8 20 30),(x8 21 30),(x8 22 30),(x8 23 30),(x8 24 30),(x8 25 30),(x8 26 30),(x8 27 30),(x8 28 30),(x8 29 30),(x8 30 30),(x8 31 30)],.cells 29 86 [(.vint .i64 (.var 20)),(.vslice 21 (.lit 0) (.var 22) (.var 23) 1)],.cells 28 27 [(.vint .i64 (.var 10)),(.vint .i64 (.var 11)),(.vint .i64 (.var 12)),(.vint .i64 (.var 13)),(x8 0 14),(x8 1 14),(x8 2 14),(x8 3 14),(x8 4 14),(x8 5 14),(x8 6 14),(x8 7 14),(x8 8 14),(x8 9 14),(x8 10 14),(x8 11 14),(x8 12 14),(x8 13 14),(x8 14 14),(x8 15 14),(x8 16 14),(x8 17 14),(x8 18 14),(x8 19 14),(x8 20 14),(x8 21 14),(x8 22 14),(x8 23 14),(x8 24 14),(x8 25 14),(x8 26 14),(x8 27 14),(x8 28 14),(x8 29 14),(x8 30 14),(x8 31 14),(.vslice 15 (.lit 0) (.var 16) (.var 17) 32)],.abs 9 20] 33 (.ret 0 (sg 28 [bg 35 33,bv 34 8,bv 30 4,bv 29 3,bv 33 7,bv 32 6,bg 31 5,bg 28 2,bv 36 31])))
 (.br (.not (.c2 .req (r8 30) (r8 1)))
 (.pack [.cells 32 24 [(x8 0 30),(x8 1 30),(x8 2 30),(x8 3 30),(x8 4 30),(x8 5 30),(x8 6 30),(x8 7 30),(x8 8 30),(x8 9 30),(x8 10 30),(x8 11 30),(x8 12 30),(x8 13 30),(x8 14 30),(x8 15 30),(x8 16 30),(x8 17 30),(x8 18 30),(x8 19 30),(x8 20 30),(x8 21 30),(x8 22 30),(x8 23 30),(x8 24 30),(x8 25 30),(x8 26 30),(x8 27 30),(x8 28 30),(x8 29 30),(x8 30 30),(x8 31 30)],.cells 29 86 [(.vint .i64 (.var 20)),(.vslice 21 (.lit 0) (.var 22) (.var 23) 1)],.cells 28 27 [(.vint .i64 (.var 10)),(.vint .i64 (.var 11)),(.vint .i64 (.var 12)),(.vint .i64 (.var 13)),(x8 0 14),(x8 1 14),(x8 2 14),(x8 3 14),(x8 4 14),(x8 5 14),(x8 6 14),(x8 7 14),(x8 8 14),(x8 9 14),(x8 10 14),(x8 11 14),(x8 12 14),(x8 13 14),(x8 14 14),(x8 15 14),(x8 16 14),(x8 17 14),(x8 18 14),(x8 19 14),(x8 20 14),(x8 21 14),(x8 22 14),(x8 23 14),(x8 24 14),(x8 25 14),(x8 26 14),(x8 27 14),(x8 28 14),(x8 29 14),(x8 30 14),(x8 31 14),(.vslice 15 (.lit 0) (.var 16) (.var 17) 32)],.abs 9 20] 33 (.ret 0 (sg 28 [bg 35 33,bv 34 8,bv 30 4,bv 29 3,bv 33 7,bv 32 6,bg 31 5,bg 28 2,bt 36 (.lit 20)])))
 (.pre 1 qsq (.both (.fresh 33 (.post 1 0 qsq 33 (.br (.cmp .neq (.var 33) (.lit 0))
 (.pack [.cells 32 24 [(x8 0 30),(x8 1 30),(x8 2 30),(x8 3 30),(x8 4 30),(x8 5 30),(x8 6 30),(x8 7 30),(x8 8 30),(x8 9 30),(x8 10 30),(x8 11 30),(x8 12 30),(x8 13 30),(x8 14 30),(x8 15 30),(x8 16 30),(x8 17 30),(x8 18 30),(x8 19 30),(x8 20 30),(x8 21 30),(x8 22 30),(x8 23 30),(x8 24 30),(x8 25 30),(x8 26 30),(x8 27 30),(x8 28 30),(x8 29 30),(x8 30 30),(x8 31 30)],.cells 29 86 [(.vint .i64 (.var 20)),(.vslice 21 (.lit 0) (.var 22) (.var 23) 1)],.cells 28 27 [(.vint .i64 (.var 10)),(.vint .i64 (.var 11)),(.vint .i64 (.var 12)),(.vint .i64 (.var 13)),(x8 0 14),(x8 1 14),(x8 2 14),(x8 3 14),(x8 4 14),(x8 5 14),(x8 6 14),(x8 7 14),(x8 8 14),(x8 9 14),(x8 10 14),(x8 11 14),(x8 12 14),(x8 13 14),(x8 14 14),(x8 15 14),(x8 16 14),(x8 17 14),(x8 18 14),(x8 19 14),(x8 20 14),(x8 21 14),(x8 22 14),(x8 23 14),(x8 24 14),(x8 25 14),(x8 26 14),(x8 27 14),(x8 28 14),(x8 29 14),(x8 30 14),(x8 31 14),(.vslice 15 (.lit 0) (.var 16) (.var 17) 32)],.abs 9 20] 34 (.ret 0 (sg 28 [bg 35 34,bv 34 8,bv 30 4,bv 29 3,bv 33 7,bv 32 6,bg 31 5,bg 28 2,bv 36 33])))
 (.both (.pre 2 qi0 (.both (.fresh 34 (.fresh 35 (.fresh 36 (.fresh 37 (.post 2 0 qi0 34 (.both (.pre 3 (sg 0 [bv 4 36,bv 3 37,bv 5 20,bv 2 36,bv 1 35,bg 0 34]) (.both (.fresh 38 (.post 3 0 (sg 0 [bv 4 36,bv 3 37,bv 5 20,bv 2 36,bv 1 35,bg 0 34]) 38 (.br (.var 38)
 (.pack [.arr 34 3 [CK.int .i64] (.var 37) (.var 36),.cells 32 24 [(x8 0 30),(x8 1 30),(x8 2 30),(x8 3 30),(x8 4 30),(x8 5 30),(x8 6 30),(x8 7 30),(x8 8 30),(x8 9 30),(x8 10 30),(x8 11 30),(x8 12 30),(x8 13 30),(x8 14 30),(x8 15 30),(x8 16 30),(x8 17 30),(x8 18 30),(x8 19 30),(x8 20 30),(x8 21 30),(x8 22 30),(x8 23 30),(x8 24 30),(x8 25 30),(x8 26 30),(x8 27 30),(x8 28 30),(x8 29 30),(x8 30 30),(x8 31 30)],.cells 29 86 [(.vint .i64 (.var 20)),(.vslice 21 (.lit 0) (.var 22) (.var 23) 1)],.cells 28 27 [(.vint .i64 (.var 10)),(.vint .i64 (.var 11)),(.vint .i64 (.var 12)),(.vint .i64 (.var 13)),(x8 0 14),(x8 1 14),(x8 2 14),(x8 3 14),(x8 4 14),(x8 5 14),(x8 6 14),(x8 7 14),(x8 8 14),(x8 9 14),(x8 10 14),(x8 11 14),(x8 12 14),(x8 13 14),(x8 14 14),(x8 15 14),(x8 16 14),(x8 17 14),(x8 18 14),(x8 19 14),(x8 20 14),(x8 21 14),(x8 22 14),(x8 23 14),(x8 24 14),(x8 25 14),(x8 26 14),(x8 27 14),(x8 28 14),(x8 29 14),(x8 30 14),(x8 31 14),(.vslice 15 (.lit 0) (.var 16) (.var 17) 32)],.abs 9 20] 39 (.ret 0 (sg 28 [bg 35 39,bv 34 8,bv 30 4,bv 29 3,bv 33 7,bv 32 6,bg 31 5,bg 28 2,bt 36 (.lit 7)])))
 (.pre 4 qi0 (.both (.fresh 39 (.post 4 0 qi0 39 (.br (.var 39)
 (.pack [.arr 34 3 [CK.int .i64] (.var 37) (.var 36),.cells 32 24 [(x8 0 30),(x8 1 30),(x8 2 30),(x8 3 30),(x8 4 30),(x8 5 30),(x8 6 30),(x8 7 30),(x8 8 30),(x8 9 30),(x8 10 30),(x8 11 30),(x8 12 30),(x8 13 30),(x8 14 30),(x8 15 30),(x8 16 30),(x8 17 30),(x8 18 30),(x8 19 30),(x8 20 30),(x8 21 30),(x8 22 30),(x8 23 30),(x8 24 30),(x8 25 30),(x8 26 30),(x8 27 30),(x8 28 30),(x8 29 30),(x8 30 30),(x8 31 30)],.cells 29 86 [(.vint .i64 (.var 20)),(.vslice 21 (.lit 0) (.var 22) (.var 23) 1)],.cells 28 27 [(.vint .i64 (.var 10)),(.vint .i64 (.var 11)),(.vint .i64 (.var 12)),(.vint .i64 (.var 13)),(x8 0 14),(x8 1 14),(x8 2 14),(x8 3 14),(x8 4 14),(x8 5 14),(x8 6 14),(x8 7 14),(x8 8 14),(x8 9 14),(x8 10 14),(x8 11 14),(x8 12 14),(x8 13 14),(x8 14 14),(x8 15 14),(x8 16 14),(x8 17 14),(x8 18 14),(x8 19 14),(x8 20 14),(x8 21 14),(x8 22 14),(x8 23 14),(x8 24 14),(x8 25 14),(x8 26 14),(x8 27 14),(x8 28 14),(x8 29 14),(x8 30 14),(x8 31 14),(.vslice 15 (.lit 0) (.var 16) (.var 17) 32)],.abs 9 20] 40 (.ret 0 (sg 28 [bg 35 40,bv 34 8,bv 30 4,bv 29 3,bv 33 7,bv 32 6,bg 31 5,bg 28 2,bt 36 (.lit 8)])))
 (.pre 5 (sg 0 [bv 4 19,bv 3 18,bv 2 17,bv 1 16,bg 0 15]) (.both (.fresh 40 (.fresh 41 (.fresh 42 (.post 5 0 (sg 0 [bv 4 19,bv 3 18,bv 2 17,bv 1 16,bg 0 15]) 40 (.both (.pre 6 (sg 0 [bv 4 25,bv 3 24,bv 2 23,bv 1 22,bg 0 21]) (.both (.fresh 43 (.fresh 44 (.fresh 45 (.post 6 0 (sg 0 [bv 4 25,bv 3 24,bv 2 23,bv 1 22,bg 0 21]) 43 (.both (.both (.fresh 46 (.both (.need (.cmp .eql (.var 6) (.dlen (.var 8))) (.need (.cmp .leq (.tims (.lit 32) (.plus (.var 6) (.lit 1))) (.lit 140737488355328)) (.fresh 47 (.fresh 48 (.both (.both (.both (.pack [.cells 46 86 [(.vint .i64 (.var 20)),(.vslice 43 (.lit 0) (.var 22) (.var 44) 1)],.arr 43 5 [CK.int .u8] (.var 45) (.var 44),.arr 40 24 [CK.int .u8,CK.int .u8,CK.int .u8,CK.int .u8,CK.int .u8,CK.int .u8,CK.int .u8,CK.int .u8,CK.int .u8,CK.int .u8,CK.int .u8,CK.int .u8,CK.int .u8,CK.int .u8,CK.int .u8,CK.int .u8,CK.int .u8,CK.int .u8,CK.int .u8,CK.int .u8,CK.int .u8,CK.int .u8,CK.int .u8,CK.int .u8,CK.int .u8,CK.int .u8,CK.int .u8,CK.int .u8,CK.int .u8,CK.int .u8,CK.int .u8,CK.int .u8] (.var 42) (.var 41),.arr 34 3 [CK.int .i64] (.var 37) (.var 36),.cells 32 24 [(x8 0 30),(x8 1 30),(x8 2 30),(x8 3 30),(x8 4 30),(x8 5 30),(x8 6 30),(x8 7 30),(x8 8 30),(x8 9 30),(x8 10 30),(x8 11 30),(x8 12 30),(x8 13 30),(x8 14 30),(x8 15 30),(x8 16 30),(x8 17 30),(x8 18 30),(x8 19 30),(x8 20 30),(x8 21 30),(x8 22 30),(x8 23 30),(x8 24 30),(x8 25 30),(x8 26 30),(x8 27 30),(x8 28 30),(x8 29 30),(x8 30 30),(x8 31 30)],.cells 29 86 [(.vint .i64 (.var 20)),(.vslice 21 (.lit 0) (.var 22) (.var 23) 1)],.arr 2 27 [CK.int .i64,CK.int .i64,CK.int .i64,CK.int .i64,CK.int .u8,CK.int .u8,CK.int .u8,CK.int .u8,CK.int .u8,CK.int .u8,CK.int .u8,CK.int .u8,CK.int .u8,CK.int .u8,CK.int .u8,CK.int .u8,CK.int .u8,CK.int .u8,CK.int .u8,CK.int .u8,CK.int .u8,CK.int .u8,CK.int .u8,CK.int .u8,CK.int .u8,CK.int .u8,CK.int .u8,CK.int .u8,CK.int .u8,CK.int .u8,CK.int .u8,CK.int .u8,CK.int .u8,CK.int .u8,CK.int .u8,CK.int .u8,CK.any] (.var 3) (.var 4),.abs 9 20] 49 (.ret 0 (sg 28 [bg 35 49,bt 34 (.dapp (.var 8) (.rcons (.vint .i64 (.var 20)) (.rcons (.vslice 43 (.lit 0) (.var 22) (.var 44) 1) .rnil))),bt 30 (.lit 1),bt 29 (.rcons (.vint .i64 (.var 10)) (.rcons (.vint .i64 (.var 11)) (.rcons (.vint .i64 (.var 12)) (.rcons (.vint .i64 (.var 13)) (.rcons (x8 0 14) (.rcons (x8 1 14) (.rcons (x8 2 14) (.rcons (x8 3 14) (.rcons (x8 4 14) (.rcons (x8 5 14) (.rcons (x8 6 14) (.rcons (x8 7 14) (.rcons (x8 8 14) (.rcons (x8 9 14) (.rcons (x8 10 14) (.rcons (x8 11 14) (.rcons (x8 12 14) (.rcons (x8 13 14) (.rcons (x8 14 14) (.rcons (x8 15 14) (.rcons (x8 16 14) (.rcons (x8 17 14) (.rcons (x8 18 14) (.rcons (x8 19 14) (.rcons (x8 20 14) (.rcons (x8 21 14) (.rcons (x8 22 14) (.rcons (x8 23 14) (.rcons (x8 24 14) (.rcons (x8 25 14) (.rcons (x8 26 14) (.rcons (x8 27 14) (.rcons (x8 28 14) (.rcons (x8 29 14) (.rcons (x8 30 14) (.rcons (x8 31 14) (.rcons (.vslice 40 (.lit 0) (.var 16) (.var 41) 32) .rnil))))))))))))))))))))))))))))))))))))),bv 33 48,bt 32 (.plus (.var 6) (.lit 1)),bg 31 47,bg 28 28,bt 36 (.lit 0)]))) .top) .top) .top))))) .top)) .top) .top))))) .top)) .top))))) .top))))) .top))))) .top)) .top)))))) .top)) .top)))) .top)))))))) .top))))
theorem qyS:qk ⟨Tryz.prog,qei,[idC,qdN,qdy,qaR,qcz,qdD,qbU],[]⟩ 100000 Tryz.f48 = qrP:=by kernel_rfl
theorem q4r (hd:∀ c ∈ ([idC,qdN,qdy,qaR,qcz,qdD,qbU]:List Ctr),c.ok Tryz.prog) (h:∀ ρ:Env,ρ.good->(qei).pre ρ->qrP.den ⟨Tryz.prog,qei,[idC,qdN,qdy,qaR,qcz,qdD,qbU],[]⟩ ρ):(qei).ok Tryz.prog :=
 qf Tryz.func48 (fun a w=>Tryz.call48 a w) hd 100000 (fun ρ hg hp=>by rw [qyS]; exact h ρ hg hp)
end Go.Proofs

set_option linter.unusedSimpArgs false
set_option linter.unusedVariables false
namespace Go.Proofs
open Go Go.Eng
set_option maxRecDepth 20000
theorem q3S:qew.ok Tryz.prog:=q5Z (by simp) fun ρ hg hp=>by
 simp (config:={ maxSteps:=4000000 }) [qqL,qew]
theorem q3s:qdD.ok Tryz.prog:=q22 (by simp) fun ρ hg hp=>by
 obtain ⟨h0,hl,h1⟩:=hp
 simp (config:={ maxSteps:=4000000 }) [qnE,qdD,hl]
 exact ⟨fun h _=>h,fun _=>by omega⟩
section
variable {h:Hp} {r:Option Addr} {d P:qe} {c n:Int} {M M':Option ManV} {L L':PcL}
theorem q5R (h1:qpw h P L) (h2:qpw h P L'):L = L':=by
 refine List.ext_getElem? fun j=>?_
 by_cases hj:j < P.length
 ·have e:=(h1.2.2 j hj).symm.trans (h2.2.2 j hj)
  rw [List.getD_eq_getElem?_getD,List.getD_eq_getElem?_getD,List.getElem?_eq_getElem (by have:=h1.1; omega),List.getElem?_eq_getElem (by have:=h2.1; omega)] at e
  rw [List.getElem?_eq_getElem (by have:=h1.1; omega),List.getElem?_eq_getElem (by have:=h2.1; omega)]
  exact congrArg some e
 ·rw [List.getElem?_eq_none (by have:=h1.1; omega),List.getElem?_eq_none (by have:=h2.1; omega)]
theorem q5w {m m':ManV} (h1:qhW h d m) (h2:qhW h d m'):m = m':=by
 obtain ⟨row,D,e,hf,hr,hD,a1,a2,a3,a4,a5,a6,_,_⟩:=h1
 obtain ⟨row',D',e',hf',hr',hD',b1,b2,b3,b4,b5,b6,_,_⟩:=h2
 rw [e] at e'
 simp only [List.cons.injEq,and_true] at e'
 subst e'
 obtain rfl:=qs5 hr hr'
 obtain ⟨k,n,t,s,o,D1⟩:=m
 obtain ⟨k',n',t',s',o',D1'⟩:=m'
 simp only at a1 a2 a3 a4 a5 a6 b1 b2 b3 b4 b5 b6
 simp only [ManV.mk.injEq]
 exact ⟨by rw [<- a2,<- b2],by rw [<- a3,<- b3],by rw [<- a4,<- b4],by rw [<- a5,<- b5],by rw [<- a6,<- b6],by rw [<- a1,<- b1]⟩
theorem qqI (h1:qcc h r d c n P M L) (h2:qcc h r d c n P M' L'):M' = M/\L' = L:=by
 obtain ⟨_,p1,_,_,q1⟩:=h1
 obtain ⟨_,p2,_,_,q2⟩:=h2
 refine ⟨?_,(q5R p1 p2).symm⟩
 rcases q1 with ⟨rfl,_,c0,_⟩ | ⟨m,rfl,c1,hm,_⟩ <;> rcases q2 with ⟨rfl,_,c0',_⟩ | ⟨m',rfl,c1',hm',_⟩
 ·rfl
 ·omega
 ·omega
 ·rw [q5w hm hm']
theorem q9i (h1:qcc h r d c n P M L):qhy P P.length = L.map Prod.fst:=by
 obtain ⟨_,p1,_⟩:=h1
 refine List.ext_getElem? fun j=>?_
 by_cases hj:j < P.length
 ·have e:=congrArg Prod.fst (p1.2.2 j hj)
  rw [List.getD_eq_getElem?_getD,List.getElem?_eq_getElem (by have:=p1.1; omega)] at e
  rw [qhy,List.getElem?_map,List.getElem?_range hj,List.getElem?_map,List.getElem?_eq_getElem (by have:=p1.1; omega)]
  exact congrArg some e
 ·rw [List.getElem?_eq_none (by simp [qhy]; omega),List.getElem?_eq_none (by rw [List.length_map]; have:=p1.1; omega)]
theorem q3U {i:Nat}:qhy P (i + 1) = qhy P i ++ [pcI P i]:=by
 unfold qhy
 rw [List.range_succ,List.map_append]; rfl
end
theorem quR:qcz.ok Tryz.prog:=q4p (by simp) fun ρ hg hp=>by
 obtain ⟨M,L,h⟩:=hp
 simp (config:={ maxSteps:=4000000 }) [qqW,qcz,gaB]
 have h0:qcc (ρ 9).h (ρ 2).r (ρ 3).d (ρ 4).i (ρ 6).i (ρ 8).d M L:=h
 obtain ⟨hn,hp,_,_,hc⟩:=h
 rcases hc with ⟨rfl,hr,c0,hd,hL⟩ | ⟨m,rfl,c1,hm,hL⟩
 ·refine ⟨fun hcon=>?_,fun _ _ M' L' h'=>?_⟩
  ·rw [hd,hr] at hcon; simp at hcon
  ·obtain ⟨rfl,rfl⟩:=qqI h0 h'; rfl
 ·obtain ⟨row,D,e,hf,hrd,hD,a1,a2,_⟩:=hm
  have e:(ρ 3).d = [row]:=e
  refine ⟨fun _=>⟨by have hn':(ρ 6).i = ((ρ 8).d.length:Int):=hn; omega,by rw [e]; exact Nat.one_pos,fun M' L' h'=>?_⟩,fun hd _=>by rw [e] at hd; cases hd⟩
  obtain ⟨rfl,rfl⟩:=qqI h0 h'
  have hk:qg (ρ 3).d 0 0 = m.k:=by rw [<- a2,e]; rfl
  have hn':(ρ 6).i = ((ρ 8).d.length:Int):=hn
  have hp1:(ρ 8).d.length = L'.length:=hp.1
  rw [hk,hn',hp1]; rfl
theorem qxU:qdy.ok Tryz.prog:=q6G (by simp) fun ρ hg hp=>by
 obtain ⟨M,L,h⟩:=hp
 have h0:qcc (ρ 9).h (ρ 2).r (ρ 3).d (ρ 4).i (ρ 6).i (ρ 8).d M L:=h
 obtain ⟨hn,hp,_,h255,hc⟩:=h
 have hpl:=hp.1
 simp (config:={ maxSteps:=4000000 }) [qwl,qdy,qyN,qa4,gaB]
 have hn:(ρ 6).i = ((ρ 8).d.length:Int):=hn
 have hpl:(ρ 8).d.length = L.length:=hpl
 refine ⟨by omega,⟨by omega,rfl⟩,fun a _ D _ i _ i0 i1 ha hD hr=>⟨fun hi=>?_,fun hi M' L' h'=>?_⟩⟩
 ·have hDl:D.d.length = i.i.toNat:=by
   have:=congrArg List.length hD
   rw [qB] at this
   simpa [qhy] using this
  have hnx:(qc .add .i64 i.i 1).toNat = i.i.toNat + 1:=by rw [qbo i0 (by omega)]; omega
  refine ⟨i0,by omega,ha,by omega,⟨by rw [qbo i0 (by omega)]; omega,by rw [qbo i0 (by omega)]; omega,ha,?_,fun row h=>qj8 h hr⟩,by rw [qbo i0 (by omega)]; omega⟩
  rw [hnx,q3U,qfA,hD]
  unfold pcI
  rw [Int.toNat_of_nonneg i0]
 ·obtain ⟨rfl,rfl⟩:=qqI h0 h'
  refine ⟨ha,?_,hr⟩
  rw [hD,<- q9i h0,show i.i.toNat = (ρ 8).d.length by omega]
section
variable {h h':Hp} {r:Option Addr} {d P:qe} {c n e i:Int} {M:Option ManV} {L:PcL} {o b:List Int} {m:ManV}
theorem q5K (h1:qpw h P L) (hl:Hp.le h h'):qpw h' P L:=by
 refine ⟨h1.1,fun j hj=>?_,fun j hj=>?_⟩
 ·obtain ⟨i,v,d,e1,e2,e3⟩:=h1.2.1 j hj
  exact ⟨i,v,d,e1,qjG e2 hl,e3⟩
 ·rw [<- h1.2.2 j hj]
  obtain ⟨i,v,d,e1,e2,e3⟩:=h1.2.1 j hj
  have hv:qar P j 1 = v:=by simp only [qar,Int.toNat_natCast,e1,Option.getD_some]; rfl
  unfold pcD
  rw [hv,qj2 e2,qj2 (qjG e2 hl)]
theorem q6h (h1:qhW h d m) (hl:Hp.le h h'):qhW h' d m:=by
 obtain ⟨row,D,e,hf,hr,hx⟩:=h1
 exact ⟨row,D,e,hf,qjG hr hl,hx⟩
theorem qrj (h1:qcc h r d c n P M L) (hl:Hp.le h h'):qcc h' r d c n P M L:=by
 obtain ⟨a1,a2,a3,a4,a5⟩:=h1
 refine ⟨a1,q5K a2 hl,a3,a4,?_⟩
 rcases a5 with a5 | ⟨m,b1,b3,b4,b5⟩
 ·exact .inl a5
 ·exact .inr ⟨m,b1,b3,q6h b4 hl,b5⟩
theorem q8y (h1:qcc h r d c n P M L) (hl:Hp.le h h') (hne:¬ e = 0):qcc h' r d c n P (if e = 0 then some m else M) (if e = 0 then L ++ [(i,b)] else L):=by
 rw [if_neg hne,if_neg hne]; exact qrj h1 hl
section
variable {k n' t s l u:Int} {O R S z:List Int} {D J:qe} {x y:Bool}
theorem qjL (hl:l = (D.length:Int)):ManV.ok ⟨k,n',t,s,O,dgs D⟩ = qJ k n' t s l:=by
 unfold ManV.ok
 rw [hl]; simp [dgs]
theorem q9E (hl:l = (D.length:Int)) (hid:(qJ k n' t s l = false/\e = 2/\R = z)∨(qJ k n' t s l = true/\e = 0/\R = S)) (hne:¬ e = 0):e = qg6 o M L ⟨k,n',t,s,O,dgs D⟩ i b:=by
 rcases hid with ⟨h1,h2,_⟩ | ⟨_,h2,_⟩
 ·unfold qg6; rw [qjL hl,if_pos h1,h2]
 ·exact absurd h2 hne
theorem qp2 (hid:(qJ k n' t s l = false/\e = 2/\R = z)∨(qJ k n' t s l = true/\e = 0/\R = S)) (he:e = 0):qJ k n' t s l = true/\R = S:=by
 rcases hid with ⟨_,h2,_⟩ | ⟨h1,_,h3⟩
 ·omega
 ·exact ⟨h1,h3⟩
theorem q8A (hl:l = (D.length:Int)) (hid:(qJ k n' t s l = false/\e = 2/\R = z)∨(qJ k n' t s l = true/\e = 0/\R = sha (qaO k n' t s O ++ (dgs D).flatten))) (he:e = 0) (hR:¬ R = o):20 = qg6 o M L ⟨k,n',t,s,O,dgs D⟩ i b:=by
 obtain ⟨h1,h2⟩:=qp2 hid he
 unfold qg6
 rw [qjL hl,if_neg (by rw [h1]; simp),if_pos (by show sha (qaO k n' t s O ++ (dgs D).flatten) ≠ o; rw [<- h2]; exact hR)]
theorem q9D (hl:l = (D.length:Int)) (hid:(qJ k n' t s l = false/\e = 2/\R = z)∨(qJ k n' t s l = true/\e = 0/\R = sha (qaO k n' t s O ++ (dgs D).flatten))) (he:e = 0) (hR:R = o) (hc:u = qct k n' t s l (dgs D) i b) (hne:¬ u = 0):u = qg6 o M L ⟨k,n',t,s,O,dgs D⟩ i b:=by
 obtain ⟨h1,h2⟩:=qp2 hid he
 have hl':(((dgs D).length:Nat):Int) = l:=by rw [hl]; simp [dgs]
 unfold qg6
 simp only [hl']
 rw [qjL hl,if_neg (by rw [h1]; simp),if_neg (fun h=>h (by rw [<- hR,h2]; rfl)),if_pos (by rw [<- hc]; exact hne),hc]
theorem qvg (hl:l = (D.length:Int)) (hid:(qJ k n' t s l = false/\e = 2/\R = z)∨(qJ k n' t s l = true/\e = 0/\R = sha (qaO k n' t s O ++ (dgs D).flatten))) (he:e = 0) (hR:R = o) (hc:u = qct k n' t s l (dgs D) i b) (hu:u = 0):qg6 o M L ⟨k,n',t,s,O,dgs D⟩ i b = if i ∈ L.map Prod.fst then 7 else if qhc M L then 8 else 0:=by
 obtain ⟨h1,h2⟩:=qp2 hid he
 have hl':(((dgs D).length:Nat):Int) = l:=by rw [hl]; simp [dgs]
 unfold qg6
 simp only [hl']
 rw [qjL hl,if_neg (by rw [h1]; simp),if_neg (fun h=>h (by rw [<- hR,h2]; rfl)),if_neg (by rw [<- hc,hu]; simp)]
theorem qnV (hq:∀ (M:Option ManV) (L:PcL),qcc h r d c n P M L->u = (J.length:Int)/\qh J = L.map Prod.fst/\∀ row,row ∈ J->row.length = 1) (h1:qcc h r d c n P M L):u = (J.length:Int)/\u <= 1000/\qh J = L.map Prod.fst/\∀ row,row ∈ J->row.length = 1:=by
 obtain ⟨a,b,e⟩:=hq M L h1
 refine ⟨a,?_,b,e⟩
 have h2:=congrArg List.length b
 rw [qB,List.length_map] at h2
 have:=h1.2.2.2.1
 omega
theorem q93 (hl:l = (D.length:Int)) (hid:(qJ k n' t s l = false/\e = 2/\R = z)∨(qJ k n' t s l = true/\e = 0/\R = sha (qaO k n' t s O ++ (dgs D).flatten))) (he:e = 0) (hR:R = o) (hc:u = qct k n' t s l (dgs D) i b) (hu:u = 0) {u':Int}
  (hq:∀ (M:Option ManV) (L:PcL),qcc h r d c n P M L->u' = (J.length:Int)/\qh J = L.map Prod.fst/\∀ row,row ∈ J->row.length = 1) (h1:qcc h r d c n P M L) (hx:x = decide (i ∈ qh J)) (ht:x = true):7 = qg6 o M L ⟨k,n',t,s,O,dgs D⟩ i b:=by
 rw [qvg hl hid he hR hc hu,if_pos]
 rw [<- (hq M L h1).2.1]; exact qzL hx ht
theorem q9C (hl:l = (D.length:Int)) (hid:(qJ k n' t s l = false/\e = 2/\R = z)∨(qJ k n' t s l = true/\e = 0/\R = sha (qaO k n' t s O ++ (dgs D).flatten))) (he:e = 0) (hR:R = o) (hc:u = qct k n' t s l (dgs D) i b) (hu:u = 0) {u':Int}
  (hq:∀ (M:Option ManV) (L:PcL),qcc h r d c n P M L->u' = (J.length:Int)/\qh J = L.map Prod.fst/\∀ row,row ∈ J->row.length = 1) (h1:qcc h r d c n P M L) (hx:x = decide (i ∈ qh J)) (ht:x = false) (hr:∀ (M:Option ManV) (L:PcL),qcc h r d c n P M L->y = qhc M L):qg6 o M L ⟨k,n',t,s,O,dgs D⟩ i b = if y then 8 else 0:=by
 rw [qvg hl hid he hR hc hu,if_neg,<- hr M L h1]
 rw [<- (hq M L h1).2.1]; exact qkS hx ht
theorem q7W {v:Value} (hv:v.oneCell' = true) (hRd:Rd h k32 v D) (hD:qfD D) (hO:qM (qd J 32)) (hok:qJ k n' t s l = true) (hl:l = (D.length:Int)) :
  qhW h [[Value.int .i64 k,Value.int .i64 n',Value.int .i64 t,Value.int .i64 s] ++ ((qd J 32).map (Value.int .u8) ++ [v])] ⟨k,n',t,s,qd J 32,dgs D⟩:=by
 refine ⟨_,D,rfl,⟨by simp [qvI,qd],fun c kk w hk hw=>?_⟩,hRd,hD,rfl,rfl,rfl,rfl,rfl,rfl,hO,by rw [qjL hl]; exact hok⟩
 unfold qvI at hk
 rcases Nat.lt_or_ge c 4 with h4 | h4
 ·rw [List.getElem?_append_left (by simpa using h4),List.getElem?_replicate,if_pos h4] at hk
  rw [List.getElem?_append_left (by simpa using h4)] at hw
  obtain rfl:=(Option.some.inj hk).symm
  match c,h4 with
  | 0,_=>obtain rfl:=(Option.some.inj hw).symm; rfl
  | 1,_=>obtain rfl:=(Option.some.inj hw).symm; rfl
  | 2,_=>obtain rfl:=(Option.some.inj hw).symm; rfl
  | 3,_=>obtain rfl:=(Option.some.inj hw).symm; rfl
 ·rw [List.getElem?_append_right (by simpa using h4)] at hk
  rw [List.getElem?_append_right (by simpa using h4)] at hw
  simp only [List.length_replicate,List.length_cons,List.length_nil] at hk hw
  rcases Nat.lt_or_ge (c - 4) 32 with h5 | h5
  ·rw [List.getElem?_append_left (by simpa using h5),List.getElem?_replicate,if_pos h5] at hk
   rw [List.getElem?_append_left (by simp [qd]; omega),List.getElem?_map] at hw
   obtain rfl:=(Option.some.inj hk).symm
   obtain ⟨q,_,rfl⟩:=Option.map_eq_some_iff.1 hw
   rfl
  ·rw [List.getElem?_append_right (by simpa using h5)] at hk
   rw [List.getElem?_append_right (by simp [qd]; omega)] at hw
   simp only [List.length_replicate,List.length_map] at hk hw
   rw [show (qd J 32).length = 32 by simp [qd]] at hw
   match hc:c - 4 - 32,hk with
   | 0,hk =>
    rw [hc] at hw
    obtain rfl:=(Option.some.inj hk).symm
    obtain rfl:=(Option.some.inj hw).symm
    unfold CK.fits; exact hv
   | q + 1,hk=>simp at hk
theorem q8V {v:Value} {B d':qe} {r':Option Addr} {m:ManV} (h1:qcc h r d c n P M L) (hl:Hp.le h h') (hRd:Rd h' kB v B) (hB:qz B) (hb9:(B.length:Int) <= 9000) (hm:qhW h' d' m) (hy:qhc M L = false):qcc h' r' d' 1 (n + 1) (P ++ [[.int .i64 i,v]]) (some m) (L ++ [(i,bI B)]):=by
 have h2:=qrj h1 hl
 obtain ⟨a1,a2,a3,a4,a5⟩:=h2
 have hlen:L.length < 255:=by
  rcases a5 with ⟨_,_,_,_,rfl⟩ | ⟨m0,rfl,_,hm0,_⟩
  ·decide
  ·obtain ⟨_,_,_,_,_,_,_,_,_,_,_,_,_,hok⟩:=hm0
   unfold qhc at hy
   have hk:=of_decide_eq_false hy
   have hk2:m0.k <= 255:=by
    unfold ManV.ok qJ qbv at hok
    simp at hok
    omega
   omega
 have hPl:=a2.1
 refine ⟨by rw [List.length_append,List.length_singleton]; omega,⟨by rw [List.length_append,List.length_append,hPl]; rfl,fun j hj=>?_,fun j hj=>?_⟩,fun x hx=>?_,by rw [List.length_append,List.length_singleton]; omega,.inr ⟨m,rfl,rfl,hm,by simp⟩⟩
 ·rw [List.length_append,List.length_singleton] at hj
  rcases Nat.lt_or_ge j P.length with hjP | hjP
  ·obtain ⟨i0,v0,d0,e1,e2⟩:=a2.2.1 j hjP
   exact ⟨i0,v0,d0,by rw [List.getElem?_append_left hjP]; exact e1,e2⟩
  ·have:j = P.length:=by omega
   subst this
   exact ⟨i,v,B,by rw [List.getElem?_append_right (Nat.le_refl _),Nat.sub_self]; rfl,hRd,hB⟩
 ·rw [List.length_append,List.length_singleton] at hj
  rcases Nat.lt_or_ge j P.length with hjP | hjP
  ·have h3:=a2.2.2 j hjP
   have e1:pcI (P ++ [[.int .i64 i,v]]) j = pcI P j:=by unfold pcI qg qar; rw [Int.toNat_natCast,List.getElem?_append_left hjP]
   have e2:pcD h' (P ++ [[.int .i64 i,v]]) j = pcD h' P j:=by unfold pcD qar; rw [Int.toNat_natCast,List.getElem?_append_left hjP]
   rw [e1,e2,h3,List.getD_eq_getElem?_getD,List.getD_eq_getElem?_getD,List.getElem?_append_left (by omega)]
  ·have:j = P.length:=by omega
   subst this
   have e1:pcI (P ++ [[.int .i64 i,v]]) P.length = i:=by unfold pcI qg qar; rw [Int.toNat_natCast,List.getElem?_append_right (Nat.le_refl _),Nat.sub_self]; rfl
   have e2:pcD h' (P ++ [[.int .i64 i,v]]) P.length = bI B:=by
    unfold pcD qar
    rw [Int.toNat_natCast,List.getElem?_append_right (Nat.le_refl _),Nat.sub_self]
    exact qj2 hRd
   rw [e1,e2,hPl,List.getD_eq_getElem?_getD,List.getElem?_append_right (Nat.le_refl _),Nat.sub_self]; rfl
 ·rcases List.mem_append.1 hx with hx | hx
  ·exact a3 x hx
  ·rw [List.mem_singleton.1 hx,bI_len]; exact hb9
end
end
theorem q7H {h h':Hp} {r r':Option Addr} {d P:qe} {c n e i:Int} {M:Option ManV} {L:PcL} {k n' t s l:Int} {R S z:List Int} {D D' B B' J:qe} {y:Bool} {a a':Option Addr} {x x' q q':Nat} (h1:qcc h r d c n P M L) (hl:Hp.le h h')
  (hid:(qJ k n' t s l = false/\e = 2/\R = z)∨(qJ k n' t s l = true/\e = 0/\R = S)) (he:e = 0) (hy:∀ (M:Option ManV) (L:PcL),qcc h r d c n P M L->y = qhc M L) (hyf:y = false) (hRb:Rd h' kB (.slice a B'.length q) B') (eB:B' = B) (hRd:Rd h' k32 (.slice a' D'.length q') D') (eD:D' = D)
  (hx:x = B.length) (hx':x' = D.length) (hB:qz B) (hb9:(B.length:Int) <= 9000) (hD:qfD D) (hO:qM (qd J 32)) (hml:l = (D.length:Int)) :
  qcc h' r' [[Value.int .i64 k,Value.int .i64 n',Value.int .i64 t,Value.int .i64 s] ++ ((qd J 32).map (Value.int .u8) ++ [.slice a' x' q'])] 1 (n + 1) (P ++ [[.int .i64 i,.slice a x q]]) (some ⟨k,n',t,s,qd J 32,dgs D⟩) (L ++ [(i,bI B)]):=by
 subst eB eD hx hx'
 exact q8V h1 hl hRb hB hb9 (q7W rfl hRd hD hO (qp2 hid he).1 hml) (by rw [<- hy M L h1]; exact hyf)
theorem qxY {ρ:Env} {l:List SH} {H:Hp} (r ty d c:Nat) (pat:List CK) (hs:qab ρ l H) (hm:SH.arr r ty pat (.var d) (.var c) ∈ l):Rd H pat (.slice (qm (ρ r).r 0) (ρ d).d.length (ρ c).i.toNat) (ρ d).d:=by
 obtain ⟨hx,hl,hd⟩:=qkJ hs hm
 exact q3p hd hl rfl rfl
set_option maxHeartbeats 4000000 in
theorem q47:qei.ok Tryz.prog:=q4r (by simp [q61,q1J,qxU,qnz,quR,q3s,qsr]) fun ρ hg hp=>by
 obtain ⟨⟨⟨M,L,h⟩,hO,hMan,hi64,hpa,h9⟩,hGr,hGd⟩:=hp
 have h0:qcc (ρ 9).h (ρ 2).r (ρ 3).d (ρ 4).i (ρ 6).i (ρ 8).d M L:=h
 obtain ⟨q0,q1,q2,q3,hOm,hml,hml2,hD⟩:=hMan
 obtain ⟨p0,p1,p2,p3⟩:=hpa
 simp only [Nat.reduceAdd] at q0 q1 q2 q3 hOm hml hml2 hD p0 p1 p2 p3
 obtain ⟨hn0,hp0,_,h255,_⟩:=id h0
 have hpl0:=hp0.1
 simp (config:={ maxSteps:=4000000 }) [qrP,qei,idC,qqa,qzR,qdN,qr5,q3v,qdy,qaR,qcz,qdD,qbU,gaB,qaK,qal,qa4,qkr,qhC,q0l,qvz,q0b,qjo,qaz,gOk,hGr,hGd]
 repeat' (first | with_reducible apply And.intro | with_reducible intro _)
 all_goals first
  | assumption
  | omega
  | exact ⟨M,L,h0⟩
  | exact q9E (by assumption) (by assumption) (by assumption)
  | exact q8A (by assumption) (by assumption) (by assumption) (by assumption)
  | exact q93 (by assumption) (by assumption) (by assumption) (by assumption) (by assumption) (by assumption) (by assumption) (by assumption) (by assumption) (by assumption)
  | (rw [q9C (by assumption) (by assumption) (by assumption) (by assumption) (by assumption) (by assumption) (by assumption) (by assumption) (by assumption) (by assumption) (by assumption)]; simp [*]; done)
  | exact (qnV (by assumption) h0).1
  | exact Int.le_trans (qnV (by assumption) h0).2.1 (by decide)
  | exact (qnV (by assumption) h0).2.2.2 _ (by assumption)
  | exact q9D (by assumption) (by assumption) (by assumption) (by assumption) (by assumption) (by assumption)
  | exact q8y (by assumption) (by have h:=qfu 9 20 (by assumption) (by simp); simpa using h) (by assumption)
  | exact qrj (by assumption) (by have h:=qfu 9 20 (by assumption) (by simp); simpa using h)
  | skip
 rename_i hst M1 L1 h1
 have hle:=qfu 9 20 hst (by simp)
 have hRb:=qxY 43 5 45 44 kB hst (by simp [kB])
 have hRd:=qxY 40 24 42 41 k32 hst (by simp [k32])
 simp at hRb hRd hle
 exact q7H (J:=(ρ 14).d) h1 hle (by assumption) (by assumption) (by assumption) (by assumption) hRb (by assumption) hRd (by assumption) (by omega) (by omega) p3 (by omega) hD hOm hml
end Go.Proofs

set_option linter.unusedSimpArgs false
set_option linter.unusedVariables false
set_option maxRecDepth 100000
namespace Go.Proofs
open Go Go.Eng

@[simp] def qbL:T:=.rcons (.vint .u8 (.lit 1)) (.rcons o8 (.rcons o8 (.rcons o8 (.rcons o8 (.rcons o8 (.rcons o8 (.rcons o8 (.rcons o8 (.rcons o8 (.rcons o8 (.rcons o8 (.rcons o8 (.rcons o8 (.rcons o8 (.rcons o8 (.rcons o8 (.rcons o8 (.rcons o8 (.rcons o8 (.rcons o8 (.rcons o8 (.rcons o8 (.rcons o8 (.rcons o8 (.rcons o8 (.rcons o8 (.rcons o8 (.rcons o8 (.rcons o8 (.rcons o8 (.rcons o8 .rnil)))))))))))))))))))))))))))))))
@[simp] def qgD:Sg:=sg 0 [bg 9 68,bv 8 67,bv 4 63,bv 3 62,bv 7 66,bv 6 65,bg 5 64,bg 2 61,bt 1 (s8 40),bg 0 39]
@[simp] def qmX:Sg:=sg 0 [bv 11 1,bv 9 28,bv 8 32,bv 7 28,bt 6 (.lit 1),bg 5 27,bt 3 (.lit 1),bt 2 (.lit 1),bt 1 (.lit 1),bt 0 (.lit 1),bt 4 (r8 26),bg 10 0]
@[simp] def qnp:Sg:=sg 0 [bv 11 1,bt 9 (.lit 1),bt 8 (.rcons (.vint .u8 (.lit 120)) .rnil),bv 1 23,bt 7 (.lit 1),bt 6 (.lit 1),bg 5 24,bt 4 (.lit 1),bt 3 (.lit 1),bt 2 (.lit 1),bg 0 22,bg 10 0]
@[simp] def qn1:Sg:=sg 0 [bv 27 1,bv 25 59,bv 24 60,bv 19 52,bv 18 53,bg 9 48,bv 8 47,bv 4 43,bv 3 42,bv 7 46,bv 6 45,bg 5 44,bg 2 41,bt 1 (r8 40),bv 23 59,bt 22 (.dlen (.var 60)),bg 21 58,bt 20 (.icell (.var 56) (.lit 0) 0),bv 17 52,bt 16 (.lit 1),bg 15 51,bt 13 (.lit 1),bt 12 (.lit 1),bt 11 (.lit 1),bt 10 (.lit 1),bt 14 (r8 50),bg 0 39,bg 26 0]
@[simp] def qpn:Sg:=sg 0 [bv 3 1,bt 1 (.lit 1),bt 0 qbL,bg 2 0]
@[simp] def qpM:Sg:=sg 0 [bv 3 1,bt 1 (.lit 0),bt 0 qbL,bg 2 0]
@[simp] def qqb:Sg:=sg 0 [bv 3 1,bt 1 (.lit 3),bt 0 qbL,bg 2 0]
@[simp] def qpl:Sg:=sg 0 [bg 5 13,bv 4 12,bt 3 (.lit 5),bt 2 (.icell (.var 6) (.lit 0) 0),bt 1 qbL,bg 0 11]
@[simp] def qpu:Sg:=sg 0 [bv 9 1,bv 7 5,bv 6 6,bv 5 5,bt 4 (.lit 2),bg 3 3,bt 2 (.lit 2),bt 1 (.icell (.var 6) (.lit 2) 0),bt 0 qbL,bg 8 0]
@[simp] def qpQ:Sg:=sg 0 [bv 17 1,bt 15 (.lit 0),bt 14 .dnil,bv 10 5,bv 9 6,bg 5 16,bv 4 12,bt 13 (.lit 0),bt 12 (.lit 0),(11,.nil),bv 8 5,bv 7 4,bg 6 3,bt 3 (.lit 17),bt 2 (.icell (.var 6) (.lit 1) 0),bt 1 qbL,bg 0 11,bg 16 0]
@[simp] def qqo:Sg:=sg 0 [bv 17 1,bt 15 (.lit 0),bt 14 .dnil,bv 10 5,bv 9 6,bg 5 14,bv 4 12,bt 13 (.lit 0),bt 12 (.lit 0),(11,.nil),bv 8 5,bv 7 4,bg 6 3,bt 3 (.lit 16),bt 2 (.icell (.var 6) (.lit 1) 0),bt 1 qbL,bg 0 11,bg 16 0]
@[simp] def qpp:Sg:=sg 0 [bv 11 1,bt 6 (.lit 3),bt 5 (.dapp (.rcons (.vint .i64 (.lit 0)) .rnil) (.dapp (.rcons (.vint .i64 (.lit 1)) .rnil) (.rcons (.vint .i64 (.lit 2)) .rnil))),bt 9 (.bl false),bt 8 (.bl true),bt 7 (.lit 3),bt 4 (.lit 3),bt 3 (.lit 3),bg 2 9,bt 1 (.lit 3),bt 0 qbL,bg 10 0]
@[simp] def qp5:Sg:=sg 0 [bv 11 1,bt 6 (.lit 3),bt 5 (.dapp (.rcons (.vint .i64 (.lit 0)) .rnil) (.dapp (.rcons (.vint .i64 (.lit 1)) .rnil) (.rcons (.vint .i64 (.lit 2)) .rnil))),bt 9 (.bl false),bt 8 (.bl false),bt 7 (.lit 3),bt 4 (.lit 3),bt 3 (.lit 3),bg 2 7,bt 1 (.lit 1),bt 0 qbL,bg 10 0]
def qnN:Out:=(.fresh 2 (.pre 0 qqb (.both (.fresh 3 (.fresh 4 (.fresh 5 (.fresh 6 (.post 0 0 qqb 3 (.need (.cmp .leq (.lit 0) (.var 4)) (.br (.cmp .neq (.var 4) (.lit 3))
 (.stuck 7 0 0)
 (.fresh 7 (.pre 1 qp5 (.both (.fresh 8 (.post 1 0 qp5 8 (.br (.cmp .neq (.var 8) (.lit 1))
 (.stuck 7 0 0)
 (.fresh 9 (.pre 1 qpp (.both (.fresh 10 (.post 1 0 qpp 10 (.br (.cmp .neq (.var 10) (.lit 2))
 (.stuck 7 0 0)
 (.pre 2 (sg 0 []) (.both (.fresh 11 (.fresh 12 (.fresh 13 (.post 2 0 (sg 0 []) 11 (.need (.cmp .lss (.lit 0) (.var 4)) (.need (.cmp .lss (.lit 0) (.dlen (.var 6))) (.both (.pre 3 qpl (.both (.fresh 14 (.post 3 0 qpl 14 (.need (.cmp .lss (.lit 1) (.var 4)) (.need (.cmp .lss (.lit 1) (.dlen (.var 6))) (.both (.pre 4 qqo (.both (.fresh 15 (.fresh 16 (.post 4 0 qqo 15 (.br (.not (.var 15))
 (.both (.both (.both (.both (.stuck 7 0 0) .top) .top) .top) .top)
 (.both (.pre 4 qpQ (.both (.fresh 17 (.fresh 18 (.post 4 0 qpQ 17 (.br (.var 17)
 (.both (.both (.both (.stuck 7 0 0) .top) .top) .top)
 (.need (.cmp .lss (.lit 2) (.var 4)) (.need (.cmp .lss (.lit 2) (.dlen (.var 6))) (.know (.cmp .leq (.dlen (.var 6)) (.var 5)) (.need (.cmp .leq (.lit 0) (.var 5)) (.need (.cmp .leq (.lit 2) (.var 5)) (.both (.pre 5 qpu (.both (.fresh 19 (.post 5 0 qpu 19 (.br (.not (.var 19))
 (.both (.both (.stuck 7 0 0) .top) .top)
 (.both (.pre 6 qpM (.both (.fresh 20 (.post 6 0 qpM 20 (.both (.pre 6 qpn (.both (.fresh 21 (.post 6 0 qpn 21 (.br (.c2 .req (r8 20) (r8 21))
 (.stuck 7 0 0)
 (.pre 7 (sg 0 []) (.both (.fresh 22 (.fresh 23 (.post 7 0 (sg 0 []) 22 (.fresh 24 (.fresh 25 (.pre 8 qnp (.both (.fresh 26 (.fresh 27 (.fresh 28 (.fresh 29 (.fresh 30 (.fresh 31 (.fresh 32 (.fresh 33 (.fresh 34 (.post 8 0 qnp 26 (.fresh 35 (.pre 9 qmX (.both (.fresh 36 (.fresh 37 (.post 9 0 qmX 36 (.fresh 38 (.both (.pre 10 (sg 0 [bt 0 (r8 36)]) (.both (.fresh 39 (.post 10 0 (sg 0 [bt 0 (r8 36)]) 39 (.pack [.cells 38 24 [(x8 0 36),(x8 1 36),(x8 2 36),(x8 3 36),(x8 4 36),(x8 5 36),(x8 6 36),(x8 7 36),(x8 8 36),(x8 9 36),(x8 10 36),(x8 11 36),(x8 12 36),(x8 13 36),(x8 14 36),(x8 15 36),(x8 16 36),(x8 17 36),(x8 18 36),(x8 19 36),(x8 20 36),(x8 21 36),(x8 22 36),(x8 23 36),(x8 24 36),(x8 25 36),(x8 26 36),(x8 27 36),(x8 28 36),(x8 29 36),(x8 30 36),(x8 31 36)],.arr 22 151 [CK.int .u32,CK.int .i32,CK.int .u32,CK.int .u8,CK.int .u8,CK.int .u8,CK.int .u8,CK.int .u8,CK.int .u8,CK.int .u8,CK.int .u8,CK.int .u8,CK.int .u8,CK.int .u8,CK.int .u8,CK.int .u8,CK.int .u8,CK.int .u8,CK.int .u8,CK.int .u8,CK.int .u8,CK.int .u8,CK.int .u8,CK.int .u8,CK.int .u8,CK.int .u8,CK.int .u8,CK.int .u8,CK.int .u8,CK.int .u8,CK.int .u8,CK.int .u8,CK.int .u8,CK.int .u8,CK.int .u8,CK.int .u8,CK.int .u8,CK.int .u8,CK.int .u8,CK.int .u8,CK.int .u8,CK.int .u8,CK.int .u8,CK.int .u8,CK.int .u8,CK.int .u8,CK.int .u8,CK.int .u8,CK.int .u8,CK.int .u8,CK.int .u8,CK.int .u8,CK.int .u8,CK.int .u8,CK.int .u8,CK.int .u8,CK.int .u8,CK.int .u8,CK.int .u8,CK.int .u8,CK.int .u8,CK.int .u8,CK.int .u8,CK.int .u8,CK.int .u8,CK.int .u8,CK.int .u8,CK.int .u8,CK.int .u8,CK.int .u8,CK.int .u8,CK.int .u8,CK.int .u8,CK.int .u8,CK.int .u8,CK.int .u8,CK.int .u8,CK.int .u8,CK.int .u8,CK.int .u8,CK.int .u8,CK.int .u8,CK.int .u8,CK.int .u8,CK.int .u8,CK.int .u8,CK.int .u8,CK.int .u8,CK.int .u8,CK.int .u8,CK.int .u8,CK.int .u8,CK.int .u8,CK.int .u8,CK.int .u8,CK.int .u8,CK.int .u8,CK.int .u8,CK.int .u8,CK.int .u8,CK.int .u8,CK.int .u8,CK.int .u8,CK.int .u8,CK.int .u8,CK.int .u8,CK.int .u8,CK.int .u8,CK.int .u8,CK.int .u8,CK.int .u8,CK.int .u8,CK.int .u8,CK.int .u8,CK.int .u8,CK.int .u8,CK.int .u8,CK.int .u8,CK.int .u8,CK.int .u8,CK.int .u8,CK.int .u8,CK.int .u8,CK.int .u8,CK.int .u8,CK.int .u8,CK.int .u8,CK.int .u8,CK.int .u8,CK.int .u8,CK.int .u8,CK.int .u8,CK.int .u8,CK.int .u8,CK.int .u8,CK.int .u8,CK.int .u8,CK.int .u8,CK.int .u8,CK.int .u8,CK.int .u8,CK.int .u8,CK.int .u8,CK.int .u8,CK.int .u8,CK.int .u8,CK.int .u8,CK.int .u8,CK.int .u8,CK.int .u8,CK.int .u8,CK.int .u8,CK.int .u8,CK.int .u8,CK.int .u8,CK.int .u8,CK.int .u8,CK.int .u8,CK.int .u8,CK.int .u8,CK.int .u8,CK.int .u8,CK.int .u8,CK.int .u8,CK.int .u8,CK.int .u8,CK.int .u8,CK.int .u8,CK.int .u8,CK.int .u8,CK.int .u8,CK.int .u8,CK.int .u8,CK.int .u8,CK.int .u8,CK.int .u8,CK.int .u8,CK.int .u8,CK.int .u8,CK.int .u8,CK.int .u8,CK.int .u8,CK.int .u8,CK.int .u8,CK.int .u8,CK.int .u8,CK.int .u8,CK.int .u8,CK.int .u8,CK.int .u8,CK.int .u8,CK.int .u8,CK.int .u8,CK.int .u8,CK.int .u8,CK.int .u8,CK.int .u8,CK.int .u8,CK.int .u8,CK.int .u8,CK.int .u8,CK.int .u8,CK.int .u8,CK.int .u8,CK.int .u8,CK.int .u8,CK.int .u8,CK.int .u8,CK.int .u8,CK.int .u8,CK.int .u8,CK.int .u8,CK.int .u8,CK.int .u8,CK.int .u8,CK.int .u8,CK.int .u8,CK.int .u8,CK.int .u8,CK.int .u8,CK.int .u8,CK.int .u8,CK.int .u8,CK.int .u8,CK.int .u8,CK.int .u8,CK.int .u8,CK.int .u8,CK.int .u8,CK.int .u8,CK.int .u8,CK.int .u8,CK.int .u8,CK.int .u8,CK.int .u8,CK.int .u8,CK.int .u8,CK.int .u8,CK.int .u8,CK.int .u8,CK.int .u8,CK.int .u8,CK.int .u8,CK.int .u8,CK.int .u8,CK.int .u8,CK.int .u8,CK.int .u8,CK.int .u8,CK.int .u8,CK.int .u8,CK.int .u8,CK.int .u8,CK.int .u8,CK.int .u8,CK.int .u8,CK.int .u8,CK.int .u8,CK.int .u8,CK.int .u8,CK.int .u8,CK.int .u8,CK.int .u8,CK.int .u8,CK.int .u8,CK.int .u8,CK.int .u8,CK.int .u8,CK.int .u8,CK.int .u8,CK.int .u8,CK.int .u8,CK.int .u8,CK.int .u8,CK.int .u8,CK.int .u8,CK.int .u8,CK.int .u8,CK.int .u8,CK.int .u8,CK.int .u8,CK.int .u8,CK.int .u8,CK.int .u8,CK.int .u8,CK.int .u8,CK.int .u8,CK.int .u8,CK.int .u8,CK.int .u8,CK.int .u8,CK.int .u8,CK.int .u8,CK.int .u8,CK.int .u8,CK.int .u8,CK.int .u8,CK.int .u8,CK.int .u8,CK.int .u8,CK.int .u8,CK.int .u8,CK.int .u8,CK.int .u8,CK.int .u8,CK.int .u8,CK.int .u8,CK.int .u8,CK.int .u8,CK.int .u8,CK.int .u8,CK.int .u8,CK.int .u8,CK.int .u8,CK.int .u8,CK.int .u8,CK.int .u8,CK.int .u8,CK.int .u8,CK.int .u8,CK.int .u8,CK.int .u8,CK.int .u8,CK.int .u8,CK.int .u8,CK.int .u8,CK.int .u8,CK.int .u8,CK.int .u8,CK.int .u8,CK.int .u8,CK.int .u8,CK.int .u8,CK.int .u8,CK.int .u8,CK.int .u8,CK.int .u8,CK.int .u8,CK.int .u8,CK.int .u8,CK.int .u8,CK.int .u8,CK.int .u8,CK.int .u8,CK.int .u8,CK.int .u8,CK.int .u8,CK.int .u8,CK.int .u8,CK.int .u8,CK.int .u8,CK.int .u8,CK.int .u8,CK.int .u8,CK.int .u8,CK.int .u8,CK.int .u8,CK.int .u8,CK.int .u8,CK.int .u8,CK.int .u8,CK.int .u8,CK.int .u8,CK.int .u8,CK.int .u8,CK.int .u8,CK.int .u8,CK.int .u8,CK.int .u8,CK.int .u8,CK.int .u8,CK.int .u8,CK.int .u8,CK.int .u8,CK.int .u8,CK.int .u8,CK.int .u8,CK.int .u8,CK.int .u8,CK.int .u8,CK.int .u8,CK.int .u8,CK.int .u8,CK.int .u8,CK.int .u8,CK.int .u8,CK.int .u8,CK.int .u8,CK.int .u8,CK.int .u8,CK.int .u8,CK.int .u8,CK.int .u8,CK.int .u8,CK.int .u8,CK.int .u8,CK.int .u8,CK.int .u8,CK.int .u8,CK.int .u8,CK.int .u8,CK.int .u8,CK.int .u8,CK.int .u8,CK.int .u8,CK.int .u8,CK.int .u8,CK.int .u8,CK.int .u8,CK.int .u8,CK.int .u8,CK.int .u8,CK.int .u8,CK.int .u8,CK.int .u8,CK.int .u8,CK.int .u8,CK.int .u8,CK.int .u8,CK.int .u8,CK.int .u8,CK.int .u8,CK.int .u8,CK.int .u8,CK.int .u8,CK.int .u8,CK.int .u8,CK.int .u8,CK.int .u8,CK.int .u8,CK.int .u8,CK.int .u8,CK.int .u8,CK.int .u8,CK.int .u8,CK.int .u8,CK.int .u8,CK.int .u8,CK.int .u8,CK.int .u8,CK.int .u8,CK.int .u8,CK.int .u8,CK.int .u8,CK.int .u8,CK.int .u8,CK.int .u8,CK.int .u8,CK.int .u8,CK.int .u8,CK.int .u8,CK.int .u8,CK.int .u8,CK.int .u8,CK.int .u8,CK.int .u8,CK.int .u8,CK.int .u8,CK.int .u8,CK.int .u8,CK.int .u8,CK.int .u8,CK.int .u8,CK.int .u8,CK.int .u8,CK.int .u8,CK.int .u8,CK.int .u8,CK.int .u8,CK.int .u8,CK.int .u8,CK.int .u8,CK.int .u8,CK.int .u8,CK.int .u8,CK.int .u8,CK.int .u8,CK.int .u8,CK.int .u8,CK.int .u8,CK.int .u8,CK.int .u8,CK.int .u8,CK.int .u8,CK.int .u8,CK.int .u8,CK.int .u8,CK.int .u8,CK.int .u8,CK.int .u8,CK.int .u8,CK.int .u8,CK.int .u8,CK.int .u8,CK.int .u8,CK.int .u8,CK.int .u8,CK.int .u8,CK.int .u8,CK.int .u8,CK.int .u8,CK.int .u8,CK.int .u8,CK.int .u8,CK.int .u8,CK.int .u8,CK.int .u8,CK.int .u8,CK.int .u8,CK.int .u8,CK.int .u8,CK.int .u8,CK.int .u8,CK.int .i64,CK.int .i64,CK.int .i64,CK.int .i64,CK.int .i64,CK.int .i64,CK.int .i64,CK.int .i64,CK.int .i64,CK.int .i64,CK.int .i64,CK.int .i64,CK.int .i64,CK.int .i64,CK.int .i64,CK.int .i64,CK.int .i64,CK.int .i64,CK.int .i64,CK.int .i64,CK.int .i64,CK.int .i64,CK.int .i64,CK.int .i64,CK.int .i64,CK.int .i64,CK.int .i64,CK.int .i64,CK.int .i64,CK.int .i64,CK.int .i64,CK.int .i64,CK.int .i64,CK.int .i64,CK.int .i64,CK.int .i64,CK.int .i64,CK.int .i64,CK.int .i64,CK.int .i64,CK.int .i64,CK.int .i64,CK.int .i64,CK.int .i64,CK.int .i64,CK.int .i64,CK.int .i64,CK.int .i64,CK.int .i64,CK.int .i64,CK.int .i64,CK.int .i64,CK.int .i64,CK.int .i64,CK.int .i64,CK.int .i64,CK.int .i64,CK.int .i64,CK.int .i64,CK.int .i64,CK.int .i64,CK.int .i64,CK.int .i64,CK.int .i64,CK.int .i64,CK.int .i64,CK.int .i64,CK.int .i64,CK.int .i64,CK.int .i64,CK.int .i64,CK.int .i64,CK.int .i64,CK.int .i64,CK.int .i64,CK.int .i64,CK.int .i64,CK.int .i64,CK.int .i64,CK.int .i64,CK.int .i64,CK.int .i64,CK.int .i64,CK.int .i64,CK.int .i64,CK.int .i64,CK.int .i64,CK.int .i64,CK.int .i64,CK.int .i64,CK.int .i64,CK.int .i64,CK.int .i64,CK.int .i64,CK.int .i64,CK.int .i64,CK.int .i64,CK.int .i64,CK.int .i64,CK.int .i64,CK.int .i64,CK.int .i64,CK.int .i64,CK.int .i64,CK.int .i64,CK.int .i64,CK.int .i64,CK.int .i64,CK.int .i64,CK.int .i64,CK.int .i64,CK.int .i64,CK.int .i64,CK.int .i64,CK.int .i64,CK.int .i64,CK.int .i64,CK.int .i64,CK.int .i64,CK.int .i64,CK.int .i64,CK.int .i64,CK.int .i64,CK.int .i64,CK.int .i64,CK.int .i64,CK.int .i64,CK.int .i64,CK.int .i64,CK.int .i64,CK.int .i64,CK.int .i64,CK.int .i64,CK.int .i64,CK.int .i64,CK.int .i64,CK.int .i64,CK.int .i64,CK.int .i64,CK.int .i64,CK.int .i64,CK.int .i64,CK.int .i64,CK.int .i64,CK.int .i64,CK.int .i64,CK.int .i64,CK.int .i64,CK.int .i64,CK.int .i64,CK.int .i64,CK.int .i64,CK.int .i64,CK.int .i64,CK.int .i64,CK.int .i64,CK.int .i64,CK.int .i64,CK.int .i64,CK.int .i64,CK.int .i64,CK.int .i64,CK.int .i64,CK.int .i64,CK.int .i64,CK.int .i64,CK.int .i64,CK.int .i64,CK.int .i64,CK.int .i64,CK.int .i64,CK.int .i64,CK.int .i64,CK.int .i64,CK.int .i64,CK.int .i64,CK.int .i64,CK.int .i64,CK.int .i64,CK.int .i64,CK.int .i64,CK.int .i64,CK.int .i64,CK.int .i64,CK.int .i64,CK.int .i64,CK.int .i64,CK.int .i64,CK.int .i64,CK.int .i64,CK.int .i64,CK.int .i64,CK.int .i64,CK.int .i64,CK.int .i64,CK.int .i64,CK.int .i64,CK.int .i64,CK.int .i64,CK.int .i64,CK.int .i64,CK.int .i64,CK.int .i64,CK.int .i64,CK.int .i64,CK.int .i64,CK.int .i64,CK.int .i64,CK.int .i64,CK.int .i64,CK.int .i64,CK.int .i64,CK.int .i64,CK.int .i64,CK.int .i64,CK.int .i64,CK.int .i64,CK.int .i64,CK.int .i64,CK.int .i64,CK.int .i64,CK.int .i64,CK.int .i64,CK.int .i64,CK.int .i64,CK.int .i64,CK.int .i64,CK.int .i64,CK.int .i64,CK.int .i64,CK.int .i64,CK.int .i64,CK.int .i64,CK.int .i64,CK.int .i64,CK.int .i64,CK.int .i64,CK.int .i64,CK.int .i64,CK.int .i64,CK.int .i64,CK.int .i64,CK.int .i64,CK.int .i64,CK.int .i64,CK.int .i64,CK.int .i64,CK.int .i64,CK.int .i64,CK.int .i64,CK.int .i64,CK.int .i64,CK.int .i64,CK.int .i64,CK.int .i64,CK.int .i64] (.var 31) (.lit 1),.cells 11 179 [(.var 12)],.cells 9 3 [(.vint .i64 (.lit 0)),(.vint .i64 (.lit 1)),(.vint .i64 (.lit 2))],.cells 7 3 [(.vint .i64 (.lit 0)),(.vint .i64 (.lit 1)),(.vint .i64 (.lit 2))],.arr 3 3 [CK.int .i64] (.var 6) (.var 5),.cells 2 24 [(.vint .u8 (.lit 1)),o8,o8,o8,o8,o8,o8,o8,o8,o8,o8,o8,o8,o8,o8,o8,o8,o8,o8,o8,o8,o8,o8,o8,o8,o8,o8,o8,o8,o8,o8,o8]] 40 (.cut 0 39 (sg 1000 [bg 1018 34,bv 1017 33,bv 1014 32,bv 1013 28,bg 1012 27,bt 1011 (r8 26),bg 1009 40,bt 1008 .dnil,bt 1004 (.lit 0),bt 1003 .dnil,bt 1007 (.lit 0),bt 1006 (.lit 0),(1005,.nil),(1002,.nil),bt 1001 (s8 36),bg 1000 39,bv 1016 30,bg 1015 29,bg 1010 35]))))) .top)) (.fresh 39 (.fresh 40 (.fresh 41 (.fresh 42 (.fresh 43 (.fresh 44 (.fresh 45 (.fresh 46 (.fresh 47 (.fresh 48 (.fresh 49 (.fresh 50 (.fresh 51 (.fresh 52 (.fresh 53 (.fresh 54 (.fresh 55 (.fresh 56 (.fresh 57 (.hyp 0 39 (.need (.cmp .lss (.lit 0) (.dlen (.var 56))) (.both (.viewL (.vcell (.var 56) (.lit 0) 1) [CK.int .u8] [57] 58 (.pre 11 qn1 (.both (.fresh 61 (.fresh 62 (.fresh 63 (.fresh 64 (.fresh 65 (.fresh 66 (.fresh 67 (.fresh 68 (.fresh 69 (.post 11 0 qn1 61 (.both (.both (.both (.br (.cmp .eql (.var 69) (.lit 0))
 (.both (.both (.pre 12 qgD (.both (.fresh 70 (.post 12 0 qgD 70 (.both (.both (.br (.var 70)
 (.both (.both (.pre 13 qgD (.both (.fresh 71 (.fresh 72 (.fresh 73 (.fresh 74 (.post 13 0 qgD 71 (.both (.need (.cmp .leq (.lit 0) (.var 72)) (.both (.both (.both (.need (.beq (.bl true) (.cmp .eql (.var 72) (.lit 1))) (.ret 0 (sg 2 []))) .top) .top) .top)) .top)))))) .top)) .top) .top)
 (.both (.both (.both (.both (.both (.both (.stuck 7 0 0) .top) .top) .top) .top) .top) .top)) .top) .top))) .top)) .top) .top)
 (.both (.both (.both (.both (.both (.both (.both (.both (.both (.both (.stuck 7 0 0) .top) .top) .top) .top) .top) .top) .top) .top) .top) .top)) .top) .top) .top))))))))))) .top))) .top))))))))))))))))))))))))))) .top))))))))))))) .top))))))) .top))))) .top)) .top))) .top)) .top)))) .top)) .top)))))))))) .top)) .top))))) .top)) .top))))) .top)) .top))))))) .top))))) .top)))))) .top)))))))))) .top)))
theorem qwG:qk ⟨Tryz.prog,qdj,[qc0,qcI,qep,qfY,qcr,qfR,qcx,qbS,qj7,idC,qew,qei,qcz,qdy],[qqR]⟩ 100000 Tryz.f31 = qnN:=by kernel_rfl
theorem q1Y (hd:∀ c ∈ ([qc0,qcI,qep,qfY,qcr,qfR,qcx,qbS,qj7,idC,qew,qei,qcz,qdy]:List Ctr),c.ok Tryz.prog) (h:∀ ρ:Env,ρ.good->(qdj).pre ρ->qnN.den ⟨Tryz.prog,qdj,[qc0,qcI,qep,qfY,qcr,qfR,qcx,qbS,qj7,idC,qew,qei,qcz,qdy],[qqR]⟩ ρ):(qdj).ok Tryz.prog :=
 qf Tryz.func31 (fun a w=>Tryz.call31 a w) hd 100000 (fun ρ hg hp=>by rw [qwG]; exact h ρ hg hp)
end Go.Proofs

set_option linter.unusedSimpArgs false
set_option linter.unusedVariables false
namespace Go.Proofs
open Go Go.Eng
def d1:List Int:=1 :: List.replicate 31 0
theorem qwt:qA d1 0 1 = true:=by decide +kernel
theorem qv0:qA d1 0 2 = true:=by decide +kernel
theorem quI:qA d1 1 2 = true:=by decide +kernel
theorem q6k:¬ qN d1 0 = qN d1 1:=by decide +kernel
theorem qy2:qaj d1 [0,1,2] = [0,1,2]:=by
 symm
 refine qoL ⟨List.Perm.refl _,?_⟩ (by decide)
 simp [qwt,qv0,quI]
theorem qu5:qbc [0,1,2] = [0,1,2]:=by decide
theorem q6B:qkn d1 3 = [0,1,2]:=by
 have h:qgo 3 = [0,1,2]:=by decide
 rw [qkn,h,qaq,qu5,qy2]; rfl
theorem qsP:qaq d1 [0,1,2] 3 = [0,1,2]:=by
 rw [qaq,qu5,qy2]; rfl
theorem q4J:qeA d1 1 [0,1,2] 3 false false = 1:=by simp [qeA,qsP]
theorem q4D:qeA d1 3 [0,1,2] 3 true false = 2:=by simp [qeA,qsP]
theorem q81:qhq d1 2 2 [0,1] = true:=by
 have h:qbc [0,1] = [0,1]:=by decide
 rw [qhq,h]; simp [qv0,quI]
def cl1:Cl:=qeB (fun _ _=>none) d1 0 5
theorem q0d:qef cl1 d1 1 16 [0,1,2] [] = true:=by
 rw [qef,List.any_eq_true]
 refine ⟨0,by simp,?_⟩
 have h:cl1 d1 ((0:Nat):Int) = some 5:=by simp [cl1,qeB]
 rw [h]
 simp [qwt,qkQ]
theorem q0g:qef cl1 d1 1 17 [0,1,2] [] = false:=by
 rw [qef,List.any_eq_false]
 intro i _
 by_cases hi:i = 0
 ·subst hi
  have h:cl1 d1 ((0:Nat):Int) = some 5:=by simp [cl1,qeB]
  rw [h]; simp [qkQ]
 ·have h:cl1 d1 ((i:Nat):Int) = none:=by simp [cl1,qeB,hi]
  rw [h]; simp
end Go.Proofs

set_option linter.unusedSimpArgs false
set_option linter.unusedVariables false
namespace Go.Proofs
open Go Go.Eng
theorem q6J:qd [[Value.int .u8 1,.int .u8 0,.int .u8 0,.int .u8 0,.int .u8 0,.int .u8 0,.int .u8 0,.int .u8 0,.int .u8 0,.int .u8 0,.int .u8 0,.int .u8 0,.int .u8 0,.int .u8 0,.int .u8 0,.int .u8 0,.int .u8 0,.int .u8 0,.int .u8 0,.int .u8 0,.int .u8 0,.int .u8 0,.int .u8 0,.int .u8 0,.int .u8 0,.int .u8 0,.int .u8 0,.int .u8 0,.int .u8 0,.int .u8 0,.int .u8 0,.int .u8 0]] 32 = d1:=by rfl
theorem q7I:qM d1:=by intro x hx; simp [d1] at hx; rcases hx with rfl | rfl <;> decide
theorem q5A {h:Hp}:qcc h none [] 0 0 [] none []:=by
 refine ⟨rfl,⟨rfl,?_,?_⟩,?_,by decide,.inl ⟨rfl,rfl,rfl,rfl,rfl⟩⟩
 ·intro j hj; exact absurd hj (Nat.not_lt_zero j)
 ·intro j hj; exact absurd hj (Nat.not_lt_zero j)
 ·intro x hx; cases hx
theorem q9A:(qcq 1 1).2.2 = 1:=by kernel_rfl
theorem q5V:qz [[Value.int .u8 120]]:=by intro row hr; simp at hr; subst hr; decide
set_option pp.funBinderTypes false
set_option format.width 2000
set_option format.indent 1
set_option maxRecDepth 20000 in
set_option maxHeartbeats 4000000 in
theorem qww (hd:∀ c ∈ ([qc0,qcI,qep,qfY,qcr,qfR,qcx,qbS,qj7,idC,qew,qei,qcz,qdy]:List Ctr),c.ok Tryz.prog):qdj.ok Tryz.prog:=q1Y hd fun ρ hg hp=>by
 obtain ⟨hGr,hGd⟩:=hp
 simp (config:={ maxSteps:=4000000 }) [qnN,qdj,qqR,qc0,qcI,qtz,qep,qfY,qcr,q65,qfR,qft,qmN,qcx,qbS,qj7,qgG,idC,qqa,qzR,qew,qei,q3c,qcz,qdy,qvz,q0b,qjo,qaz,q6p,q67,qkr,qhC,qrq,q0l,qjp,qal,qaK,gaB,gOk,hGr,hGd,q6J,q7I]
 have e012:qh [[Value.int IntKind.i64 0],[Value.int IntKind.i64 1],[Value.int IntKind.i64 2]] = [0,1,2]:=rfl
 intro _ _ l0 _ n _ c _ D _ hl
 obtain ⟨hn,hD,hrow⟩:=hl
 rw [q6B] at hD
 have hDl:D.d.length = 3:=by have:=congrArg List.length hD; simpa [qh] using this
 refine ⟨by omega,by omega,fun _ _ _ x5 _ h5=>?_⟩
 rw [e012,q4J] at h5
 refine ⟨h5,fun _ _ _ x6 _ h6=>?_⟩
 rw [e012,q4D] at h6
 refine ⟨h6,fun _ _ _ v _ H0 _ hc0=>⟨by omega,by omega,⟨_,hc0⟩,fun H1 _ hc1=>?_⟩⟩
 have g0:qg D.d 0 0 = 0:=by rw [qa0 (d:=D.d) (by omega) (by omega),hD]; rfl
 have g1:qg D.d 1 0 = 1:=by rw [qa0 (d:=D.d) (by omega) (by omega),hD]; rfl
 have g2:qg D.d 2 0 = 2:=by rw [qa0 (d:=D.d) (by omega) (by omega),hD]; rfl
 have hcl:=hc1 _ hc0
 rw [g0] at hcl
 refine ⟨by omega,by omega,⟨⟨_,hcl⟩,by omega,by omega,hrow⟩,fun b1 _ H2 _ hb1=>?_⟩
 obtain ⟨hcl2,hb1⟩:=hb1 _ hcl
 rw [g1,hD] at hb1
 have hb1':b1.b = true:=hb1.trans q0d
 refine ⟨hb1',fun _=>⟨⟨⟨_,hcl2⟩,by omega,by omega,hrow⟩,fun b2 _ H3 _ hb2=>?_⟩⟩
 obtain ⟨hcl3,hb2⟩:=hb2 _ hcl2
 rw [g1,hD] at hb2
 have hb2':b2.b = false:=hb2.trans q0g
 refine ⟨hb2',fun _=>⟨by omega,by omega,fun hcap=>⟨by omega,by omega,⟨by omega,hrow⟩,fun b3 _ hb3=>?_⟩⟩⟩
 rw [g2,hD] at hb3
 have hb3':b3.b = true:=hb3.trans q81
 refine ⟨hb3',fun _ s0 _ hs0 s1 _ hs1=>?_⟩
 rw [hs0,hs1]
 refine ⟨q6k,fun _ _ _ fl _ hfl _ _ _ _=>⟨⟨⟨.inl hfl,q5V,fun _=>q9A⟩,by decide⟩,?_⟩⟩
 intro o _ _ _ f _ _ _ _ _ _ _ Ds _ P _ Hp _ _ _ hPl hE ho hDs hdg _ _
 have hDl1:Ds.d.length = 1:=by
  have:=congrArg List.length hdg
  rw [qyP] at this; simpa [dgs] using this
 have hoM:qM (qd o.d 32):=by rw [ho]; exact qed _
 have hm1:qJ 1 1 1 1 1 = true:=by decide
 refine ⟨⟨by omega,hoM,hDs⟩,fun ID _ e _ hid gn _=>⟨fun _ _ _ _ _=>?_,?_⟩⟩
 ·obtain ⟨q1,q2⟩:=q8n hE
  refine ⟨q5A,hoM,hDs,hDl1,hPl,q1,(q2 0 (by decide)).1,?_,?_⟩
  ·exact q3V (data:=[120]) hm1 (by intro x hx; simp at hx; subst hx; exact ⟨by decide,by decide⟩) rfl hdg (by decide) (by decide) (q2 0 (by decide)).2
  ·rcases hid with ⟨h,_⟩ | ⟨_,_,h⟩
   ·exact absurd h (by decide)
   ·exact h
 intro ar _ id _ mr _ mp _ mc _ pr _ pl _ pq _ pd _ gh _ bm _ om _ dr _ dq _ dd _ br _ bq _ bp _ bh _ hga hom hdd hdl hbl hpk hpi hck hid2
 obtain ⟨v0,B0,eP,hv,hRd,hB,hpd⟩:=q9M hpk (j:=0) (by decide)
 obtain ⟨_,_,_,hlen,hsum⟩:=q1q hck
 have hB1:B0.length = 1:=by rw [hpd,bI_len] at hlen; rw [show qe2 1 1 = 1 from rfl] at hlen; omega
 have hci:qg bp.d 0 0 = 0:=hpi
 have hidM:qM (qd id.d 32):=by rw [hid2]; exact qed _
 have hck':qct 1 1 1 1 1 (dgs dd.d) 0 (bI B0) = 0:=by rw [<- hpd]; exact hck
 have hddl:(dgs dd.d).length = 1:=by simpa [dgs] using hdl
 have hoff:qg6 (qd id.d 32) none [] { k:=1,n:=1,t:=1,s:=1,o:=qd om.d 32,D:=dgs dd.d } 0 (bI B0) = 0:=by
  have hok:ManV.ok { k:=1,n:=1,t:=1,s:=1,o:=qd om.d 32,D:=dgs dd.d } = true:=by simp only [ManV.ok,hddl]; decide
  have hbt:sha (ManV.bytes { k:=1,n:=1,t:=1,s:=1,o:=qd om.d 32,D:=dgs dd.d }) = qd id.d 32:=hid2.symm
  rw [qg6,if_neg (by rw [hok]; decide),if_neg (fun h=>h hbt)]
  simp [hddl,hck',qhc]
 refine ⟨by omega,B0,by rw [show (0:Int) = ((0:Nat):Int) from rfl,hv]; exact hRd,?_⟩
 rw [hci]
 intro vr _ vc _ _ hcap
 refine ⟨⟨⟨_,_,hga⟩,hidM,⟨hom,by omega,hdd⟩,by decide,⟨by omega,by omega,hB⟩,by omega⟩,?_⟩
 intro _ _ _ _ _ _ _ _ _ _ _ _ _ _ _ _ oe _ hofr
 obtain ⟨he0,hga2⟩:=hofr _ _ hga
 rw [hoff] at he0
 rw [if_pos he0,if_pos he0] at hga2
 refine ⟨fun _=>⟨⟨_,_,hga2⟩,fun rb _ hrb=>?_⟩,he0⟩
 have hr1:=hrb _ _ hga2
 have hr2:rb.b = true:=by rw [hr1]; rfl
 refine ⟨fun _=>⟨⟨_,_,hga2⟩,fun _ _ il _ _ _ di _ hi=>?_⟩,hr2⟩
 obtain ⟨hi1,hi2,_⟩:=hi _ _ hga2
 have hdi:di.d.length = 1:=by
  have:=congrArg List.length hi2
  rw [qB] at this; simpa using this
 exact ⟨by omega,by omega,trivial⟩
theorem qh6:qat.ok Tryz.prog:=q3m q73
theorem q1D:qdj.ok Tryz.prog:=qww (by simp [qyI qh6,qxP qh6,q4m,q6F,qzK,q7z,qvt,qwM,q4a,q61,q3S,q47,quR,qxU])
end Go.Proofs

set_option linter.unusedSimpArgs false
set_option linter.unusedVariables false
set_option maxRecDepth 100000
namespace Go.Proofs
open Go Go.Eng

end Go.Proofs

set_option linter.unusedSimpArgs false
set_option linter.unusedVariables false
namespace Go.Proofs
open Go Go.Eng
theorem qna:qaQ.ok Tryz.prog:=q0G
end Go.Proofs
