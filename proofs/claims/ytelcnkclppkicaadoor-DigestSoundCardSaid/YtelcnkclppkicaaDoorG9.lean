/- Texts E14, FB, FC. -/
import Derived.Test.YtelcnkclppkicaaDoorG8
import Derived.SizedLaws
import Derived.Test.YtelcnkclppkicaaDoorProg
import Derived.Test.YtelcnkclppkicaaDoorG7
set_option linter.unusedSimpArgs false
set_option linter.unusedVariables false
namespace Go.Eng
open Go Go.ChangeShapes Go.WideShapes Go.ChangeAt Go.RowKit

def patFs (P:Program) (f:TypeId→Option (List CK)):List Field→Nat→Option (List CK)
 | [],_=>some []
 | x :: fs,off =>
  if Nat.beq x.offset off then
   match f x.type with
   | some p=>if Nat.beq p.length (P.cellsOf x.type) then (patFs P f fs (off + p.length)).map (p ++ ·) else none
   | none=>none
  else none
def patArr (p:List CK):Nat→List CK
 | 0=>[]
 | n + 1=>p ++ patArr p n
def patP (P:Program):Nat→TypeId→Option (List CK)
 | 0,_=>none
 | n + 1,t =>
  match P.underlying t with
  | some (.int k)=>some [.int k]
  | some .bool=>some [.bool]
  | some .string=>some [.any]
  | some (.slice _)=>some [.any]
  | some (.pointer _)=>some [.any]
  | some (.struct fs)=>match patFs P (patP P n) fs.toList 0 with
   | some p=>if Nat.beq p.length (P.cellsOf t) then some p else none
   | none=>none
  | some (.array m e)=>match patP P n e with
   | some p=>if Nat.beq p.length (P.cellsOf e) && Nat.beq (P.cellsOf t) (m * P.cellsOf e) then some (patArr p m) else none
   | none=>none
  | _=>none

theorem fitsRow_append {p q:List CK} {cs:List Value} (h1:fitsRow p (cs.take p.length)) (h2:fitsRow q (cs.drop p.length)):fitsRow (p ++ q) cs:=by
 obtain ⟨a1,a2⟩:=h1
 obtain ⟨b1,b2⟩:=h2
 have hle:p.length ≤ cs.length:=by simp at a1; omega
 refine ⟨by simp at a1 b1 ⊢; omega,fun c k v hk hv=>?_⟩
 by_cases hc:c < p.length
 ·rw [List.getElem?_append_left hc] at hk
  exact a2 c k v hk (by rw [List.getElem?_take,if_pos hc]; exact hv)
 ·rw [List.getElem?_append_right (by omega)] at hk
  exact b2 (c - p.length) k v hk (by rw [List.getElem?_drop,show p.length + (c - p.length) = c by omega]; exact hv)

section
variable {H:Type} {enc:TypeId × Value→H} {P:Program} {w:World} {base:Nat} {spare:Nat→Bool} {held:Bool}

theorem fits_one_any {v:Value} (h:v.oneCell' = true):fitsRow [.any] [v]:=⟨rfl,fun c k v' hk hv=>by
 cases c with
 | zero=>simp at hk hv; subst hk; subst hv; exact h
 | succ c=>simp at hk⟩

theorem patFs_fits {f:TypeId→Option (List CK)} {cs:List Value} (hf:∀ t p,f t = some p→∀ cs',(∃ fuel x,DataW.trod enc P w base spare held fuel t cs' = some x)→fitsRow p cs') :
  ∀ {fs:List Field} {off:Nat} {p:List CK},patFs P f fs off = some p→(∀ x ∈ fs,∃ fuel y,DataW.trod enc P w base spare held fuel x.type ((cs.drop x.offset).take (P.cellsOf x.type)) = some y)→off + p.length = cs.length→fitsRow p (cs.drop off)
 | [],off,p,h,_,hl=>by
  simp only [patFs,Option.some.injEq] at h; subst h
  simp at hl
  refine ⟨by simp; omega,fun c k v hk=>by simp at hk⟩
 | x :: fs,off,p,h,ht,hl=>by
  simp only [patFs] at h
  split at h
  ·rename_i ho
   have ho:=Nat.eq_of_beq_eq_true ho
   split at h
   ·rename_i p1 hp1
    split at h
    ·rename_i hc
     have hc:=Nat.eq_of_beq_eq_true hc
     simp only [Option.map_eq_some_iff] at h
     obtain ⟨p2,hp2,rfl⟩:=h
     simp only [List.length_append] at hl
     have h1:=hf x.type p1 hp1 _ (ht x (List.mem_cons_self ..))
     rw [ho,← hc] at h1
     have h2:=patFs_fits hf hp2 (fun y hy=>ht y (List.mem_cons_of_mem _ hy)) (by omega)
     exact fitsRow_append h1 (by rw [List.drop_drop]; exact h2)
    ·simp at h
   ·simp at h
  ·simp at h

theorem patArr_fits {p:List CK}:∀ {m:Nat} {cs:List Value},cs.length = m * p.length→(∀ i,i < m→fitsRow p ((cs.drop (i * p.length)).take p.length))→fitsRow (patArr p m) cs
 | 0,cs,hl,_=>by
  simp at hl; subst hl
  exact ⟨rfl,fun c k v hk=>by simp [patArr] at hk⟩
 | m + 1,cs,hl,h=>by
  simp only [patArr]
  refine fitsRow_append (by simpa using h 0 (by omega)) (patArr_fits (by rw [List.length_drop,hl,Nat.add_mul]; omega) fun i hi=>?_)
  rw [List.drop_drop,show p.length + i * p.length = (i + 1) * p.length by rw [Nat.add_mul]; omega]
  exact h (i + 1) (by omega)

theorem trod_fits:∀ (n:Nat) {t:TypeId} {pat:List CK},patP P n t = some pat→∀ cs,(∃ fuel x,DataW.trod enc P w base spare held fuel t cs = some x)→fitsRow pat cs
 | 0,t,pat,h,_,_=>by simp [patP] at h
 | n + 1,t,pat,h,cs,⟨fuel,x,hx⟩=>by
  simp only [patP] at h
  split at h
  ·rename_i k hu
   simp only [Option.some.injEq] at h; subst h
   obtain ⟨z,rfl,_,_⟩:=DataW.trod_int hu hx
   refine ⟨rfl,fun c k' v hk hv=>?_⟩
   cases c with
   | zero=>simp at hk hv; subst hk; subst hv; simp [CK.fits]
   | succ c=>simp at hk
  ·rename_i hu
   simp only [Option.some.injEq] at h; subst h
   cases fuel with
   | zero=>simp [DataW.trod] at hx
   | succ m =>
    unfold DataW.trod at hx
    rw [hu] at hx
    split at hx <;> simp_all
    refine ⟨rfl,fun c k' v hk hv=>?_⟩
    cases c with
    | zero=>simp at hk hv; subst hk; subst hv; simp [CK.fits]
    | succ c=>simp at hk
  ·rename_i hu
   simp only [Option.some.injEq] at h; subst h
   cases fuel with
   | zero=>simp [DataW.trod] at hx
   | succ m =>
    unfold DataW.trod at hx
    rw [hu] at hx
    split at hx <;> simp_all
    exact fits_one_any rfl
  ·rename_i e hu
   simp only [Option.some.injEq] at h; subst h
   rcases DataW.trod_slice hu hx with ⟨rfl,_⟩ | ⟨a,len,cap,elems,rest,m,_,rfl,_⟩
   ·exact fits_one_any rfl
   ·exact fits_one_any rfl
  ·rename_i e hu
   simp only [Option.some.injEq] at h; subst h
   cases fuel with
   | zero=>simp [DataW.trod] at hx
   | succ m =>
    unfold DataW.trod at hx
    rw [hu] at hx
    split at hx <;> simp_all
    all_goals exact fits_one_any rfl
  ·rename_i fs hu
   split at h
   ·rename_i p hp
    split at h
    ·rename_i hc
     have hc:=Nat.eq_of_beq_eq_true hc
     simp only [Option.some.injEq] at h; subst h
     obtain ⟨xs,m,_,_,hl,hxl,hall⟩:=DataW.trod_struct hu hx
     have:=patFs_fits (cs:=cs) (f:=patP P n) (fun t p hp cs' hh=>trod_fits n hp cs' hh) hp (fun y hy=>by
      obtain ⟨i,hi⟩:=List.getElem?_of_mem hy
      have hi':fs[i]? = some y:=by simpa using hi
      have h1:=hall i y hi'
      have hlt:i < xs.length:=by
       rw [hxl]; exact (Array.getElem?_eq_some_iff.1 hi').1
      exact ⟨m,xs[i],by rw [h1]; simp [hlt]⟩) (by omega)
     simpa using this
    ·simp at h
   ·simp at h
  ·rename_i m e hu
   split at h
   ·rename_i p hp
    split at h
    ·rename_i hc
     simp only [Bool.and_eq_true] at hc
     have hc1:=Nat.eq_of_beq_eq_true hc.1
     have hc2:=Nat.eq_of_beq_eq_true hc.2
     simp only [Option.some.injEq] at h; subst h
     obtain ⟨xs,k,_,_,hl,hxl,hall⟩:=DataW.trod_array hu hx
     refine patArr_fits (by rw [hl,hc2,hc1]) fun i hi=>?_
     have h1:=hall i hi
     rw [← hc1] at h1
     exact trod_fits n hp _ ⟨k,xs[i]'(by omega),by rw [h1]; simp [hxl,hi]⟩
    ·simp at h
   ·simp at h
  ·simp at h

theorem cells?_get {a:Addr} {n:Nat} {cs:List Value} (h:w.cells? base a n = some cs):cs.length = n∧∀ i,i < n→w.cell? (a.add i) = cs[i]?:=by
 unfold World.cells? at h
 split at h
 ·exact ⟨by simpa using mapM_some_length h,fun i hi=>by simpa using mapM_some_get h i i (by simp [hi])⟩
 ·simp at h

theorem open_rows {t e:TypeId} {pat:List CK} {n:Nat} {v:Value} {d:DataW H} {ps:List MemPlace} (ht:P.underlying t = some (.slice e)) (hpat:patP P n e = some pat) (hce:P.cellsOf e = pat.length) (hpos:0 < pat.length)
  {fuel:Nat} (hsp:∀ b,spare b = true) (hf:DataW.trod enc P w base spare held fuel t [v] = some (d,ps)) :
  ∃ rows:List (List Value),Rd (fun b=>w.heap[b]?) pat v rows∧(∀ row ∈ rows,∃ fuel x,DataW.trod enc P w base spare held fuel e row = some x) ∧
   ((d = .nil∧rows = [])∨∃ elems sp,d = .slice elems sp∧elems.length = rows.length∧∀ (i:Nat) (row:List Value),rows[i]? = some row→∃ fuel x,DataW.trod enc P w base spare held fuel e row = some x∧elems[i]? = some x.1):=by
 rcases DataW.trod_slice ht hf with ⟨h1,h2⟩ | ⟨a,len,cap,elems,rest,m,_,h1,h2,hb,hlc,hcm,hel,hall,hrest,_⟩
 ·simp at h1 h2
  exact ⟨[],.inl ⟨_,h1,rfl⟩,by simp,.inl ⟨h2.1,rfl⟩⟩
 ·simp at h1 h2
  subst h1
  have hrow:∀ i,i < len→∃ cs x,w.cells? base (a.add (i * P.cellsOf e)) (P.cellsOf e) = some cs∧DataW.trod enc P w base spare held m e cs = some x∧elems[i]? = some x:=fun i hi=>by
   have:=hall i hi
   rw [List.getElem?_eq_getElem (by omega)] at this
   obtain ⟨cs,g1,g2⟩:=Option.bind_eq_some_iff.1 this
   exact ⟨cs,_,g1,g2,List.getElem?_eq_getElem _⟩
  let rows:List (List Value):=(List.range len).map fun i=>((w.cells? base (a.add (i * P.cellsOf e)) (P.cellsOf e)).getD [])
  have hget:∀ i row,rows[i]? = some row→i < len∧w.cells? base (a.add (i * P.cellsOf e)) (P.cellsOf e) = some row:=fun i row hr=>by
   simp only [rows,List.getElem?_map,Option.map_eq_some_iff] at hr
   obtain ⟨j,hj,rfl⟩:=hr
   have hlt:i < len:=by
    have:=(List.getElem?_eq_some_iff.1 hj).1; simpa using this
   rw [List.getElem?_range hlt] at hj
   simp only [Option.some.injEq] at hj; subst hj
   obtain ⟨cs,x,g1,_,_⟩:=hrow i hlt
   exact ⟨hlt,by rw [g1]; rfl⟩
  have hrl:rows.length = len:=by simp [rows]
  have htr:∀ row ∈ rows,∃ fuel x,DataW.trod enc P w base spare held fuel e row = some x:=fun row hr=>by
   obtain ⟨i,hi⟩:=List.getElem?_of_mem hr
   obtain ⟨hlt,hc⟩:=hget i row hi
   obtain ⟨cs,x,g1,g2,_⟩:=hrow i hlt
   rw [hc] at g1
   simp only [Option.some.injEq] at g1; subst g1
   exact ⟨m,x,g2⟩
  refine ⟨rows,?_,htr,.inr ⟨_,_,h2.1,by simp [hel,hrl],fun i row hi=>?_⟩⟩
  rotate_left
  ·obtain ⟨hlt,hc⟩:=hget i row hi
   obtain ⟨cs,x,g1,g2,g3⟩:=hrow i hlt
   rw [hc] at g1
   simp only [Option.some.injEq] at g1; subst g1
   exact ⟨m,x,g2,by simp [g3]⟩
  by_cases hcap:cap = 0
  ·have hl0:len = 0:=by omega
   have:rows = []:=by apply List.eq_nil_of_length_eq_zero; omega
   exact .inl ⟨some a,by rw [hl0,hcap],this⟩
  have hfirst:∃ cs,w.cells? base (a.add 0) (P.cellsOf e) = some cs:=by
   by_cases hl:0 < len
   ·obtain ⟨cs,_,g1,_,_⟩:=hrow 0 hl
    rw [Nat.zero_mul] at g1
    exact ⟨cs,g1⟩
   ·obtain ⟨r1,r2⟩:=hrest (hsp _)
    have:=r2 0 (by omega)
    rw [show (len + 0) * P.cellsOf e = 0 by rw [show len + 0 = 0 by omega]; simp,List.getElem?_eq_getElem (by omega)] at this
    obtain ⟨cs,g1,_⟩:=Option.bind_eq_some_iff.1 this
    exact ⟨cs,g1⟩
  obtain ⟨cs0,hc0⟩:=hfirst
  obtain ⟨hl0,hg0⟩:=cells?_get hc0
  have h00:=hg0 0 (by omega)
  rw [show (a.add 0).add 0 = a from rfl,List.getElem?_eq_getElem (by omega)] at h00
  obtain ⟨ab,ao,asp⟩:=a
  have hblk0:=h00
  unfold World.cell? at hblk0
  split at hblk0
  ·rename_i c ty fr hblk
   simp only at hblk
   have hsp0:asp = none:=by
    cases asp with
    | none=>rfl
    | some s=>simp at hblk0
   subst hsp0
   refine .inr ⟨ab,ao,cap,c,ty,fr,by rw [hrl],by omega,hblk,fun i row hi=>?_⟩
   obtain ⟨hlt,hc⟩:=hget i row hi
   refine ⟨trod_fits n hpat row (htr row (List.mem_of_getElem? hi)),fun k x hk=>?_⟩
   obtain ⟨hl1,hg⟩:=cells?_get hc
   have hkl:k < P.cellsOf e:=by
    rw [← hl1]; exact (List.getElem?_eq_some_iff.1 hk).1
   have:=hg k hkl
   rw [hk,hce] at this
   rw [Go.Eng.addr_add,Go.Eng.addr_add,cell_of_heap hblk] at this
   exact this
  ·simp at hblk0
end

end Go.Eng

set_option linter.unusedSimpArgs false
set_option linter.unusedVariables false
set_option maxRecDepth 100000
namespace Go.Proofs
open Go Go.Eng

@[simp] def o_lawSound_18:Out:=.both (.both (.pre 0 (sg 0 [bv 1 31,bg 0 30]) (.both (.post 0 0 (sg 0 [bv 1 31,bg 0 30]) 66 (.ret 0 (sg 32 []))) .top)) .top) .top
@[simp] def o_lawSound_17:Out:=.both (.both (.pre 0 (sg 0 [bv 1 31,bg 0 30]) (.both (.post 0 0 (sg 0 [bv 1 31,bg 0 30]) 65 (.ret 0 (sg 32 []))) .top)) .top) .top
@[simp] def o_lawSound_16:Out:=.br (.cmp .neq (.var 69) (.lit 0))
 (.stuck 7 0 0)
 (.pre 0 (sg 0 [bv 1 31,bg 0 30]) (.both (.post 0 0 (sg 0 [bv 1 31,bg 0 30]) 70 (.ret 0 (sg 32 []))) .top))
@[simp] def o_lawSound_15:Out:=.br (.cmp .neq (.var 68) (.lit 0))
 (.stuck 7 0 0)
 (.pre 0 (sg 0 [bv 1 31,bg 0 30]) (.both (.post 0 0 (sg 0 [bv 1 31,bg 0 30]) 69 (.ret 0 (sg 32 []))) .top))
@[simp] def o_lawSound_14:Sg:=sg 0 [bv 17 31,bv 15 62,bv 14 63,bv 9 67,bv 8 68,bv 13 62,bv 12 61,bg 11 60,bv 10 59,bv 7 67,bv 6 13,bg 5 66,bv 3 10,bv 2 9,bv 1 8,bv 0 7,bt 4 (s8 11),bg 16 30]
@[simp] def o_lawSound_13:Sg:=sg 0 [bv 17 31,bv 15 61,bv 14 62,bv 9 66,bv 8 67,bv 13 61,bv 12 60,bg 11 59,bv 10 58,bv 7 66,bv 6 13,bg 5 65,bv 3 10,bv 2 9,bv 1 8,bv 0 7,bt 4 (s8 11),bg 16 30]
@[simp] def o_lawSound_12:Sg:=sg 0 [bv 9 24,bv 8 23,bv 7 14,bv 6 13,bg 5 12,bv 3 10,bv 2 9,bv 1 8,bv 0 7,bt 4 (r8 11)]
@[simp] def o_lawSound_11:Sg:=sg 0 [bv 17 31,bv 15 60,bv 14 61,bv 9 66,bv 8 67,bv 13 60,bv 12 59,bg 11 58,bv 10 57,bv 7 66,bv 6 13,bg 5 65,bv 3 10,bv 2 9,bv 1 8,bv 0 7,bt 4 (s8 11),bg 16 30]
@[simp] def o_lawSound_10:Sg:=sg 0 [bv 17 31,bv 15 61,bv 14 62,bv 9 67,bv 8 68,bv 13 61,bv 12 60,bg 11 59,bv 10 58,bv 7 67,bv 6 13,bg 5 66,bv 3 10,bv 2 9,bv 1 8,bv 0 7,bt 4 (s8 11),bg 16 30]
@[simp] def o_lawSound_9:Sg:=sg 0 [bv 19 31,bg 17 42,bv 16 40,bv 15 41,bv 11 37,bv 10 38,bv 1 35,bv 14 40,bv 13 16,bg 12 39,bv 9 37,bv 8 13,bg 7 36,bv 5 10,bv 4 9,bv 3 8,bv 2 7,bt 6 (s8 11),bg 0 34,bg 18 30]
@[simp] def o_lawSound_8:Sg:=sg 0 [bv 19 31,bg 17 57,bv 16 55,bv 15 56,bv 11 51,bv 10 52,bv 1 48,bv 20 3,bv 14 55,bv 13 16,bg 12 54,bv 9 51,bv 8 13,bg 7 50,bv 5 10,bv 4 9,bv 3 8,bv 2 7,bt 6 (s8 11),bg 0 34,bg 18 30]
@[simp] def o_lawSound_7:Sg:=sg 0 [bv 19 31,bg 17 56,bv 16 54,bv 15 55,bv 11 51,bv 10 52,bv 1 48,bv 20 3,bv 14 54,bv 13 16,bg 12 53,bv 9 51,bv 8 13,bg 7 50,bv 5 10,bv 4 9,bv 3 8,bv 2 7,bt 6 (s8 11),bg 0 34,bg 18 30]
@[simp] def o_lawSound_6:Sg:=sg 0 [bv 19 31,bg 17 58,bv 16 56,bv 15 57,bv 11 53,bv 10 54,bv 1 48,bv 20 3,bv 14 56,bv 13 16,bg 12 55,bv 9 53,bv 8 13,bg 7 52,bv 5 10,bv 4 9,bv 3 8,bv 2 7,bt 6 (s8 11),bg 0 34,bg 18 30]
@[simp] def o_lawSound_5:Sg:=sg 0 [bv 19 31,bg 17 58,bv 16 56,bv 15 57,bv 11 52,bv 10 53,bv 1 48,bv 20 3,bv 14 56,bv 13 16,bg 12 55,bv 9 52,bv 8 13,bg 7 51,bv 5 10,bv 4 9,bv 3 8,bv 2 7,bt 6 (s8 11),bg 0 34,bg 18 30]
@[simp] def o_lawSound_4:Sg:=sg 0 [bv 19 31,bg 17 57,bv 16 55,bv 15 56,bv 11 52,bv 10 53,bv 1 48,bv 20 3,bv 14 55,bv 13 16,bg 12 54,bv 9 52,bv 8 13,bg 7 51,bv 5 10,bv 4 9,bv 3 8,bv 2 7,bt 6 (s8 11),bg 0 34,bg 18 30]
@[simp] def o_lawSound_3:Sg:=sg 0 [bg 29 29,bv 28 28,bv 27 27,bv 26 26,bv 25 25,bv 24 24,bv 23 23,bv 22 22,bv 21 21,bv 20 20,bv 19 19,bg 18 18,bv 17 17,bv 16 16,bg 15 15,bv 14 14,bv 13 13,bg 12 12,bv 10 10,bv 9 9,bv 8 8,bv 7 7,bv 6 6,bv 5 5,bg 4 4,bv 3 3,bv 2 2,bv 1 1,bv 0 0,bt 11 (r8 11)]
@[simp] def o_lawSound_2:Out:=.both (.br (.cmp .eql (.var 63) (.lit 0))
 (.br (.cmp .neq (.var 58) (.var 3))
 (.both (.both (.stuck 7 0 0) .top) .top)
 (.both (.pre 3 (sg 0 [bv 9 24,bv 8 23,bv 7 14,bv 6 13,bg 5 12,bv 3 10,bv 2 9,bv 1 8,bv 0 7,bt 4 (r8 11)]) (.both (.fresh 65 (.fresh 66 (.fresh 67 (.post 3 0 (sg 0 [bv 9 24,bv 8 23,bv 7 14,bv 6 13,bg 5 12,bv 3 10,bv 2 9,bv 1 8,bv 0 7,bt 4 (r8 11)]) 65 (.both (.know (.cmp .leq (.dlen (.var 67)) (.var 66)) (.know (.cmp .leq (.dlen (.var 62)) (.var 61)) (.pre 8 o_lawSound_13 (.both (.fresh 68 (.post 8 0 o_lawSound_13 68 o_lawSound_15)) .top)))) .top))))) .top)) .top))
 o_lawSound_17) .top
@[simp] def o_lawSound_1:Out:=.both (.br (.cmp .eql (.var 64) (.lit 0))
 (.br (.cmp .neq (.var 59) (.var 3))
 (.both (.both (.stuck 7 0 0) .top) .top)
 (.both (.pre 3 (sg 0 [bv 9 24,bv 8 23,bv 7 14,bv 6 13,bg 5 12,bv 3 10,bv 2 9,bv 1 8,bv 0 7,bt 4 (r8 11)]) (.both (.fresh 66 (.fresh 67 (.fresh 68 (.post 3 0 (sg 0 [bv 9 24,bv 8 23,bv 7 14,bv 6 13,bg 5 12,bv 3 10,bv 2 9,bv 1 8,bv 0 7,bt 4 (r8 11)]) 66 (.both (.know (.cmp .leq (.dlen (.var 68)) (.var 67)) (.know (.cmp .leq (.dlen (.var 63)) (.var 62)) (.pre 8 o_lawSound_14 (.both (.fresh 69 (.post 8 0 o_lawSound_14 69 o_lawSound_16)) .top)))) .top))))) .top)) .top))
 o_lawSound_18) .top
def o_lawSound:Out:=(.fresh 32 (.pre 1 o_lawSound_3 (.both (.fresh 33 (.post 1 0 o_lawSound_3 33 (.br (.var 33)
 (.pre 0 (sg 0 [bv 1 31,bg 0 30]) (.both (.post 0 0 (sg 0 [bv 1 31,bg 0 30]) 34 (.ret 0 (sg 32 []))) .top))
 (.br (.cmp .gtr (.var 7) (.lit 60))
 (.pre 0 (sg 0 [bv 1 31,bg 0 30]) (.both (.post 0 0 (sg 0 [bv 1 31,bg 0 30]) 34 (.ret 0 (sg 32 []))) .top))
 (.pre 2 (sg 0 []) (.both (.fresh 34 (.fresh 35 (.post 2 0 (sg 0 []) 34 (.both (.pre 3 o_lawSound_12 (.both (.fresh 36 (.fresh 37 (.fresh 38 (.post 3 0 o_lawSound_12 36 (.both (.pre 4 (sg 0 [bg 5 29,bv 4 26,bv 3 25,bv 2 17,bv 1 16,bg 0 15]) (.both (.fresh 39 (.fresh 40 (.fresh 41 (.fresh 42 (.post 4 0 (sg 0 [bg 5 29,bv 4 26,bv 3 25,bv 2 17,bv 1 16,bg 0 15]) 39 (.both (.know (.cmp .leq (.dlen (.var 38)) (.var 37)) (.know (.cmp .leq (.dlen (.var 41)) (.var 40)) (.pre 5 o_lawSound_9 (.both (.fresh 43 (.fresh 44 (.fresh 45 (.fresh 46 (.fresh 47 (.fresh 48 (.fresh 49 (.post 5 0 o_lawSound_9 43 (.br (.cmp .eql (.var 47) (.lit 0))
 (.need (.cmp .leq (.lit 0) (.var 44)) (.br (.cmp .neq (.var 44) (.var 10))
 (.both (.stuck 7 0 0) .top)
 (.both (.know (.cmp .leq (.dlen (.var 46)) (.var 45)) (.pre 6 (sg 0 [bv 7 31,bv 5 45,bv 4 46,bv 3 49,bv 2 44,bt 1 (.lit 0),bg 0 43,bg 6 30]) (.both (.fresh 50 (.post 6 0 (sg 0 [bv 7 31,bv 5 45,bv 4 46,bv 3 49,bv 2 44,bt 1 (.lit 0),bg 0 43,bg 6 30]) 50 (.br (.not (.c2 .req (r8 50) (r8 11)))
 (.stuck 7 0 0)
 (.need (.cmp .leq (.lit 0) (.var 16)) (.br (.cmp .lss (.var 16) (.var 7))
 (.stuck 7 0 0)
 (.both (.pre 3 o_lawSound_12 (.both (.fresh 51 (.fresh 52 (.fresh 53 (.post 3 0 o_lawSound_12 51 (.both (.pre 4 (sg 0 [bg 5 29,bv 4 26,bv 3 25,bv 2 17,bv 1 16,bg 0 15]) (.both (.fresh 54 (.fresh 55 (.fresh 56 (.fresh 57 (.post 4 0 (sg 0 [bg 5 29,bv 4 26,bv 3 25,bv 2 17,bv 1 16,bg 0 15]) 54 (.both (.know (.cmp .leq (.dlen (.var 53)) (.var 52)) (.know (.cmp .leq (.dlen (.var 56)) (.var 55)) (.pre 7 o_lawSound_4 (.both (.fresh 58 (.fresh 59 (.fresh 60 (.fresh 61 (.fresh 62 (.fresh 63 (.fresh 64 (.post 7 0 o_lawSound_4 58 (.both (.fresh 65 (.both (.br (.cmp .eql (.var 63) (.lit 0))
 (.br (.cmp .neq (.var 58) (.var 3))
 (.both (.both (.stuck 7 0 0) .top) .top)
 (.both (.pre 3 o_lawSound_12 (.both (.fresh 66 (.fresh 67 (.fresh 68 (.post 3 0 o_lawSound_12 66 (.both (.know (.cmp .leq (.dlen (.var 68)) (.var 67)) (.know (.cmp .leq (.dlen (.var 62)) (.var 61)) (.pre 8 o_lawSound_10 (.both (.fresh 69 (.post 8 0 o_lawSound_10 69 o_lawSound_16)) .top)))) .top))))) .top)) .top))
 o_lawSound_18) .top)) .top))))))))) .top)))) (.both (.fresh 58 (.both (.know (.cmp .leq (.dlen (.var 53)) (.var 52)) (.know (.cmp .leq (.dlen (.var 56)) (.var 55)) (.pre 7 o_lawSound_4 (.both (.fresh 59 (.fresh 60 (.fresh 61 (.fresh 62 (.fresh 63 (.fresh 64 (.fresh 65 (.post 7 0 o_lawSound_4 59 o_lawSound_1)))))))) .top)))) .top)) .top))))))) .top)) (.both (.fresh 54 (.both (.pre 4 (sg 0 [bg 5 29,bv 4 26,bv 3 25,bv 2 17,bv 1 16,bg 0 15]) (.both (.fresh 55 (.fresh 56 (.fresh 57 (.fresh 58 (.post 4 0 (sg 0 [bg 5 29,bv 4 26,bv 3 25,bv 2 17,bv 1 16,bg 0 15]) 55 (.both (.know (.cmp .leq (.dlen (.var 53)) (.var 52)) (.know (.cmp .leq (.dlen (.var 57)) (.var 56)) (.pre 7 o_lawSound_5 (.both (.fresh 59 (.fresh 60 (.fresh 61 (.fresh 62 (.fresh 63 (.fresh 64 (.fresh 65 (.post 7 0 o_lawSound_5 59 o_lawSound_1)))))))) .top)))) .top)))))) .top)) .top)) .top)))))) .top)) (.both (.fresh 51 (.both (.pre 3 o_lawSound_12 (.both (.fresh 52 (.fresh 53 (.fresh 54 (.post 3 0 o_lawSound_12 52 (.both (.pre 4 (sg 0 [bg 5 29,bv 4 26,bv 3 25,bv 2 17,bv 1 16,bg 0 15]) (.both (.fresh 55 (.fresh 56 (.fresh 57 (.fresh 58 (.post 4 0 (sg 0 [bg 5 29,bv 4 26,bv 3 25,bv 2 17,bv 1 16,bg 0 15]) 55 (.both (.know (.cmp .leq (.dlen (.var 54)) (.var 53)) (.know (.cmp .leq (.dlen (.var 57)) (.var 56)) (.pre 7 o_lawSound_6 (.both (.fresh 59 (.fresh 60 (.fresh 61 (.fresh 62 (.fresh 63 (.fresh 64 (.fresh 65 (.post 7 0 o_lawSound_6 59 o_lawSound_1)))))))) .top)))) .top)))))) .top)) .top))))) .top)) .top)) .top))))))) .top))) .top)))
 (.both (.both (.pre 3 o_lawSound_12 (.both (.fresh 50 (.fresh 51 (.fresh 52 (.post 3 0 o_lawSound_12 50 (.both (.pre 4 (sg 0 [bg 5 29,bv 4 26,bv 3 25,bv 2 17,bv 1 16,bg 0 15]) (.both (.fresh 53 (.fresh 54 (.fresh 55 (.fresh 56 (.post 4 0 (sg 0 [bg 5 29,bv 4 26,bv 3 25,bv 2 17,bv 1 16,bg 0 15]) 53 (.both (.know (.cmp .leq (.dlen (.var 52)) (.var 51)) (.know (.cmp .leq (.dlen (.var 55)) (.var 54)) (.pre 7 o_lawSound_7 (.both (.fresh 57 (.fresh 58 (.fresh 59 (.fresh 60 (.fresh 61 (.fresh 62 (.fresh 63 (.post 7 0 o_lawSound_7 57 (.both (.fresh 64 (.both (.br (.cmp .eql (.var 62) (.lit 0))
 (.br (.cmp .neq (.var 57) (.var 3))
 (.both (.both (.stuck 7 0 0) .top) .top)
 (.both (.pre 3 o_lawSound_12 (.both (.fresh 65 (.fresh 66 (.fresh 67 (.post 3 0 o_lawSound_12 65 (.both (.know (.cmp .leq (.dlen (.var 67)) (.var 66)) (.know (.cmp .leq (.dlen (.var 61)) (.var 60)) (.pre 8 o_lawSound_11 (.both (.fresh 68 (.post 8 0 o_lawSound_11 68 o_lawSound_15)) .top)))) .top))))) .top)) .top))
 o_lawSound_17) .top)) .top))))))))) .top)))) (.both (.fresh 57 (.both (.know (.cmp .leq (.dlen (.var 52)) (.var 51)) (.know (.cmp .leq (.dlen (.var 55)) (.var 54)) (.pre 7 o_lawSound_7 (.both (.fresh 58 (.fresh 59 (.fresh 60 (.fresh 61 (.fresh 62 (.fresh 63 (.fresh 64 (.post 7 0 o_lawSound_7 58 o_lawSound_2)))))))) .top)))) .top)) .top))))))) .top)) (.both (.fresh 53 (.both (.pre 4 (sg 0 [bg 5 29,bv 4 26,bv 3 25,bv 2 17,bv 1 16,bg 0 15]) (.both (.fresh 54 (.fresh 55 (.fresh 56 (.fresh 57 (.post 4 0 (sg 0 [bg 5 29,bv 4 26,bv 3 25,bv 2 17,bv 1 16,bg 0 15]) 54 (.both (.know (.cmp .leq (.dlen (.var 52)) (.var 51)) (.know (.cmp .leq (.dlen (.var 56)) (.var 55)) (.pre 7 o_lawSound_8 (.both (.fresh 58 (.fresh 59 (.fresh 60 (.fresh 61 (.fresh 62 (.fresh 63 (.fresh 64 (.post 7 0 o_lawSound_8 58 o_lawSound_2)))))))) .top)))) .top)))))) .top)) .top)) .top)))))) .top)) (.both (.fresh 50 (.both (.pre 3 o_lawSound_12 (.both (.fresh 51 (.fresh 52 (.fresh 53 (.post 3 0 o_lawSound_12 51 (.both (.pre 4 (sg 0 [bg 5 29,bv 4 26,bv 3 25,bv 2 17,bv 1 16,bg 0 15]) (.both (.fresh 54 (.fresh 55 (.fresh 56 (.fresh 57 (.post 4 0 (sg 0 [bg 5 29,bv 4 26,bv 3 25,bv 2 17,bv 1 16,bg 0 15]) 54 (.both (.know (.cmp .leq (.dlen (.var 53)) (.var 52)) (.know (.cmp .leq (.dlen (.var 56)) (.var 55)) (.pre 7 o_lawSound_4 (.both (.fresh 58 (.fresh 59 (.fresh 60 (.fresh 61 (.fresh 62 (.fresh 63 (.fresh 64 (.post 7 0 o_lawSound_4 58 o_lawSound_2)))))))) .top)))) .top)))))) .top)) .top))))) .top)) .top)) .top)) .top)))))))))) .top)))) .top)))))) .top)) .top))))) .top)) .top)))) .top)))))) .top)))
theorem o_lawSound_eq:treeOf ⟨Tryd.prog,lawSoundC,[knownC,largeC,newFieldC,ownC,mineC,asmC,sha256C,regC,checkPC],[]⟩ 100000 Tryd.f19 = o_lawSound:=by kernel_rfl
theorem lawSound_of (hd:∀ c ∈ ([knownC,largeC,newFieldC,ownC,mineC,asmC,sha256C,regC,checkPC]:List Ctr),c.ok Tryd.prog) (h:∀ ρ:Env,ρ.good→(lawSoundC).pre ρ→o_lawSound.den ⟨Tryd.prog,lawSoundC,[knownC,largeC,newFieldC,ownC,mineC,asmC,sha256C,regC,checkPC],[]⟩ ρ):(lawSoundC).ok Tryd.prog :=
 ok_of_tree Tryd.func19 (fun a w=>Tryd.call19 a w) hd 100000 (fun ρ hg hp=>by rw [o_lawSound_eq]; exact h ρ hg hp)
end Go.Proofs

set_option linter.unusedSimpArgs false
set_option linter.unusedVariables false
namespace Go.Proofs
open Go Go.Eng
theorem sound_sha {M:Bool} {C:Int→Prop} {sz e n:Int} {D O r:List Int} {R:Rows'} (a:asmS M C sz e n D O R) (h:e = 0) (hr:r = sha (segB R 0 n)):r = O:=by
 obtain ⟨_,_,b,_,c⟩:=asmS_ok0 a h
 rw [hr,c,b]
theorem sound_few {M:Bool} {f I:Nat→Int} {N:Nat} {k sz e n x:Int} {D O:List Int} {R:Rows'} {P0:Rows'} (a:asmS M (chksP f I N k) sz e n D O R) (h:e = 0) (hl:N = P0.length) (hx:x = P0.length):k ≤ x:=by
 have:=(chks_zero (asmS_ok0 a h).2.1).2
 omega
theorem sound_sz {k n t s l e m:Int} {C:Int→Prop} {D O:List Int} {R:Rows'} (a:asmS (manOk k n t s l) C s e m D O R) (h:e = 0):m < 1152921504606846976:=by
 obtain ⟨hM,_,_,hn,_⟩:=asmS_ok0 a h
 have:=manOk_iff.1 hM
 omega
section
variable {k n t s l x y e m v z:Int} {h:Hp} {P G G0 G3 R:Rows'}
theorem sound_ok (a:regS (manOk k n t s l) (chksP (chkF k n t s l (dgs G) h P) (pcI P) P.length k) x t e y m (valLr h P k.toNat x) ((dgs G)[x.toNat]?.getD []) R) (he:e = 0):manOk k n t s l = true∧(0 ≤ x∧x < t)∧0 < P.length∧((bI R).length:Int) = plenI k s∧sha (pieceIn x ++ bI R) = (dgs G).getD x.toNat []∧y = x∧m = R.length∧allB R∧m = pcN h P 0:=by
 obtain ⟨hM,hx,hC,hs,hy,hm,hB,hR⟩:=regS_ok0 a he
 obtain ⟨_,kn,hL⟩:=chks_order hC hM (-1) (.inl rfl)
 obtain ⟨k1,k2,k3,k4,s0,s1,htl⟩:=manOk_iff.1 hM
 have h0:=hL 0 (by omega)
 have hlen:(bI R).length = pcN h P 0:=by rw [hR]; exact val_len
 refine ⟨hM,hx,by omega,by rw [hlen,h0,plenI_eq k1 s0],by rw [hR,hs,List.getD_eq_getElem?_getD],hy,hm,hB,by rw [hm,← hlen,bI_len]⟩
theorem sound_chk (a:regS (manOk k n t s l) (chksP (chkF k n t s l (dgs G) h P) (pcI P) P.length k) x t e y m (valLr h P k.toNat x) ((dgs G)[x.toNat]?.getD []) R) (he:e = 0) (hv:v = chkE k n t s l (dgs G3) z (bI R)) (hz:z = x) (hG:G = G0) (hG3:G3 = G0):v = 0:=by
 subst hG
 subst hG3
 obtain ⟨hM,⟨x0,x1⟩,_,hl,hs,_⟩:=sound_ok a he
 rw [hv,hz,← chkE_ok hM x0 x1 hl hs]
theorem sound_len {N:Nat} (a:regS (manOk k n t s l) (chksP (chkF k n t s l (dgs G) h P) (pcI P) P.length k) x t e y m (valLr h P k.toNat x) ((dgs G)[x.toNat]?.getD []) R) (he:e = 0) {h0:Hp} {P0:Rows'} {N':Nat} (hs:samePc h h0 P P0 N N') (h9:∀ j,j < P0.length→(pcD h0 P0 j).length ≤ 9000) (hN:N = P0.length) (hl:P.length = P0.length):m ≤ 100000000:=by
 obtain ⟨_,_,hp,_,_,_,_,_,hm⟩:=sound_ok a he
 have:=pc_len9 hs h9 hp hN hl
 unfold pcN at hm
 omega
end
set_option maxRecDepth 100000
set_option maxHeartbeats 4000000 in
theorem lawSound_ok:lawSoundC.ok Tryd.prog:=lawSound_of (by simp [known_ok,large_ok,newField_ok,own_ok,mine_ok,asm_ok,sha256_ok,reg_ok,checkP_ok]) fun ρ hg hp=>by
 obtain ⟨⟨ik,i1,i2,i3,mk,m1,m2,m3,⟨dl,dl1,dB,dc⟩,hO,⟨ml,ml1,mD,mc⟩,⟨pl,pl1,pc,pok⟩,bl,bl1⟩,hGr,hGd⟩:=hp
 simp (config:={ maxSteps:=4000000 }) [o_lawSound,lawSoundC,lawTrue,knownC,largeC,newFieldC,ownC,mineC,asmC,regC,sha256C,bytesIn,checkPC,chkAlts,chkPre,pieceArgIn,pieceArg,manP,psP,pcPre,manV,manT,cellsT,gOk,mOk,mChk,mF,asmD,regD,smallCase,caseIn,manO,hGr,hGd,dl,dB,hO]
 have pk:pcOk (ρ 29).h (ρ 25).d (ρ 16).i.toNat:=by rw [pl]; simpa using pok
 refine ⟨⟨ik,i1,i2,i3,mk,m1,m2,m3,⟨rfl,dl ▸ dl1,dB,dl ▸ dc⟩,hO,⟨ml,ml1,mD,mc⟩,⟨pl,pl1,pc,pok⟩,bl,bl1⟩,fun u _ hsm hb=>?_⟩
 obtain ⟨s1,s2,s3,s4,s5⟩:=hsm hb
 repeat' (first | with_reducible apply And.intro | with_reducible intro _)
 all_goals first
  | assumption
  | omega
  | exact .inl (by assumption)
  | exact (asmS_n (by assumption)).1
  | exact (asmS_n (by assumption)).2.1
  | exact (asmS_n (by assumption)).2.2
  | exact (asmS_ok0 (by assumption) (by assumption)).2.2.2.1
  | exact sound_sz (by assumption) (by assumption)
  | exact sound_sha (by assumption) (by assumption) (by assumption)
  | exact sound_few (by assumption) (by assumption) (by assumption) pl
  | exact (regS_ok0 (by assumption) (by assumption)).2.2.2.2.1
  | exact (regS_ok0 (by assumption) (by assumption)).2.2.2.2.2.1
  | exact (regS_ok0 (by assumption) (by assumption)).2.2.2.2.2.2.1
  | exact Int.le_trans (regS_n (by assumption)).2.1 (by assumption)
  | exact sound_len (by assumption) (by assumption) (by assumption) s5 rfl (by assumption)
  | exact sound_chk (by assumption) (by assumption) (by assumption) (by assumption) (by assumption) (by assumption)
  | exact len_eq ml (by assumption)
  | exact dgs_eq mD (by assumption)
  | exact pc_len9 (by assumption) s5 (by assumption) rfl (by assumption)
  | exact (by rw [show (ρ 16).i.toNat = (ρ 25).d.length by omega]; assumption)
  | exact s5 _ (by assumption)
end Go.Proofs
