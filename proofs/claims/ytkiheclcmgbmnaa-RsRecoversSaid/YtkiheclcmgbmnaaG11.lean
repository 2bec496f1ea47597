/- Texts VY, VZ, WG, WH, WI, WJ, YQ, YO, YP, YX, VW, WL, WN. -/
import Derived.Test.YtkiheclcmgbmnaaG10
import Derived.Test.YtkiheclcmgbmnaaG9
import Derived.Test.YtkiheclcmgbmnaaProg
import Derived.Test.YtkiheclcmgbmnaaRows
import Derived.WalkKit
import Derived.ProofKit
import Derived.OpenShut
import Derived.Test.YtkiheclcmgbmnaaG5
import Derived.Test.YtkiheclcmgbmnaaG6
set_option linter.unusedSimpArgs false
set_option linter.unusedVariables false
namespace Go.Proofs
open Go Go.Eng
set_option maxRecDepth 100000
theorem cellI_put {d : Rows'} {i j x : Int} {k : IntKind} (i0 : 0 ≤ i) (i1 : i < d.length) (j0 : 0 ≤ j) : cellI (putD d i 0 [.int k x]) j 0 = if j = i then x else cellI d j 0 := by
  unfold cellI cellV putD
  rw [List.getElem?_set]
  by_cases h : j = i
  · subst h
    rw [if_pos rfl, if_pos (by omega), if_pos rfl]
    simp [splice, vInt]
  · rw [if_neg (by omega), if_neg h]
set_option maxHeartbeats 4000000 in
theorem solve89_ok : solve89C.ok Try.prog := solve89_of (by simp [genK_ok, selG_ok, invG_ok, row75_ok, addToT_ok]) fun ρ hg hp => by
  obtain ⟨hf, hsz, hkn, hn2, hpc, hch, h8, hLeq⟩ := hp
  obtain ⟨k1, k2, k3⟩ := sizesB_iff.1 hsz
  have s1 : ∀ {x : Int}, -1 ≤ x → x ≤ 1000 → arithOf .add .i64 x 1 = x + 1 := fun h1 h2 => add64 (by omega) (by omega)
  simp (config := { maxSteps := 4000000 }) [o_solve89, solve89C, solve89A, solve89B, solve89D, solW, solR, genW, genKC, gen35C, selGC, sel62C, invGC, inverse55C, row75C, addToT]
  intro n10 _
  refine ⟨⟨hf, hsz⟩, fun g _ lg _ cg _ f1 _ dg _ ab _ hf1 _ hMg _ hGg u7 _ => ⟨by omega, by omega, fun u8 _ => ⟨⟨hf1, ⟨hMg, hGg⟩, by omega, fun j h1 h2 => by omega⟩, ?_⟩⟩⟩
  clear hMg hGg hf1
  intro _ _ R _ i _ f _ _ _ _ _ lg _ cg _ dg _ _ _ _ _ hf1 hMg hGg i0 i1 hRl hR
  refine ⟨fun hi => ?_, fun hi => ?_⟩
  · obtain ⟨hl, _⟩ := pc_atN hpc i0 (by omega)
    rw [s1 (by omega) (by omega)]
    refine ⟨i0, by omega, hl, by omega, ⟨hf1, ⟨hMg, hGg⟩, by omega, by omega, by rw [putD_len]; exact hRl, fun j j0 j1 => ?_⟩, by omega⟩
    rw [cellI_put i0 (by omega) j0]
    by_cases hji : j = i.i
    · rw [if_pos hji, hji]
    · rw [if_neg hji]; exact hR j j0 (by omega)
  have hidx : iI R.d = idxL (ρ 7).d (ρ 2).i.toNat := by
    refine list_ext_getD (by rw [iI_len, idx_len]; exact hRl) fun j hj => ?_
    rw [iI_len] at hj
    rw [idx_get (by omega)]
    have h1 := iI_get (d := R.d) (i := (j : Int)) (by omega) (by omega)
    rw [Int.toNat_natCast] at h1
    rw [h1, hR _ (by omega) (by omega)]
    rfl
  have hMg' := hMg
  obtain ⟨⟨g1, g2, g3, g4, g5, g6, g7, g8⟩, g9⟩ := hMg'
  have hb := mul_bound (x := (ρ 2).i) (y := (ρ 2).i) (by omega) (show (ρ 2).i ≤ 255 by omega) (by omega) (show (ρ 2).i ≤ 255 by omega)
  have hrk := rows_gen hch (by omega) (by omega) (by omega)
  refine ⟨⟨⟨by omega, g6, g7, g8, by omega, by omega⟩, selBad_not ⟨⟨by omega, g2, k1, by omega, g5⟩, k1, by omega⟩ fun x hx => by
    rw [hidx] at hx
    have := hch.2.2 x hx
    omega⟩, fun sr _ ls _ cs _ ds _ _ hMs hLs hSs u24 _ => ?_⟩
  obtain ⟨s2, s3, s4, s5, s6, s7, s8, s9⟩ := hMs
  have hte : (bI ds.d).take ls.i.toNat = bI ds.d := List.take_of_length_le (by rw [bI_len]; omega)
  have hS : bI ds.d = selL (genL (ρ 2).i.toNat (ρ 3).i.toNat) (ρ 2).i.toNat (idxL (ρ 7).d (ρ 2).i.toNat) := by rw [hSs, hGg, hidx]
  rw [hte, hS]
  refine ⟨⟨⟨hf1, by omega, s7, s8, s9⟩, ⟨k1, by omega, k1, by omega, s6⟩, hrk⟩, fun iv _ li _ ci _ f2 _ di _ hf2 _ hMi _ hIi u30 _ => ⟨by omega, fun u31 _ H _ _ => ⟨⟨⟨hf2, ⟨hMg, hGg⟩, hMi, hIi, by omega⟩, ⟨fun j hj => by omega, fun i j hi => by omega⟩⟩, ?_⟩⟩⟩
  clear hMg hGg hf1 hf2 hMi hIi hSs hS hte hLs s2 s3 s4 s5 s6 s7 s8 s9 g1 g2 g3 g4 g5 g6 g7 g8 g9 hidx hR hRl hi i0 i1
  have hINV := inv_bytes hch (by omega : 1 ≤ (ρ 2).i.toNat) (by omega) (by omega)
  intro _ _ _ _ i _ f _ _ _ _ _ lg _ cg _ dg _ _ _ _ _ _ _ _ _ li _ ci _ di _ _ _ C _ H _ hf1 hMg hGg hMi hIi hCl hCr i0 i1 ht
  refine ⟨fun hi => ?_, fun hi u52 _ hst => ?_⟩
  · obtain ⟨hl0, _, d0, hrd0, _, _, hN0⟩ := pc_atN hpc (j := 0) (by omega) (by omega)
    have hN0 : pcN (ρ 9).h (ρ 7).d 0 = d0.length := hN0
    refine ⟨by omega, by omega, d0, .inr hrd0, fun u0 _ u1 _ => ⟨by omega, fun nr _ => ⟨i0, by omega, ⟨i0, hi, hMi.1⟩, fun o _ n _ c _ ho hn hc => ⟨by omega, fun H' _ hst => ⟨⟨⟨hf1, ⟨hMg, hGg⟩, hMi, hIi, by rw [putD_len]; exact hCl, rows_put hCr i0 (by omega), i0, i1⟩, hi, ho, hn, by omega, ?_⟩, ?_⟩⟩⟩⟩⟩
    · obtain ⟨hx, hy, hdis, lx, ly, dx, dy⟩ := star_two (l1 := []) hst (y := SH.abs 61 2) (by simp)
      have hrd := arr_Rd (n := d0.length) (k := d0.length) dx (Hp.le_refl _) (by simp) (by simp)
      have hrd : Rd hx kB (.slice (addrOf nr.r 0) d0.length d0.length) (List.replicate d0.length [.int .u8 0]) := by simpa [kB] using hrd
      have hab : Hp.le H.h hy ∧ Hp.free H.h := by simpa [SH.den] using dy
      refine tab_new ht (Hp.le_trans hab.1 ly) hrd lx (disj_le hdis hab.1) allB_rep (fun j hj => by rw [tvs_put hCr i0 (by omega), if_neg (by omega)]) (by rw [tvs_put hCr i0 (by omega), if_pos rfl]) (fun j hj => if_neg (by omega)) ?_
      rw [if_pos rfl, bI_rep, hN0]; rfl
    clear hMg hGg hf1 hMi hIi hCl hCr ht
    intro i' _ f _ lg _ cg _ dg _ li _ ci _ di _ C _ H _ j _ o _ n _ hf1 hMg hGg hMi hIi hCl hCr i0' i1' hi' hii ho hn j0 j1 ht
    have hbo := mul_bound (x := i'.i) (y := (ρ 2).i) i0' (by omega) (by omega) (show (ρ 2).i ≤ 255 by omega)
    have hMi' := hMi
    obtain ⟨⟨m1, m2, m3, m4, m5, m6, m7, m8⟩, m9⟩ := hMi'
    refine ⟨fun hj => ?_, fun hj => ?_⟩
    · obtain ⟨hlj, _, d, hrd, hdB, hdD, hdN⟩ := pc_atN hpc j0 (show j.i < (ρ 5).i by omega)
      have hlen : d.length = pcN (ρ 9).h (ρ 7).d 0 := by rw [← hdN]; exact hLeq _ (by omega)
      have hrl : rdL (ρ 9).h (cellV (ρ 7).d j.i 1) = bI d := rdL_eq hrd
      have hltG : i'.i * (ρ 2).i + j.i < (ρ 2).i * (ρ 2).i := by
        have := Int.mul_le_mul_of_nonneg_right (show i'.i + 1 ≤ (ρ 2).i by omega) (show 0 ≤ (ρ 2).i by omega)
        rw [Int.add_mul, Int.one_mul] at this; omega
      have hcb := allB_get m8 (i := o.i + j.i) (by omega) (by omega)
      rw [s1 (by omega) (by omega), hrl]
      refine ⟨j0, by omega, by omega, by omega, i0', hi', by omega, by omega, hlj, ⟨hf1, ⟨d, hrd, hdB⟩, by rw [bI_len]; omega, ⟨tvs C.d, _, _, i'.i.toNat, ht, by omega, tvs_at i0', ?_⟩, hcb⟩, fun f' _ H' _ hf' hT => ⟨⟨⟨hf', ⟨hMg, hGg⟩, hMi, hIi, hCl, hCr, i0', i1'⟩, hi', hii, ho, hn, by omega, by omega, ?_⟩, by omega⟩⟩
      · simp only [if_pos]
        rw [bI_len, mixN_len]; omega
      · refine tab_congr (hT (tvs C.d) _ _ i'.i.toNat ht (by omega) (tvs_at i0')) (fun _ _ => rfl) fun r hr => ?_
        by_cases hri : r = i'.i.toNat
        · subst hri
          rw [if_pos rfl, if_pos rfl]
          show _ = addToL _ 0 _ _
          rw [if_pos rfl, show (j.i + 1).toNat = j.i.toNat + 1 by omega, mixN]
          have e1 : seg (pcD (ρ 9).h (ρ 7).d j.i.toNat) 0 (pcN (ρ 9).h (ρ 7).d 0) = bI d := by
            rw [hdD, ← hlen, ← bI_len (d := d)]; simp [seg]
          have e2 : (seg (invL (ρ 3).i.toNat (ρ 2).i.toNat (idxL (ρ 7).d (ρ 2).i.toNat)) (i'.i.toNat * (ρ 2).i.toNat) (ρ 2).i.toNat).getD j.i.toNat 0 = cellI di.d (o.i + j.i) 0 := by
            rw [seg_getD (by omega), ← hIi, ← cell_getD (by omega) (by omega), ho, Int.toNat_add hbo.1 j0, Int.toNat_mul i0' (by omega)]
          rw [e1, e2]
        · rw [if_neg hri, if_neg hri, if_neg hri]
    · rw [s1 (by omega) (by omega), show (i'.i + 1).toNat = i'.i.toNat + 1 by omega]
      refine ⟨⟨⟨hf1, ⟨hMg, hGg⟩, hMi, hIi, hCl, hCr, by omega, by omega⟩, tab_congr ht (fun _ _ => rfl) fun r hr => ?_⟩, by omega⟩
      by_cases hri : r = i'.i.toNat
      · subst hri
        rw [if_pos rfl, show j.i.toNat = (ρ 2).i.toNat by omega]; rfl
      · rw [if_neg hri]
  · obtain ⟨hb2, lb2, db2⟩ := star_mem_abs hst (n := 61) (t := 2) (by simp)
    rw [show i.i.toNat = (ρ 2).i.toNat by omega] at ht
    exact ⟨hf1, hCl, hCr, tab_mono ht (Hp.le_trans (by simpa using db2) lb2), hMg, hGg⟩
end Go.Proofs

set_option linter.unusedSimpArgs false
set_option linter.unusedVariables false
namespace Go.Eng
open Go Go.Proofs
noncomputable def chkH (h : Hp) (D : Rows') (k total len : Int) (n : Int) (e : Int) : Prop := chkP k total len n.toNat (pcI D) (pcN h D) e
def rebE (h : Hp) (D : Rows') (k total n index e : Int) : Prop := ((sizesB k total = false ∨ index < 0 ∨ total ≤ index) ∧ e = 2) ∨ (sizesB k total = true ∧ 0 ≤ index ∧ index < total ∧ chkH h D k total (-1) n e ∧ e ≠ 0)
def rebK (h : Hp) (D : Rows') (k total n index : Int) : Prop := sizesB k total = true ∧ 0 ≤ index ∧ index < total ∧ chkH h D k total (-1) n 0
def pcPre (h : Hp) (D : Rows') (n : Int) : Prop := 0 ≤ n ∧ n ≤ 17592186043904 ∧ pcOk h D n.toNat
def emptyPc : Bool × List T := (true, [.vint .i64 (.lit 0), .vnils])
/-- k 2, total 3, the pieces 4 .. 6, the index 7, their rows 8, 9, their bytes 10. -/
def rebuild71C : Ctr := { fn := 71, nv := 11, ip := [(1000, 9), (1001, 9)], args := [fArg, iv .i64 (.var 2), iv .i64 (.var 3), pcS 4 5 6, iv .i64 (.var 7)], heap := [fHp 1], ro := [pcHp 4 8 9, .abs 10 4], pre := fun ρ => fieldD (ρ 1).d ∧ pcPre (ρ 10).h (ρ 8).d (ρ 5).i, alts := [
  { k := 2, ret := .tup [emptyPc, eRet (.var 11)], heap := [fHp 12], post := fun ρ => fieldD (ρ 12).d ∧ rebE (ρ 10).h (ρ 8).d (ρ 2).i (ρ 3).i (ρ 5).i (ρ 7).i (ρ 11).i },
  { k := 5, ret := .tup [(true, [.vint .i64 (.var 7), .vslice 11 (.lit 0) (.var 12) (.var 13) 1]), eRet (.lit 0)], heap := [fHp 14, bHp 11 15 13], post := fun ρ => fieldD (ρ 14).d ∧ rebK (ρ 10).h (ρ 8).d (ρ 2).i (ρ 3).i (ρ 5).i (ρ 7).i ∧ (ρ 12).i = (ρ 15).d.length ∧ (ρ 15).d.length = pcN (ρ 10).h (ρ 8).d 0 ∧ allB (ρ 15).d ∧ bI (ρ 15).d = valL (ρ 10).h (ρ 8).d (ρ 2).i.toNat (ρ 7).i }] }
def again72C : Ctr := { fn := 72, nv := 9, ip := [(1000, 9), (1001, 9)], args := [iv .i64 (.var 0), iv .i64 (.var 1), pcS 2 3 4, iv .i64 (.var 5)], heap := [], ro := [pcHp 2 6 7, .abs 8 6], pre := fun ρ => pcPre (ρ 8).h (ρ 6).d (ρ 3).i ∧ (ρ 3).i ≤ (ρ 4).i, alts := [
  { k := 1, ret := .tup [emptyPc, eRet (.var 9)], heap := [], post := fun ρ => rebE (ρ 8).h (ρ 6).d (ρ 0).i (ρ 1).i (ρ 3).i (ρ 5).i (ρ 9).i },
  { k := 4, ret := .tup [(true, [.vint .i64 (.var 5), .vslice 9 (.lit 0) (.var 10) (.var 11) 1]), eRet (.lit 0)], heap := [bHp 9 12 11], post := fun ρ => rebK (ρ 8).h (ρ 6).d (ρ 0).i (ρ 1).i (ρ 3).i (ρ 5).i ∧ (ρ 10).i = (ρ 12).d.length ∧ (ρ 12).d.length = pcN (ρ 8).h (ρ 6).d 0 ∧ allB (ρ 12).d ∧ bI (ρ 12).d = valL (ρ 8).h (ρ 6).d (ρ 0).i.toNat (ρ 5).i }] }
def agreeP (h : Hp) (D : Rows') (k n : Nat) : Prop := ∀ j, j < n → valL h D k (pcI D j) = pcD h D j
def conP (h : Hp) (D : Rows') (k total n : Int) (b : Bool) (e : Int) : Prop := (sizesB k total = false ∧ b = false ∧ e = 2) ∨ (sizesB k total = true ∧ chkH h D k total (-1) n e ∧ e ≠ 0 ∧ b = false) ∨ (sizesB k total = true ∧ chkH h D k total (-1) n 0 ∧ e = 0 ∧ (b = true ↔ agreeP h D k.toNat n.toNat))
def consistent67C : Ctr := { fn := 67, nv := 10, ip := [(1000, 9), (1001, 9)], args := [fArg, iv .i64 (.var 2), iv .i64 (.var 3), pcS 4 5 6], heap := [fHp 1], ro := [pcHp 4 7 8, .abs 9 4], pre := fun ρ => fieldD (ρ 1).d ∧ pcPre (ρ 9).h (ρ 7).d (ρ 5).i, alts := [
  { k := 3, ret := .tup [(false, [.vbool (.var 10)]), eRet (.var 11)], heap := [fHp 12], post := fun ρ => fieldD (ρ 12).d ∧ conP (ρ 9).h (ρ 7).d (ρ 2).i (ρ 3).i (ρ 5).i (ρ 10).b (ρ 11).i }] }
/-- 1000, 1001 the columns, 1002 the round, 1003 the field, 1004 .. 1008 the generator, 1009 the columns' bytes. -/
def consistent67I : Inv := { key := 10, nv := 10, env := [(0, fArg), (11, .one (.vslice 1000 (.lit 0) (.var 2) (.var 2) 1)), (12, .one (.vptr 1004 (.lit 0) 3 0)), (36, pcS 4 5 6), (37, iv .i64 (.var 5)), (38, iv .i64 (.var 1002))], heap := [fHp 1003, boxM 1004 3 2 1005 1006 1007, bHp 1005 1008 1007, .arr 1000 27 [.any] (.var 1001) (.var 2), .abs 1009 2], inv := (fun ρ => fieldD (ρ 1003).d ∧ genW ρ 1006 1007 1008 ∧ (ρ 1001).d.length = (ρ 2).i.toNat ∧ (∀ row ∈ (ρ 1001).d, row.length = 1) ∧ tabV (ρ 1009).h (tvs (ρ 1001).d) (ρ 2).i.toNat (solM (ρ 9).h (ρ 7).d (ρ 3).i.toNat (ρ 2).i.toNat) ∧ sizesB (ρ 2).i (ρ 3).i = true ∧ chkH (ρ 9).h (ρ 7).d (ρ 2).i (ρ 3).i (-1) (ρ 5).i 0 ∧ 0 ≤ (ρ 1002).i ∧ (ρ 1002).i ≤ (ρ 5).i ∧ agreeP (ρ 9).h (ρ 7).d (ρ 2).i.toNat (ρ 1002).i.toNat), mu := (fun ρ => ((ρ 5).i - (ρ 1002).i).toNat) }
def agree73C : Ctr := { fn := 73, nv := 8, ip := [(1000, 9), (1001, 9)], args := [iv .i64 (.var 0), iv .i64 (.var 1), pcS 2 3 4], heap := [], ro := [pcHp 2 5 6, .abs 7 6], pre := fun ρ => pcPre (ρ 7).h (ρ 5).d (ρ 3).i ∧ (ρ 3).i ≤ (ρ 4).i, alts := [
  { k := 2, ret := .tup [(false, [.vbool (.var 8)]), eRet (.var 9)], heap := [], post := fun ρ => conP (ρ 7).h (ρ 5).d (ρ 0).i (ρ 1).i (ρ 3).i (ρ 8).b (ρ 9).i }] }
def agree73I : Inv := { key := 7, nv := 1, env := [(0, iv .i64 (.var 0)), (2, pcS 2 3 4), (9, iv .i64 (.var 1000))], heap := [], inv := (fun ρ => sizesB (ρ 0).i (ρ 1).i = true ∧ chkH (ρ 7).h (ρ 5).d (ρ 0).i (ρ 1).i (-1) (ρ 3).i 0 ∧ 0 ≤ (ρ 1000).i ∧ (ρ 1000).i ≤ (ρ 3).i ∧ agreeP (ρ 7).h (ρ 5).d (ρ 0).i.toNat (ρ 1000).i.toNat), mu := (fun ρ => ((ρ 3).i - (ρ 1000).i).toNat) }
/-! ### The law -/
/-- The first list is a copy of the caller's, the second is read only. -/
def same33Q : Ctr := same33Of [.abs 10 4] [.abs 11 6] 10 11
def lawRebuildsC : Ctr := { lawIs 24 28 [caseArg] caseRo (fun ρ => caseIn ρ ∧ (ρ 17).i ≤ (ρ 18).i) with ip := [(1000, 9), (1001, 9)] }
end Go.Eng

set_option linter.unusedSimpArgs false
set_option linter.unusedVariables false
set_option maxRecDepth 100000
namespace Go.Proofs
open Go Go.Eng

def o_rebuild71 : Out := (.fresh 11 (.br (.and (.cmp .eql (.dlen (.var 1)) (.lit (0))) (.isnil 0))
 (.ret 0 ⟨11, [(12, (.t (.var 1))), (11, (.t (.lit (1))))], [((.lit (1)), (.lit (1))), ((.lit (0)), (.lit (0)))], [], []⟩)
 (.pre 0 ⟨0, [(1, (.t (.var 3))), (0, (.t (.var 2)))], [], [], []⟩ (.both (.fresh 12 (.post 0 0 ⟨0, [(1, (.t (.var 3))), (0, (.t (.var 2)))], [], [], []⟩ 12 (.br (.not (.var 12))
 (.ret 0 ⟨11, [(12, (.t (.var 1))), (11, (.t (.lit (2))))], [((.lit (1)), (.lit (1))), ((.lit (0)), (.lit (0)))], [], []⟩)
 (.br (.cmp .lss (.var 7) (.lit (0)))
 (.ret 0 ⟨11, [(12, (.t (.var 1))), (11, (.t (.lit (2))))], [((.lit (1)), (.lit (1))), ((.lit (0)), (.lit (0)))], [], []⟩)
 (.br (.cmp .geq (.var 7) (.var 3))
 (.ret 0 ⟨11, [(12, (.t (.var 1))), (11, (.t (.lit (2))))], [((.lit (1)), (.lit (1))), ((.lit (0)), (.lit (0)))], [], []⟩)
 (.pre 1 ⟨0, [(8, (.r 10)), (7, (.t (.var 9))), (6, (.t (.var 8))), (5, (.t (.var 6))), (4, (.t (.var 5))), (3, (.r 4)), (2, (.t (.lit (-1)))), (1, (.t (.var 3))), (0, (.t (.var 2)))], [((.lit (0)), (.lit (0)))], [], []⟩ (.both (.fresh 13 (.post 1 0 ⟨0, [(8, (.r 10)), (7, (.t (.var 9))), (6, (.t (.var 8))), (5, (.t (.var 6))), (4, (.t (.var 5))), (3, (.r 4)), (2, (.t (.lit (-1)))), (1, (.t (.var 3))), (0, (.t (.var 2)))], [((.lit (0)), (.lit (0)))], [], []⟩ 13 (.br (.cmp .neq (.var 13) (.lit (0)))
 (.ret 0 ⟨11, [(12, (.t (.var 1))), (11, (.t (.var 13)))], [((.lit (1)), (.lit (1))), ((.lit (0)), (.lit (0)))], [], []⟩)
 (.pre 2 ⟨0, [(9, (.r 10)), (8, (.t (.var 9))), (7, (.t (.var 8))), (1, (.t (.var 1))), (6, (.t (.var 6))), (5, (.t (.var 5))), (4, (.r 4)), (3, (.t (.var 3))), (2, (.t (.var 2))), (0, (.r 0))], [((.lit (1)), (.lit (1))), ((.lit (0)), (.lit (0))), ((.lit (0)), (.lit (0)))], [], []⟩ (.both (.fresh 14 (.fresh 15 (.fresh 16 (.fresh 17 (.fresh 18 (.fresh 19 (.fresh 20 (.fresh 21 (.post 2 0 ⟨0, [(9, (.r 10)), (8, (.t (.var 9))), (7, (.t (.var 8))), (1, (.t (.var 1))), (6, (.t (.var 6))), (5, (.t (.var 5))), (4, (.r 4)), (3, (.t (.var 3))), (2, (.t (.var 2))), (0, (.r 0))], [((.lit (1)), (.lit (1))), ((.lit (0)), (.lit (0))), ((.lit (0)), (.lit (0)))], [], []⟩ 14 (.fresh 22 (.pre 3 ⟨0, [(6, (.t (.var 17))), (5, (.t (.var 21))), (7, (.t (.var 7))), (4, (.t (.var 17))), (3, (.t (.var 16))), (2, (.r 15)), (1, (.t (.var 2))), (0, (.t (.var 3)))], [((.lit (0)), (.lit (0)))], [], []⟩ (.both (.fresh 23 (.fresh 24 (.fresh 25 (.post 3 0 ⟨0, [(6, (.t (.var 17))), (5, (.t (.var 21))), (7, (.t (.var 7))), (4, (.t (.var 17))), (3, (.t (.var 16))), (2, (.r 15)), (1, (.t (.var 2))), (0, (.t (.var 3)))], [((.lit (0)), (.lit (0)))], [], []⟩ 23 (.pre 4 ⟨0, [(13, (.r 20)), (12, (.t (.var 17))), (11, (.t (.var 21))), (6, (.t (.var 2))), (5, (.t (.var 19))), (1, (.t (.var 18))), (10, (.t (.var 25))), (9, (.t (.var 24))), (8, (.t (.var 23))), (7, (.r 15)), (4, (.t (.var 2))), (3, (.t (.var 2))), (2, (.r 14)), (0, (.r 0))], [((.lit (1)), (.lit (1))), ((.lit (0)), (.lit (0))), ((.lit (0)), (.lit (0)))], [], []⟩ (.both (.fresh 26 (.fresh 27 (.fresh 28 (.fresh 29 (.fresh 30 (.post 4 0 ⟨0, [(13, (.r 20)), (12, (.t (.var 17))), (11, (.t (.var 21))), (6, (.t (.var 2))), (5, (.t (.var 19))), (1, (.t (.var 18))), (10, (.t (.var 25))), (9, (.t (.var 24))), (8, (.t (.var 23))), (7, (.r 15)), (4, (.t (.var 2))), (3, (.t (.var 2))), (2, (.r 14)), (0, (.r 0))], [((.lit (1)), (.lit (1))), ((.lit (0)), (.lit (0))), ((.lit (0)), (.lit (0)))], [], []⟩ 26 (.ret 1 ⟨11, [(15, (.t (.var 30))), (14, (.t (.var 29))), (13, (.t (.var 28))), (12, (.t (.var 27))), (11, (.r 26))], [((.var 13), (.var 28)), ((.lit (1)), (.lit (1))), ((.lit (0)), (.lit (0))), ((.lit (0)), (.lit (0))), ((.var 7), (.var 7))], [], []⟩))))))) .top)))))) .top)))))))))))) .top))))) .top))))))) .top))))
theorem o_rebuild71_eq : treeOf ⟨Try.prog, rebuild71C, [sizes74C, check88C, solve89C, row75C, combine91C], []⟩ 100000 Try.f71 = o_rebuild71 := by kernel_rfl
theorem rebuild71_of (hd : ∀ c ∈ ([sizes74C, check88C, solve89C, row75C, combine91C] : List Ctr), c.ok Try.prog) (h : ∀ ρ : Env, ρ.good → (rebuild71C).pre ρ → o_rebuild71.den ⟨Try.prog, rebuild71C, [sizes74C, check88C, solve89C, row75C, combine91C], []⟩ ρ) : (rebuild71C).ok Try.prog :=
  ok_of_tree Try.func71 (fun a w => Try.call71 a w) hd 100000 (fun ρ hg hp => by rw [o_rebuild71_eq]; exact h ρ hg hp)
def o_again72 : Out := (.fresh 9 (.pre 0 ⟨0, [(1, (.t (.var 1))), (0, (.t (.var 0)))], [], [], []⟩ (.both (.fresh 10 (.post 0 0 ⟨0, [(1, (.t (.var 1))), (0, (.t (.var 0)))], [], [], []⟩ 10 (.br (.not (.var 10))
 (.ret 0 ⟨9, [(9, (.t (.lit (2))))], [((.lit (0)), (.lit (0)))], [], []⟩)
 (.br (.cmp .lss (.var 5) (.lit (0)))
 (.ret 0 ⟨9, [(9, (.t (.lit (2))))], [((.lit (0)), (.lit (0)))], [], []⟩)
 (.br (.cmp .geq (.var 5) (.var 1))
 (.ret 0 ⟨9, [(9, (.t (.lit (2))))], [((.lit (0)), (.lit (0)))], [], []⟩)
 (.pre 1 ⟨0, [(8, (.r 8)), (7, (.t (.var 7))), (6, (.t (.var 6))), (5, (.t (.var 4))), (4, (.t (.var 3))), (3, (.r 2)), (2, (.t (.lit (-1)))), (1, (.t (.var 1))), (0, (.t (.var 0)))], [((.lit (0)), (.lit (0)))], [], []⟩ (.both (.fresh 11 (.post 1 0 ⟨0, [(8, (.r 8)), (7, (.t (.var 7))), (6, (.t (.var 6))), (5, (.t (.var 4))), (4, (.t (.var 3))), (3, (.r 2)), (2, (.t (.lit (-1)))), (1, (.t (.var 1))), (0, (.t (.var 0)))], [((.lit (0)), (.lit (0)))], [], []⟩ 11 (.br (.cmp .neq (.var 11) (.lit (0)))
 (.ret 0 ⟨9, [(9, (.t (.var 11)))], [((.lit (0)), (.lit (0)))], [], []⟩)
 (.pre 2 ⟨0, [(7, (.r 8)), (5, (.t (.var 7))), (4, (.t (.var 6))), (6, (.t (.conv .u8 (.var 5)))), (3, (.t (.var 4))), (2, (.t (.var 3))), (1, (.r 2)), (0, (.t (.var 0)))], [((.lit (0)), (.lit (0)))], [], []⟩ (.both (.fresh 12 (.fresh 13 (.fresh 14 (.fresh 15 (.post 2 0 ⟨0, [(7, (.r 8)), (5, (.t (.var 7))), (4, (.t (.var 6))), (6, (.t (.conv .u8 (.var 5)))), (3, (.t (.var 4))), (2, (.t (.var 3))), (1, (.r 2)), (0, (.t (.var 0)))], [((.lit (0)), (.lit (0)))], [], []⟩ 12 (.ret 1 ⟨9, [(12, (.t (.var 15))), (11, (.t (.var 14))), (10, (.t (.var 13))), (9, (.r 12))], [((.var 11), (.var 14)), ((.lit (0)), (.lit (0))), ((.lit (0)), (.lit (0))), ((.var 5), (.var 5))], [], []⟩)))))) .top))))) .top))))))) .top)))
theorem o_again72_eq : treeOf ⟨Try.prog, again72C, [sizes29C, check93C, value94C], []⟩ 100000 Try.f72 = o_again72 := by kernel_rfl
theorem again72_of (hd : ∀ c ∈ ([sizes29C, check93C, value94C] : List Ctr), c.ok Try.prog) (h : ∀ ρ : Env, ρ.good → (again72C).pre ρ → o_again72.den ⟨Try.prog, again72C, [sizes29C, check93C, value94C], []⟩ ρ) : (again72C).ok Try.prog :=
  ok_of_tree Try.func72 (fun a w => Try.call72 a w) hd 100000 (fun ρ hg hp => by rw [o_again72_eq]; exact h ρ hg hp)
def o_consistent67 : Out := (.br (.and (.cmp .eql (.dlen (.var 1)) (.lit (0))) (.isnil 0))
 (.ret 0 ⟨10, [(12, (.t (.var 1))), (11, (.t (.lit (1)))), (10, (.t (.bl false)))], [((.lit (1)), (.lit (1)))], [], []⟩)
 (.pre 0 ⟨0, [(1, (.t (.var 3))), (0, (.t (.var 2)))], [], [], []⟩ (.both (.fresh 10 (.post 0 0 ⟨0, [(1, (.t (.var 3))), (0, (.t (.var 2)))], [], [], []⟩ 10 (.br (.not (.var 10))
 (.ret 0 ⟨10, [(12, (.t (.var 1))), (11, (.t (.lit (2)))), (10, (.t (.bl false)))], [((.lit (1)), (.lit (1)))], [], []⟩)
 (.pre 1 ⟨0, [(8, (.r 9)), (7, (.t (.var 8))), (6, (.t (.var 7))), (5, (.t (.var 6))), (4, (.t (.var 5))), (3, (.r 4)), (2, (.t (.lit (-1)))), (1, (.t (.var 3))), (0, (.t (.var 2)))], [((.lit (0)), (.lit (0)))], [], []⟩ (.both (.fresh 11 (.post 1 0 ⟨0, [(8, (.r 9)), (7, (.t (.var 8))), (6, (.t (.var 7))), (5, (.t (.var 6))), (4, (.t (.var 5))), (3, (.r 4)), (2, (.t (.lit (-1)))), (1, (.t (.var 3))), (0, (.t (.var 2)))], [((.lit (0)), (.lit (0)))], [], []⟩ 11 (.br (.cmp .neq (.var 11) (.lit (0)))
 (.ret 0 ⟨10, [(12, (.t (.var 1))), (11, (.t (.var 11))), (10, (.t (.bl false)))], [((.lit (1)), (.lit (1)))], [], []⟩)
 (.pre 2 ⟨0, [(9, (.r 9)), (8, (.t (.var 8))), (7, (.t (.var 7))), (1, (.t (.var 1))), (6, (.t (.var 6))), (5, (.t (.var 5))), (4, (.r 4)), (3, (.t (.var 3))), (2, (.t (.var 2))), (0, (.r 0))], [((.lit (1)), (.lit (1))), ((.lit (0)), (.lit (0))), ((.lit (0)), (.lit (0)))], [], []⟩ (.both (.fresh 12 (.fresh 13 (.fresh 14 (.fresh 15 (.fresh 16 (.fresh 17 (.fresh 18 (.fresh 19 (.post 2 0 ⟨0, [(9, (.r 9)), (8, (.t (.var 8))), (7, (.t (.var 7))), (1, (.t (.var 1))), (6, (.t (.var 6))), (5, (.t (.var 5))), (4, (.r 4)), (3, (.t (.var 3))), (2, (.t (.var 2))), (0, (.r 0))], [((.lit (1)), (.lit (1))), ((.lit (0)), (.lit (0))), ((.lit (0)), (.lit (0)))], [], []⟩ 12 (.fresh 20 (.need (.cmp .leq (.lit (0)) (.var 5)) (.inv 0 21 ⟨1000, [(1009, (.r 18)), (1001, (.t (.var 17))), (1008, (.t (.var 19))), (1007, (.t (.var 15))), (1006, (.t (.var 14))), (1005, (.r 13)), (1003, (.t (.var 16))), (1002, (.t (.lit (0)))), (1004, (.r 20)), (1000, (.r 12))], [((.var 2), (.var 2)), ((.var 1007), (.var 15)), ((.lit (0)), (.lit (0))), ((.var 2), (.var 2)), ((.var 3), (.var 3)), ((.lit (1)), (.lit (1))), ((.var 5), (.var 5)), ((.var 6), (.var 6)), ((.var 5), (.var 5)), ((.lit (0)), (.lit (0))), ((.var 2), (.var 2)), ((.var 2), (.var 2)), ((.lit (0)), (.lit (0))), ((.lit (0)), (.lit (0)))], [], []⟩ (.fresh 21 (.fresh 22 (.fresh 23 (.fresh 24 (.fresh 25 (.fresh 26 (.fresh 27 (.fresh 28 (.fresh 29 (.fresh 30 (.hyp 0 21 (.br (.cmp .lss (.var 23) (.var 5))
 (.need (.cmp .leq (.lit (0)) (.var 23)) (.need (.cmp .lss (.var 23) (.dlen (.var 7))) (.fresh 31 (.both (.pre 3 ⟨0, [(6, (.t (.var 28))), (5, (.t (.var 29))), (7, (.t (.icell (.var 7) (.var 23) 0))), (4, (.t (.var 28))), (3, (.t (.var 27))), (2, (.r 26)), (1, (.t (.var 2))), (0, (.t (.var 3)))], [((.lit (0)), (.lit (0)))], [], []⟩ (.both (.fresh 32 (.fresh 33 (.fresh 34 (.post 3 0 ⟨0, [(6, (.t (.var 28))), (5, (.t (.var 29))), (7, (.t (.icell (.var 7) (.var 23) 0))), (4, (.t (.var 28))), (3, (.t (.var 27))), (2, (.r 26)), (1, (.t (.var 2))), (0, (.t (.var 3)))], [((.lit (0)), (.lit (0)))], [], []⟩ 32 (.both (.pre 4 ⟨0, [(13, (.r 30)), (12, (.t (.var 28))), (11, (.t (.var 29))), (6, (.t (.var 2))), (5, (.t (.var 22))), (1, (.t (.var 24))), (10, (.t (.var 34))), (9, (.t (.var 33))), (8, (.t (.var 32))), (7, (.r 26)), (4, (.t (.var 2))), (3, (.t (.var 2))), (2, (.r 21)), (0, (.r 0))], [((.lit (1)), (.lit (1))), ((.lit (0)), (.lit (0))), ((.lit (0)), (.lit (0)))], [], []⟩ (.both (.fresh 35 (.fresh 36 (.fresh 37 (.fresh 38 (.fresh 39 (.post 4 0 ⟨0, [(13, (.r 30)), (12, (.t (.var 28))), (11, (.t (.var 29))), (6, (.t (.var 2))), (5, (.t (.var 22))), (1, (.t (.var 24))), (10, (.t (.var 34))), (9, (.t (.var 33))), (8, (.t (.var 32))), (7, (.r 26)), (4, (.t (.var 2))), (3, (.t (.var 2))), (2, (.r 21)), (0, (.r 0))], [((.lit (1)), (.lit (1))), ((.lit (0)), (.lit (0))), ((.lit (0)), (.lit (0)))], [], []⟩ 35 (.both (.pre 5 ⟨0, [(6, (.r 9)), (4, (.t (.var 37))), (3, (.t (.var 39))), (5, (.t (.vcell (.var 7) (.var 23) 1))), (2, (.t (.var 37))), (1, (.t (.var 36))), (0, (.r 35))], [((.lit (0)), (.lit (0)))], [], []⟩ (.both (.fresh 40 (.post 5 0 ⟨0, [(6, (.r 9)), (4, (.t (.var 37))), (3, (.t (.var 39))), (5, (.t (.vcell (.var 7) (.var 23) 1))), (2, (.t (.var 37))), (1, (.t (.var 36))), (0, (.r 35))], [((.lit (0)), (.lit (0)))], [], []⟩ 40 (.br (.not (.var 40))
 (.ret 0 ⟨10, [(12, (.t (.var 38))), (11, (.t (.lit (0)))), (10, (.t (.bl false)))], [((.lit (1)), (.lit (1)))], [], []⟩)
 (.pack [.arr 35 5 [CK.int .u8] (.var 39) (.var 37), .cells 31 36 [(.vint .i64 (.icell (.var 7) (.var 23) 0)), (.vcell (.var 7) (.var 23) 1)], .abs 30 2] 41 (.back 0 21 ⟨1000, [(1009, (.r 41)), (1001, (.t (.var 22))), (1008, (.t (.var 29))), (1007, (.t (.var 28))), (1006, (.t (.var 27))), (1005, (.r 26)), (1003, (.t (.var 38))), (1002, (.t (.arith .add .i64 (.var 23) (.lit (1))))), (1004, (.r 25)), (1000, (.r 21))], [((.var 2), (.var 2)), ((.var 1007), (.var 28)), ((.lit (0)), (.lit (0))), ((.var 2), (.var 2)), ((.var 3), (.var 3)), ((.lit (1)), (.lit (1))), ((.var 5), (.var 5)), ((.var 6), (.var 6)), ((.var 5), (.var 5)), ((.lit (0)), (.lit (0))), ((.lit (0)), (.lit (0))), ((.var 2), (.var 2)), ((.var 2), (.var 2)), ((.lit (0)), (.lit (0))), ((.lit (0)), (.lit (0)))], [], []⟩))))) .top)) .top))))))) .top)) .top))))) .top)) .top))))
 (.ret 0 ⟨10, [(12, (.t (.var 24))), (11, (.t (.lit (0)))), (10, (.t (.bl true)))], [((.lit (1)), (.lit (1)))], [], []⟩))))))))))))))))))))))))) .top))))) .top))))) .top)))
theorem o_consistent67_eq : treeOf ⟨Try.prog, consistent67C, [sizes74C, check88C, solve89C, row75C, combine91C, equal90C], [consistent67I]⟩ 100000 Try.f67 = o_consistent67 := by kernel_rfl
theorem consistent67_of (hd : ∀ c ∈ ([sizes74C, check88C, solve89C, row75C, combine91C, equal90C] : List Ctr), c.ok Try.prog) (h : ∀ ρ : Env, ρ.good → (consistent67C).pre ρ → o_consistent67.den ⟨Try.prog, consistent67C, [sizes74C, check88C, solve89C, row75C, combine91C, equal90C], [consistent67I]⟩ ρ) : (consistent67C).ok Try.prog :=
  ok_of_tree Try.func67 (fun a w => Try.call67 a w) hd 100000 (fun ρ hg hp => by rw [o_consistent67_eq]; exact h ρ hg hp)
def o_agree73 : Out := (.pre 0 ⟨0, [(1, (.t (.var 1))), (0, (.t (.var 0)))], [], [], []⟩ (.both (.fresh 8 (.post 0 0 ⟨0, [(1, (.t (.var 1))), (0, (.t (.var 0)))], [], [], []⟩ 8 (.br (.not (.var 8))
 (.ret 0 ⟨8, [(9, (.t (.lit (2)))), (8, (.t (.bl false)))], [], [], []⟩)
 (.pre 1 ⟨0, [(8, (.r 7)), (7, (.t (.var 6))), (6, (.t (.var 5))), (5, (.t (.var 4))), (4, (.t (.var 3))), (3, (.r 2)), (2, (.t (.lit (-1)))), (1, (.t (.var 1))), (0, (.t (.var 0)))], [((.lit (0)), (.lit (0)))], [], []⟩ (.both (.fresh 9 (.post 1 0 ⟨0, [(8, (.r 7)), (7, (.t (.var 6))), (6, (.t (.var 5))), (5, (.t (.var 4))), (4, (.t (.var 3))), (3, (.r 2)), (2, (.t (.lit (-1)))), (1, (.t (.var 1))), (0, (.t (.var 0)))], [((.lit (0)), (.lit (0)))], [], []⟩ 9 (.br (.cmp .neq (.var 9) (.lit (0)))
 (.ret 0 ⟨8, [(9, (.t (.var 9))), (8, (.t (.bl false)))], [], [], []⟩)
 (.inv 0 10 ⟨1000, [(1000, (.t (.lit (0))))], [((.var 4), (.var 4)), ((.var 3), (.var 3)), ((.lit (0)), (.lit (0))), ((.var 0), (.var 0))], [], []⟩ (.fresh 10 (.hyp 0 10 (.need (.cmp .leq (.lit (0)) (.var 3)) (.br (.cmp .lss (.var 10) (.var 3))
 (.need (.cmp .leq (.lit (0)) (.var 10)) (.need (.cmp .lss (.var 10) (.dlen (.var 5))) (.both (.pre 2 ⟨0, [(7, (.r 7)), (5, (.t (.var 6))), (4, (.t (.var 5))), (6, (.t (.conv .u8 (.icell (.var 5) (.var 10) 0)))), (3, (.t (.var 4))), (2, (.t (.var 3))), (1, (.r 2)), (0, (.t (.var 0)))], [((.lit (0)), (.lit (0)))], [], []⟩ (.both (.fresh 11 (.fresh 12 (.fresh 13 (.fresh 14 (.post 2 0 ⟨0, [(7, (.r 7)), (5, (.t (.var 6))), (4, (.t (.var 5))), (6, (.t (.conv .u8 (.icell (.var 5) (.var 10) 0)))), (3, (.t (.var 4))), (2, (.t (.var 3))), (1, (.r 2)), (0, (.t (.var 0)))], [((.lit (0)), (.lit (0)))], [], []⟩ 11 (.both (.need (.cmp .leq (.lit (0)) (.var 12)) (.need (.cmp .leq (.var 12) (.dlen (.var 14))) (.both (.view (.vcell (.var 5) (.var 10) 1) [CK.int .u8] [7] 15 (.br (.not (.c2 .veq (.c1 .vbytes (.dtake (.var 14) (.var 12))) (.c1 .vbytes (.var 17))))
 (.ret 0 ⟨8, [(9, (.t (.lit (0)))), (8, (.t (.bl false)))], [], [], []⟩)
 (.back 0 10 ⟨1000, [(1000, (.t (.arith .add .i64 (.var 10) (.lit (1)))))], [((.var 4), (.var 4)), ((.var 3), (.var 3)), ((.lit (0)), (.lit (0))), ((.var 0), (.var 0))], [], []⟩))) .top))) (.both (.view (.vcell (.var 5) (.var 10) 1) [CK.int .u8] [7] 15 (.both (.need (.cmp .leq (.lit (0)) (.var 12)) (.need (.cmp .leq (.var 12) (.dlen (.var 14))) (.br (.not (.c2 .veq (.c1 .vbytes (.dtake (.var 14) (.var 12))) (.c1 .vbytes (.var 17))))
 (.ret 0 ⟨8, [(9, (.t (.lit (0)))), (8, (.t (.bl false)))], [], [], []⟩)
 (.back 0 10 ⟨1000, [(1000, (.t (.arith .add .i64 (.var 10) (.lit (1)))))], [((.var 4), (.var 4)), ((.var 3), (.var 3)), ((.lit (0)), (.lit (0))), ((.var 0), (.var 0))], [], []⟩)))) .top)) .top))))))) .top)) (.both (.view (.vcell (.var 5) (.var 10) 1) [CK.int .u8] [7] 11 (.both (.pre 2 ⟨0, [(7, (.r 7)), (5, (.t (.var 6))), (4, (.t (.var 5))), (6, (.t (.conv .u8 (.icell (.var 5) (.var 10) 0)))), (3, (.t (.var 4))), (2, (.t (.var 3))), (1, (.r 2)), (0, (.t (.var 0)))], [((.lit (0)), (.lit (0)))], [], []⟩ (.both (.fresh 14 (.fresh 15 (.fresh 16 (.fresh 17 (.post 2 0 ⟨0, [(7, (.r 7)), (5, (.t (.var 6))), (4, (.t (.var 5))), (6, (.t (.conv .u8 (.icell (.var 5) (.var 10) 0)))), (3, (.t (.var 4))), (2, (.t (.var 3))), (1, (.r 2)), (0, (.t (.var 0)))], [((.lit (0)), (.lit (0)))], [], []⟩ 14 (.both (.need (.cmp .leq (.lit (0)) (.var 15)) (.need (.cmp .leq (.var 15) (.dlen (.var 17))) (.br (.not (.c2 .veq (.c1 .vbytes (.dtake (.var 17) (.var 15))) (.c1 .vbytes (.var 13))))
 (.ret 0 ⟨8, [(9, (.t (.lit (0)))), (8, (.t (.bl false)))], [], [], []⟩)
 (.back 0 10 ⟨1000, [(1000, (.t (.arith .add .i64 (.var 10) (.lit (1)))))], [((.var 4), (.var 4)), ((.var 3), (.var 3)), ((.lit (0)), (.lit (0))), ((.var 0), (.var 0))], [], []⟩)))) .top)))))) .top)) .top)) .top))))
 (.ret 0 ⟨8, [(9, (.t (.lit (0)))), (8, (.t (.bl true)))], [], [], []⟩))))))))) .top))))) .top))
theorem o_agree73_eq : treeOf ⟨Try.prog, agree73C, [sizes29C, check93C, value94C], [agree73I]⟩ 100000 Try.f73 = o_agree73 := by kernel_rfl
theorem agree73_of (hd : ∀ c ∈ ([sizes29C, check93C, value94C] : List Ctr), c.ok Try.prog) (h : ∀ ρ : Env, ρ.good → (agree73C).pre ρ → o_agree73.den ⟨Try.prog, agree73C, [sizes29C, check93C, value94C], [agree73I]⟩ ρ) : (agree73C).ok Try.prog :=
  ok_of_tree Try.func73 (fun a w => Try.call73 a w) hd 100000 (fun ρ hg hp => by rw [o_agree73_eq]; exact h ρ hg hp)
def o_same33q : Out := (.need (.cmp .leq (.lit (0)) (.var 1)) (.need (.cmp .leq (.lit (0)) (.var 6)) (.br (.cmp .neq (.var 1) (.var 6))
 (.ret 0 ⟨12, [(12, (.t (.bl false)))], [], [], []⟩)
 (.inv 0 12 ⟨1000, [(1000, (.t (.lit (0))))], [((.var 7), (.var 7)), ((.var 6), (.var 6)), ((.lit (0)), (.lit (0))), ((.var 2), (.var 2)), ((.var 1), (.var 1)), ((.lit (0)), (.lit (0)))], [], []⟩ (.fresh 12 (.hyp 0 12 (.br (.cmp .lss (.var 12) (.var 1))
 (.need (.cmp .leq (.lit (0)) (.var 12)) (.need (.cmp .lss (.var 12) (.dlen (.var 3))) (.need (.cmp .lss (.var 12) (.var 6)) (.need (.cmp .lss (.var 12) (.dlen (.var 8))) (.br (.cmp .neq (.icell (.var 3) (.var 12) 0) (.icell (.var 8) (.var 12) 0))
 (.ret 0 ⟨12, [(12, (.t (.bl false)))], [], [], []⟩)
 (.both (.view (.vcell (.var 3) (.var 12) 1) [CK.int .u8] [10, 11] 13 (.both (.view (.vcell (.var 8) (.var 12) 1) [CK.int .u8] [10, 11] 16 (.br (.not (.c2 .veq (.c1 .vbytes (.var 15)) (.c1 .vbytes (.var 18))))
 (.ret 0 ⟨12, [(12, (.t (.bl false)))], [], [], []⟩)
 (.back 0 12 ⟨1000, [(1000, (.t (.arith .add .i64 (.var 12) (.lit (1)))))], [((.var 7), (.var 7)), ((.var 6), (.var 6)), ((.lit (0)), (.lit (0))), ((.var 2), (.var 2)), ((.var 1), (.var 1)), ((.lit (0)), (.lit (0)))], [], []⟩))) .top)) (.both (.view (.vcell (.var 8) (.var 12) 1) [CK.int .u8] [10, 11] 13 (.both (.view (.vcell (.var 3) (.var 12) 1) [CK.int .u8] [10, 11] 16 (.br (.not (.c2 .veq (.c1 .vbytes (.var 18)) (.c1 .vbytes (.var 15))))
 (.ret 0 ⟨12, [(12, (.t (.bl false)))], [], [], []⟩)
 (.back 0 12 ⟨1000, [(1000, (.t (.arith .add .i64 (.var 12) (.lit (1)))))], [((.var 7), (.var 7)), ((.var 6), (.var 6)), ((.lit (0)), (.lit (0))), ((.var 2), (.var 2)), ((.var 1), (.var 1)), ((.lit (0)), (.lit (0)))], [], []⟩))) .top)) .top)))))))
 (.ret 0 ⟨12, [(12, (.t (.bl true)))], [], [], []⟩))))))))
theorem o_same33q_eq : treeOf ⟨Try.prog, same33Q, [], [same33IOf [.abs 10 4] 10 11]⟩ 100000 Try.f33 = o_same33q := by kernel_rfl
theorem same33q_of (hd : ∀ c ∈ ([] : List Ctr), c.ok Try.prog) (h : ∀ ρ : Env, ρ.good → (same33Q).pre ρ → o_same33q.den ⟨Try.prog, same33Q, [], [same33IOf [.abs 10 4] 10 11]⟩ ρ) : (same33Q).ok Try.prog :=
  ok_of_tree Try.func33 (fun a w => Try.call33 a w) hd 100000 (fun ρ hg hp => by rw [o_same33q_eq]; exact h ρ hg hp)
def o_lawRebuilds : Out := (.fresh 28 (.pre 0 ⟨0, [(5, (.r 27)), (4, (.t (.var 26))), (3, (.t (.var 25))), (2, (.t (.var 18))), (1, (.t (.var 17))), (0, (.r 16))], [((.lit (0)), (.lit (0)))], [], []⟩ (.both (.post 0 0 ⟨0, [(5, (.r 27)), (4, (.t (.var 26))), (3, (.t (.var 25))), (2, (.t (.var 18))), (1, (.t (.var 17))), (0, (.r 16))], [((.lit (0)), (.lit (0)))], [], []⟩ 29 (.pre 8 ⟨0, [], [], [], []⟩ (.both (.post 8 0 ⟨0, [], [], [], []⟩ 29 (.ret 0 ⟨28, [], [], [((.bl true), (.bl true))], []⟩)) .top))) (.both (.fresh 29 (.fresh 30 (.fresh 31 (.fresh 32 (.post 0 1 ⟨0, [(5, (.r 27)), (4, (.t (.var 26))), (3, (.t (.var 25))), (2, (.t (.var 18))), (1, (.t (.var 17))), (0, (.r 16))], [((.lit (0)), (.lit (0)))], [], []⟩ 29 (.br (.cmp .gtr (.var 0) (.lit (60)))
 (.pre 1 ⟨0, [(1, (.t (.var 1))), (0, (.t (.var 0)))], [], [], []⟩ (.both (.fresh 33 (.post 1 0 ⟨0, [(1, (.t (.var 1))), (0, (.t (.var 0)))], [], [], []⟩ 33 (.br (.var 33)
 (.pre 8 ⟨0, [], [], [], []⟩ (.both (.post 8 0 ⟨0, [], [], [], []⟩ 34 (.ret 0 ⟨28, [], [], [((.bl true), (.bl true))], []⟩)) .top))
 (.pre 2 ⟨0, [], [], [], []⟩ (.both (.fresh 34 (.fresh 35 (.post 2 0 ⟨0, [], [], [], []⟩ 34 (.pre 3 ⟨0, [(10, (.r 32)), (9, (.t (.var 30))), (8, (.t (.var 31))), (1, (.t (.var 35))), (7, (.t (.var 3))), (6, (.t (.var 30))), (5, (.t (.var 17))), (4, (.r 29)), (3, (.t (.var 1))), (2, (.t (.var 0))), (0, (.r 34))], [((.lit (1)), (.lit (1))), ((.lit (0)), (.lit (0))), ((.lit (0)), (.lit (0)))], [], []⟩ (.both (.fresh 36 (.fresh 37 (.post 3 0 ⟨0, [(10, (.r 32)), (9, (.t (.var 30))), (8, (.t (.var 31))), (1, (.t (.var 35))), (7, (.t (.var 3))), (6, (.t (.var 30))), (5, (.t (.var 17))), (4, (.r 29)), (3, (.t (.var 1))), (2, (.t (.var 0))), (0, (.r 34))], [((.lit (1)), (.lit (1))), ((.lit (0)), (.lit (0))), ((.lit (0)), (.lit (0)))], [], []⟩ 36 (.fresh 38 (.pre 4 ⟨0, [(8, (.r 27)), (7, (.t (.var 26))), (6, (.t (.var 25))), (5, (.t (.var 3))), (4, (.t (.var 18))), (3, (.t (.var 17))), (2, (.r 16)), (1, (.t (.var 1))), (0, (.t (.var 0)))], [((.lit (0)), (.lit (0)))], [], []⟩ (.both (.fresh 39 (.post 4 0 ⟨0, [(8, (.r 27)), (7, (.t (.var 26))), (6, (.t (.var 25))), (5, (.t (.var 3))), (4, (.t (.var 18))), (3, (.t (.var 17))), (2, (.r 16)), (1, (.t (.var 1))), (0, (.t (.var 0)))], [((.lit (0)), (.lit (0)))], [], []⟩ 39 (.fresh 40 (.br (.cmp .neq (.var 36) (.var 39))
 (.stuck 7 0 0)
 (.br (.not (.c2 .veq (.c1 .vbytes .dnil) (.c1 .vbytes .dnil)))
 (.stuck 7 0 0)
 (.pre 5 ⟨0, [(9, (.r 32)), (8, (.t (.var 30))), (7, (.t (.var 31))), (1, (.t (.var 37))), (6, (.t (.var 30))), (5, (.t (.var 17))), (4, (.r 29)), (3, (.t (.var 1))), (2, (.t (.var 0))), (0, (.r 34))], [((.lit (1)), (.lit (1))), ((.lit (0)), (.lit (0))), ((.lit (0)), (.lit (0)))], [], []⟩ (.both (.fresh 41 (.fresh 42 (.fresh 43 (.post 5 0 ⟨0, [(9, (.r 32)), (8, (.t (.var 30))), (7, (.t (.var 31))), (1, (.t (.var 37))), (6, (.t (.var 30))), (5, (.t (.var 17))), (4, (.r 29)), (3, (.t (.var 1))), (2, (.t (.var 0))), (0, (.r 34))], [((.lit (1)), (.lit (1))), ((.lit (0)), (.lit (0))), ((.lit (0)), (.lit (0)))], [], []⟩ 41 (.pre 6 ⟨0, [(7, (.r 27)), (6, (.t (.var 26))), (5, (.t (.var 25))), (4, (.t (.var 18))), (3, (.t (.var 17))), (2, (.r 16)), (1, (.t (.var 1))), (0, (.t (.var 0)))], [((.lit (0)), (.lit (0)))], [], []⟩ (.both (.fresh 44 (.fresh 45 (.post 6 0 ⟨0, [(7, (.r 27)), (6, (.t (.var 26))), (5, (.t (.var 25))), (4, (.t (.var 18))), (3, (.t (.var 17))), (2, (.r 16)), (1, (.t (.var 1))), (0, (.t (.var 0)))], [((.lit (0)), (.lit (0)))], [], []⟩ 44 (.br (.cmp .eql (.var 42) (.var 45))
 (.br (.beq (.var 41) (.var 44))
 (.pre 7 ⟨0, [(11, (.r 27)), (9, (.t (.var 26))), (8, (.t (.var 25))), (4, (.t (.var 30))), (3, (.t (.var 31))), (10, (.r 32)), (7, (.t (.var 18))), (6, (.t (.var 17))), (5, (.r 16)), (2, (.t (.var 30))), (1, (.t (.var 17))), (0, (.r 29))], [((.lit (0)), (.lit (0))), ((.lit (0)), (.lit (0)))], [], []⟩ (.both (.fresh 46 (.post 7 0 ⟨0, [(11, (.r 27)), (9, (.t (.var 26))), (8, (.t (.var 25))), (4, (.t (.var 30))), (3, (.t (.var 31))), (10, (.r 32)), (7, (.t (.var 18))), (6, (.t (.var 17))), (5, (.r 16)), (2, (.t (.var 30))), (1, (.t (.var 17))), (0, (.r 29))], [((.lit (0)), (.lit (0))), ((.lit (0)), (.lit (0)))], [], []⟩ 46 (.br (.var 46)
 (.pre 8 ⟨0, [], [], [], []⟩ (.both (.post 8 0 ⟨0, [], [], [], []⟩ 47 (.ret 0 ⟨28, [], [], [((.bl true), (.bl true))], []⟩)) .top))
 (.stuck 7 0 0)))) .top))
 (.stuck 7 0 0))
 (.stuck 7 0 0))))) .top)))))) .top))))))) (.both (.fresh 39 (.fresh 40 (.fresh 41 (.fresh 42 (.post 4 1 ⟨0, [(8, (.r 27)), (7, (.t (.var 26))), (6, (.t (.var 25))), (5, (.t (.var 3))), (4, (.t (.var 18))), (3, (.t (.var 17))), (2, (.r 16)), (1, (.t (.var 1))), (0, (.t (.var 0)))], [((.lit (0)), (.lit (0)))], [], []⟩ 39 (.fresh 43 (.br (.cmp .neq (.var 36) (.lit (0)))
 (.stuck 7 0 0)
 (.br (.cmp .neq (.lit (0)) (.var 3))
 (.stuck 7 0 0)
 (.need (.cmp .leq (.lit (0)) (.var 40)) (.need (.cmp .leq (.var 40) (.dlen (.var 42))) (.br (.not (.c2 .veq (.c1 .vbytes .dnil) (.c1 .vbytes (.dtake (.var 42) (.var 40)))))
 (.stuck 7 0 0)
 (.pre 5 ⟨0, [(9, (.r 32)), (8, (.t (.var 30))), (7, (.t (.var 31))), (1, (.t (.var 37))), (6, (.t (.var 30))), (5, (.t (.var 17))), (4, (.r 29)), (3, (.t (.var 1))), (2, (.t (.var 0))), (0, (.r 34))], [((.lit (1)), (.lit (1))), ((.lit (0)), (.lit (0))), ((.lit (0)), (.lit (0)))], [], []⟩ (.both (.fresh 44 (.fresh 45 (.fresh 46 (.post 5 0 ⟨0, [(9, (.r 32)), (8, (.t (.var 30))), (7, (.t (.var 31))), (1, (.t (.var 37))), (6, (.t (.var 30))), (5, (.t (.var 17))), (4, (.r 29)), (3, (.t (.var 1))), (2, (.t (.var 0))), (0, (.r 34))], [((.lit (1)), (.lit (1))), ((.lit (0)), (.lit (0))), ((.lit (0)), (.lit (0)))], [], []⟩ 44 (.pre 6 ⟨0, [(7, (.r 27)), (6, (.t (.var 26))), (5, (.t (.var 25))), (4, (.t (.var 18))), (3, (.t (.var 17))), (2, (.r 16)), (1, (.t (.var 1))), (0, (.t (.var 0)))], [((.lit (0)), (.lit (0)))], [], []⟩ (.both (.fresh 47 (.fresh 48 (.post 6 0 ⟨0, [(7, (.r 27)), (6, (.t (.var 26))), (5, (.t (.var 25))), (4, (.t (.var 18))), (3, (.t (.var 17))), (2, (.r 16)), (1, (.t (.var 1))), (0, (.t (.var 0)))], [((.lit (0)), (.lit (0)))], [], []⟩ 47 (.br (.cmp .eql (.var 45) (.var 48))
 (.br (.beq (.var 44) (.var 47))
 (.pre 7 ⟨0, [(11, (.r 27)), (9, (.t (.var 26))), (8, (.t (.var 25))), (4, (.t (.var 30))), (3, (.t (.var 31))), (10, (.r 32)), (7, (.t (.var 18))), (6, (.t (.var 17))), (5, (.r 16)), (2, (.t (.var 30))), (1, (.t (.var 17))), (0, (.r 29))], [((.lit (0)), (.lit (0))), ((.lit (0)), (.lit (0)))], [], []⟩ (.both (.fresh 49 (.post 7 0 ⟨0, [(11, (.r 27)), (9, (.t (.var 26))), (8, (.t (.var 25))), (4, (.t (.var 30))), (3, (.t (.var 31))), (10, (.r 32)), (7, (.t (.var 18))), (6, (.t (.var 17))), (5, (.r 16)), (2, (.t (.var 30))), (1, (.t (.var 17))), (0, (.r 29))], [((.lit (0)), (.lit (0))), ((.lit (0)), (.lit (0)))], [], []⟩ 49 (.br (.var 49)
 (.pre 8 ⟨0, [], [], [], []⟩ (.both (.post 8 0 ⟨0, [], [], [], []⟩ 50 (.ret 0 ⟨28, [], [], [((.bl true), (.bl true))], []⟩)) .top))
 (.stuck 7 0 0)))) .top))
 (.stuck 7 0 0))
 (.stuck 7 0 0))))) .top)))))) .top))))))))))))) .top))))))) (.both (.fresh 36 (.fresh 37 (.fresh 38 (.fresh 39 (.fresh 40 (.post 3 1 ⟨0, [(10, (.r 32)), (9, (.t (.var 30))), (8, (.t (.var 31))), (1, (.t (.var 35))), (7, (.t (.var 3))), (6, (.t (.var 30))), (5, (.t (.var 17))), (4, (.r 29)), (3, (.t (.var 1))), (2, (.t (.var 0))), (0, (.r 34))], [((.lit (1)), (.lit (1))), ((.lit (0)), (.lit (0))), ((.lit (0)), (.lit (0)))], [], []⟩ 36 (.fresh 41 (.pre 4 ⟨0, [(8, (.r 27)), (7, (.t (.var 26))), (6, (.t (.var 25))), (5, (.t (.var 3))), (4, (.t (.var 18))), (3, (.t (.var 17))), (2, (.r 16)), (1, (.t (.var 1))), (0, (.t (.var 0)))], [((.lit (0)), (.lit (0)))], [], []⟩ (.both (.fresh 42 (.post 4 0 ⟨0, [(8, (.r 27)), (7, (.t (.var 26))), (6, (.t (.var 25))), (5, (.t (.var 3))), (4, (.t (.var 18))), (3, (.t (.var 17))), (2, (.r 16)), (1, (.t (.var 1))), (0, (.t (.var 0)))], [((.lit (0)), (.lit (0)))], [], []⟩ 42 (.fresh 43 (.br (.cmp .neq (.lit (0)) (.var 42))
 (.stuck 7 0 0)
 (.br (.cmp .neq (.var 3) (.lit (0)))
 (.stuck 7 0 0)
 (.need (.cmp .leq (.lit (0)) (.var 37)) (.need (.cmp .leq (.var 37) (.dlen (.var 40))) (.br (.not (.c2 .veq (.c1 .vbytes (.dtake (.var 40) (.var 37))) (.c1 .vbytes .dnil)))
 (.stuck 7 0 0)
 (.pre 5 ⟨0, [(9, (.r 32)), (8, (.t (.var 30))), (7, (.t (.var 31))), (1, (.t (.var 39))), (6, (.t (.var 30))), (5, (.t (.var 17))), (4, (.r 29)), (3, (.t (.var 1))), (2, (.t (.var 0))), (0, (.r 34))], [((.lit (1)), (.lit (1))), ((.lit (0)), (.lit (0))), ((.lit (0)), (.lit (0)))], [], []⟩ (.both (.fresh 44 (.fresh 45 (.fresh 46 (.post 5 0 ⟨0, [(9, (.r 32)), (8, (.t (.var 30))), (7, (.t (.var 31))), (1, (.t (.var 39))), (6, (.t (.var 30))), (5, (.t (.var 17))), (4, (.r 29)), (3, (.t (.var 1))), (2, (.t (.var 0))), (0, (.r 34))], [((.lit (1)), (.lit (1))), ((.lit (0)), (.lit (0))), ((.lit (0)), (.lit (0)))], [], []⟩ 44 (.pre 6 ⟨0, [(7, (.r 27)), (6, (.t (.var 26))), (5, (.t (.var 25))), (4, (.t (.var 18))), (3, (.t (.var 17))), (2, (.r 16)), (1, (.t (.var 1))), (0, (.t (.var 0)))], [((.lit (0)), (.lit (0)))], [], []⟩ (.both (.fresh 47 (.fresh 48 (.post 6 0 ⟨0, [(7, (.r 27)), (6, (.t (.var 26))), (5, (.t (.var 25))), (4, (.t (.var 18))), (3, (.t (.var 17))), (2, (.r 16)), (1, (.t (.var 1))), (0, (.t (.var 0)))], [((.lit (0)), (.lit (0)))], [], []⟩ 47 (.br (.cmp .eql (.var 45) (.var 48))
 (.br (.beq (.var 44) (.var 47))
 (.pre 7 ⟨0, [(11, (.r 27)), (9, (.t (.var 26))), (8, (.t (.var 25))), (4, (.t (.var 30))), (3, (.t (.var 31))), (10, (.r 32)), (7, (.t (.var 18))), (6, (.t (.var 17))), (5, (.r 16)), (2, (.t (.var 30))), (1, (.t (.var 17))), (0, (.r 29))], [((.lit (0)), (.lit (0))), ((.lit (0)), (.lit (0)))], [], []⟩ (.both (.fresh 49 (.post 7 0 ⟨0, [(11, (.r 27)), (9, (.t (.var 26))), (8, (.t (.var 25))), (4, (.t (.var 30))), (3, (.t (.var 31))), (10, (.r 32)), (7, (.t (.var 18))), (6, (.t (.var 17))), (5, (.r 16)), (2, (.t (.var 30))), (1, (.t (.var 17))), (0, (.r 29))], [((.lit (0)), (.lit (0))), ((.lit (0)), (.lit (0)))], [], []⟩ 49 (.br (.var 49)
 (.pre 8 ⟨0, [], [], [], []⟩ (.both (.post 8 0 ⟨0, [], [], [], []⟩ 50 (.ret 0 ⟨28, [], [], [((.bl true), (.bl true))], []⟩)) .top))
 (.stuck 7 0 0)))) .top))
 (.stuck 7 0 0))
 (.stuck 7 0 0))))) .top)))))) .top)))))))))) (.both (.fresh 42 (.fresh 43 (.fresh 44 (.fresh 45 (.post 4 1 ⟨0, [(8, (.r 27)), (7, (.t (.var 26))), (6, (.t (.var 25))), (5, (.t (.var 3))), (4, (.t (.var 18))), (3, (.t (.var 17))), (2, (.r 16)), (1, (.t (.var 1))), (0, (.t (.var 0)))], [((.lit (0)), (.lit (0)))], [], []⟩ 42 (.fresh 46 (.need (.cmp .leq (.lit (0)) (.var 37)) (.need (.cmp .leq (.var 37) (.dlen (.var 40))) (.need (.cmp .leq (.lit (0)) (.var 43)) (.need (.cmp .leq (.var 43) (.dlen (.var 45))) (.br (.not (.c2 .veq (.c1 .vbytes (.dtake (.var 40) (.var 37))) (.c1 .vbytes (.dtake (.var 45) (.var 43)))))
 (.stuck 7 0 0)
 (.pre 5 ⟨0, [(9, (.r 32)), (8, (.t (.var 30))), (7, (.t (.var 31))), (1, (.t (.var 39))), (6, (.t (.var 30))), (5, (.t (.var 17))), (4, (.r 29)), (3, (.t (.var 1))), (2, (.t (.var 0))), (0, (.r 34))], [((.lit (1)), (.lit (1))), ((.lit (0)), (.lit (0))), ((.lit (0)), (.lit (0)))], [], []⟩ (.both (.fresh 47 (.fresh 48 (.fresh 49 (.post 5 0 ⟨0, [(9, (.r 32)), (8, (.t (.var 30))), (7, (.t (.var 31))), (1, (.t (.var 39))), (6, (.t (.var 30))), (5, (.t (.var 17))), (4, (.r 29)), (3, (.t (.var 1))), (2, (.t (.var 0))), (0, (.r 34))], [((.lit (1)), (.lit (1))), ((.lit (0)), (.lit (0))), ((.lit (0)), (.lit (0)))], [], []⟩ 47 (.pre 6 ⟨0, [(7, (.r 27)), (6, (.t (.var 26))), (5, (.t (.var 25))), (4, (.t (.var 18))), (3, (.t (.var 17))), (2, (.r 16)), (1, (.t (.var 1))), (0, (.t (.var 0)))], [((.lit (0)), (.lit (0)))], [], []⟩ (.both (.fresh 50 (.fresh 51 (.post 6 0 ⟨0, [(7, (.r 27)), (6, (.t (.var 26))), (5, (.t (.var 25))), (4, (.t (.var 18))), (3, (.t (.var 17))), (2, (.r 16)), (1, (.t (.var 1))), (0, (.t (.var 0)))], [((.lit (0)), (.lit (0)))], [], []⟩ 50 (.br (.cmp .eql (.var 48) (.var 51))
 (.br (.beq (.var 47) (.var 50))
 (.pre 7 ⟨0, [(11, (.r 27)), (9, (.t (.var 26))), (8, (.t (.var 25))), (4, (.t (.var 30))), (3, (.t (.var 31))), (10, (.r 32)), (7, (.t (.var 18))), (6, (.t (.var 17))), (5, (.r 16)), (2, (.t (.var 30))), (1, (.t (.var 17))), (0, (.r 29))], [((.lit (0)), (.lit (0))), ((.lit (0)), (.lit (0)))], [], []⟩ (.both (.fresh 52 (.post 7 0 ⟨0, [(11, (.r 27)), (9, (.t (.var 26))), (8, (.t (.var 25))), (4, (.t (.var 30))), (3, (.t (.var 31))), (10, (.r 32)), (7, (.t (.var 18))), (6, (.t (.var 17))), (5, (.r 16)), (2, (.t (.var 30))), (1, (.t (.var 17))), (0, (.r 29))], [((.lit (0)), (.lit (0))), ((.lit (0)), (.lit (0)))], [], []⟩ 52 (.br (.var 52)
 (.pre 8 ⟨0, [], [], [], []⟩ (.both (.post 8 0 ⟨0, [], [], [], []⟩ 53 (.ret 0 ⟨28, [], [], [((.bl true), (.bl true))], []⟩)) .top))
 (.stuck 7 0 0)))) .top))
 (.stuck 7 0 0))
 (.stuck 7 0 0))))) .top)))))) .top))))))))))))) .top)))))))))) .top)))))) .top))))) .top))
 (.pre 2 ⟨0, [], [], [], []⟩ (.both (.fresh 33 (.fresh 34 (.post 2 0 ⟨0, [], [], [], []⟩ 33 (.pre 3 ⟨0, [(10, (.r 32)), (9, (.t (.var 30))), (8, (.t (.var 31))), (1, (.t (.var 34))), (7, (.t (.var 3))), (6, (.t (.var 30))), (5, (.t (.var 17))), (4, (.r 29)), (3, (.t (.var 1))), (2, (.t (.var 0))), (0, (.r 33))], [((.lit (1)), (.lit (1))), ((.lit (0)), (.lit (0))), ((.lit (0)), (.lit (0)))], [], []⟩ (.both (.fresh 35 (.fresh 36 (.post 3 0 ⟨0, [(10, (.r 32)), (9, (.t (.var 30))), (8, (.t (.var 31))), (1, (.t (.var 34))), (7, (.t (.var 3))), (6, (.t (.var 30))), (5, (.t (.var 17))), (4, (.r 29)), (3, (.t (.var 1))), (2, (.t (.var 0))), (0, (.r 33))], [((.lit (1)), (.lit (1))), ((.lit (0)), (.lit (0))), ((.lit (0)), (.lit (0)))], [], []⟩ 35 (.fresh 37 (.pre 4 ⟨0, [(8, (.r 27)), (7, (.t (.var 26))), (6, (.t (.var 25))), (5, (.t (.var 3))), (4, (.t (.var 18))), (3, (.t (.var 17))), (2, (.r 16)), (1, (.t (.var 1))), (0, (.t (.var 0)))], [((.lit (0)), (.lit (0)))], [], []⟩ (.both (.fresh 38 (.post 4 0 ⟨0, [(8, (.r 27)), (7, (.t (.var 26))), (6, (.t (.var 25))), (5, (.t (.var 3))), (4, (.t (.var 18))), (3, (.t (.var 17))), (2, (.r 16)), (1, (.t (.var 1))), (0, (.t (.var 0)))], [((.lit (0)), (.lit (0)))], [], []⟩ 38 (.fresh 39 (.br (.cmp .neq (.var 35) (.var 38))
 (.stuck 7 0 0)
 (.br (.not (.c2 .veq (.c1 .vbytes .dnil) (.c1 .vbytes .dnil)))
 (.stuck 7 0 0)
 (.pre 5 ⟨0, [(9, (.r 32)), (8, (.t (.var 30))), (7, (.t (.var 31))), (1, (.t (.var 36))), (6, (.t (.var 30))), (5, (.t (.var 17))), (4, (.r 29)), (3, (.t (.var 1))), (2, (.t (.var 0))), (0, (.r 33))], [((.lit (1)), (.lit (1))), ((.lit (0)), (.lit (0))), ((.lit (0)), (.lit (0)))], [], []⟩ (.both (.fresh 40 (.fresh 41 (.fresh 42 (.post 5 0 ⟨0, [(9, (.r 32)), (8, (.t (.var 30))), (7, (.t (.var 31))), (1, (.t (.var 36))), (6, (.t (.var 30))), (5, (.t (.var 17))), (4, (.r 29)), (3, (.t (.var 1))), (2, (.t (.var 0))), (0, (.r 33))], [((.lit (1)), (.lit (1))), ((.lit (0)), (.lit (0))), ((.lit (0)), (.lit (0)))], [], []⟩ 40 (.pre 6 ⟨0, [(7, (.r 27)), (6, (.t (.var 26))), (5, (.t (.var 25))), (4, (.t (.var 18))), (3, (.t (.var 17))), (2, (.r 16)), (1, (.t (.var 1))), (0, (.t (.var 0)))], [((.lit (0)), (.lit (0)))], [], []⟩ (.both (.fresh 43 (.fresh 44 (.post 6 0 ⟨0, [(7, (.r 27)), (6, (.t (.var 26))), (5, (.t (.var 25))), (4, (.t (.var 18))), (3, (.t (.var 17))), (2, (.r 16)), (1, (.t (.var 1))), (0, (.t (.var 0)))], [((.lit (0)), (.lit (0)))], [], []⟩ 43 (.br (.cmp .eql (.var 41) (.var 44))
 (.br (.beq (.var 40) (.var 43))
 (.pre 7 ⟨0, [(11, (.r 27)), (9, (.t (.var 26))), (8, (.t (.var 25))), (4, (.t (.var 30))), (3, (.t (.var 31))), (10, (.r 32)), (7, (.t (.var 18))), (6, (.t (.var 17))), (5, (.r 16)), (2, (.t (.var 30))), (1, (.t (.var 17))), (0, (.r 29))], [((.lit (0)), (.lit (0))), ((.lit (0)), (.lit (0)))], [], []⟩ (.both (.fresh 45 (.post 7 0 ⟨0, [(11, (.r 27)), (9, (.t (.var 26))), (8, (.t (.var 25))), (4, (.t (.var 30))), (3, (.t (.var 31))), (10, (.r 32)), (7, (.t (.var 18))), (6, (.t (.var 17))), (5, (.r 16)), (2, (.t (.var 30))), (1, (.t (.var 17))), (0, (.r 29))], [((.lit (0)), (.lit (0))), ((.lit (0)), (.lit (0)))], [], []⟩ 45 (.br (.var 45)
 (.pre 8 ⟨0, [], [], [], []⟩ (.both (.post 8 0 ⟨0, [], [], [], []⟩ 46 (.ret 0 ⟨28, [], [], [((.bl true), (.bl true))], []⟩)) .top))
 (.stuck 7 0 0)))) .top))
 (.stuck 7 0 0))
 (.stuck 7 0 0))))) .top)))))) .top))))))) (.both (.fresh 38 (.fresh 39 (.fresh 40 (.fresh 41 (.post 4 1 ⟨0, [(8, (.r 27)), (7, (.t (.var 26))), (6, (.t (.var 25))), (5, (.t (.var 3))), (4, (.t (.var 18))), (3, (.t (.var 17))), (2, (.r 16)), (1, (.t (.var 1))), (0, (.t (.var 0)))], [((.lit (0)), (.lit (0)))], [], []⟩ 38 (.fresh 42 (.br (.cmp .neq (.var 35) (.lit (0)))
 (.stuck 7 0 0)
 (.br (.cmp .neq (.lit (0)) (.var 3))
 (.stuck 7 0 0)
 (.need (.cmp .leq (.lit (0)) (.var 39)) (.need (.cmp .leq (.var 39) (.dlen (.var 41))) (.br (.not (.c2 .veq (.c1 .vbytes .dnil) (.c1 .vbytes (.dtake (.var 41) (.var 39)))))
 (.stuck 7 0 0)
 (.pre 5 ⟨0, [(9, (.r 32)), (8, (.t (.var 30))), (7, (.t (.var 31))), (1, (.t (.var 36))), (6, (.t (.var 30))), (5, (.t (.var 17))), (4, (.r 29)), (3, (.t (.var 1))), (2, (.t (.var 0))), (0, (.r 33))], [((.lit (1)), (.lit (1))), ((.lit (0)), (.lit (0))), ((.lit (0)), (.lit (0)))], [], []⟩ (.both (.fresh 43 (.fresh 44 (.fresh 45 (.post 5 0 ⟨0, [(9, (.r 32)), (8, (.t (.var 30))), (7, (.t (.var 31))), (1, (.t (.var 36))), (6, (.t (.var 30))), (5, (.t (.var 17))), (4, (.r 29)), (3, (.t (.var 1))), (2, (.t (.var 0))), (0, (.r 33))], [((.lit (1)), (.lit (1))), ((.lit (0)), (.lit (0))), ((.lit (0)), (.lit (0)))], [], []⟩ 43 (.pre 6 ⟨0, [(7, (.r 27)), (6, (.t (.var 26))), (5, (.t (.var 25))), (4, (.t (.var 18))), (3, (.t (.var 17))), (2, (.r 16)), (1, (.t (.var 1))), (0, (.t (.var 0)))], [((.lit (0)), (.lit (0)))], [], []⟩ (.both (.fresh 46 (.fresh 47 (.post 6 0 ⟨0, [(7, (.r 27)), (6, (.t (.var 26))), (5, (.t (.var 25))), (4, (.t (.var 18))), (3, (.t (.var 17))), (2, (.r 16)), (1, (.t (.var 1))), (0, (.t (.var 0)))], [((.lit (0)), (.lit (0)))], [], []⟩ 46 (.br (.cmp .eql (.var 44) (.var 47))
 (.br (.beq (.var 43) (.var 46))
 (.pre 7 ⟨0, [(11, (.r 27)), (9, (.t (.var 26))), (8, (.t (.var 25))), (4, (.t (.var 30))), (3, (.t (.var 31))), (10, (.r 32)), (7, (.t (.var 18))), (6, (.t (.var 17))), (5, (.r 16)), (2, (.t (.var 30))), (1, (.t (.var 17))), (0, (.r 29))], [((.lit (0)), (.lit (0))), ((.lit (0)), (.lit (0)))], [], []⟩ (.both (.fresh 48 (.post 7 0 ⟨0, [(11, (.r 27)), (9, (.t (.var 26))), (8, (.t (.var 25))), (4, (.t (.var 30))), (3, (.t (.var 31))), (10, (.r 32)), (7, (.t (.var 18))), (6, (.t (.var 17))), (5, (.r 16)), (2, (.t (.var 30))), (1, (.t (.var 17))), (0, (.r 29))], [((.lit (0)), (.lit (0))), ((.lit (0)), (.lit (0)))], [], []⟩ 48 (.br (.var 48)
 (.pre 8 ⟨0, [], [], [], []⟩ (.both (.post 8 0 ⟨0, [], [], [], []⟩ 49 (.ret 0 ⟨28, [], [], [((.bl true), (.bl true))], []⟩)) .top))
 (.stuck 7 0 0)))) .top))
 (.stuck 7 0 0))
 (.stuck 7 0 0))))) .top)))))) .top))))))))))))) .top))))))) (.both (.fresh 35 (.fresh 36 (.fresh 37 (.fresh 38 (.fresh 39 (.post 3 1 ⟨0, [(10, (.r 32)), (9, (.t (.var 30))), (8, (.t (.var 31))), (1, (.t (.var 34))), (7, (.t (.var 3))), (6, (.t (.var 30))), (5, (.t (.var 17))), (4, (.r 29)), (3, (.t (.var 1))), (2, (.t (.var 0))), (0, (.r 33))], [((.lit (1)), (.lit (1))), ((.lit (0)), (.lit (0))), ((.lit (0)), (.lit (0)))], [], []⟩ 35 (.fresh 40 (.pre 4 ⟨0, [(8, (.r 27)), (7, (.t (.var 26))), (6, (.t (.var 25))), (5, (.t (.var 3))), (4, (.t (.var 18))), (3, (.t (.var 17))), (2, (.r 16)), (1, (.t (.var 1))), (0, (.t (.var 0)))], [((.lit (0)), (.lit (0)))], [], []⟩ (.both (.fresh 41 (.post 4 0 ⟨0, [(8, (.r 27)), (7, (.t (.var 26))), (6, (.t (.var 25))), (5, (.t (.var 3))), (4, (.t (.var 18))), (3, (.t (.var 17))), (2, (.r 16)), (1, (.t (.var 1))), (0, (.t (.var 0)))], [((.lit (0)), (.lit (0)))], [], []⟩ 41 (.fresh 42 (.br (.cmp .neq (.lit (0)) (.var 41))
 (.stuck 7 0 0)
 (.br (.cmp .neq (.var 3) (.lit (0)))
 (.stuck 7 0 0)
 (.need (.cmp .leq (.lit (0)) (.var 36)) (.need (.cmp .leq (.var 36) (.dlen (.var 39))) (.br (.not (.c2 .veq (.c1 .vbytes (.dtake (.var 39) (.var 36))) (.c1 .vbytes .dnil)))
 (.stuck 7 0 0)
 (.pre 5 ⟨0, [(9, (.r 32)), (8, (.t (.var 30))), (7, (.t (.var 31))), (1, (.t (.var 38))), (6, (.t (.var 30))), (5, (.t (.var 17))), (4, (.r 29)), (3, (.t (.var 1))), (2, (.t (.var 0))), (0, (.r 33))], [((.lit (1)), (.lit (1))), ((.lit (0)), (.lit (0))), ((.lit (0)), (.lit (0)))], [], []⟩ (.both (.fresh 43 (.fresh 44 (.fresh 45 (.post 5 0 ⟨0, [(9, (.r 32)), (8, (.t (.var 30))), (7, (.t (.var 31))), (1, (.t (.var 38))), (6, (.t (.var 30))), (5, (.t (.var 17))), (4, (.r 29)), (3, (.t (.var 1))), (2, (.t (.var 0))), (0, (.r 33))], [((.lit (1)), (.lit (1))), ((.lit (0)), (.lit (0))), ((.lit (0)), (.lit (0)))], [], []⟩ 43 (.pre 6 ⟨0, [(7, (.r 27)), (6, (.t (.var 26))), (5, (.t (.var 25))), (4, (.t (.var 18))), (3, (.t (.var 17))), (2, (.r 16)), (1, (.t (.var 1))), (0, (.t (.var 0)))], [((.lit (0)), (.lit (0)))], [], []⟩ (.both (.fresh 46 (.fresh 47 (.post 6 0 ⟨0, [(7, (.r 27)), (6, (.t (.var 26))), (5, (.t (.var 25))), (4, (.t (.var 18))), (3, (.t (.var 17))), (2, (.r 16)), (1, (.t (.var 1))), (0, (.t (.var 0)))], [((.lit (0)), (.lit (0)))], [], []⟩ 46 (.br (.cmp .eql (.var 44) (.var 47))
 (.br (.beq (.var 43) (.var 46))
 (.pre 7 ⟨0, [(11, (.r 27)), (9, (.t (.var 26))), (8, (.t (.var 25))), (4, (.t (.var 30))), (3, (.t (.var 31))), (10, (.r 32)), (7, (.t (.var 18))), (6, (.t (.var 17))), (5, (.r 16)), (2, (.t (.var 30))), (1, (.t (.var 17))), (0, (.r 29))], [((.lit (0)), (.lit (0))), ((.lit (0)), (.lit (0)))], [], []⟩ (.both (.fresh 48 (.post 7 0 ⟨0, [(11, (.r 27)), (9, (.t (.var 26))), (8, (.t (.var 25))), (4, (.t (.var 30))), (3, (.t (.var 31))), (10, (.r 32)), (7, (.t (.var 18))), (6, (.t (.var 17))), (5, (.r 16)), (2, (.t (.var 30))), (1, (.t (.var 17))), (0, (.r 29))], [((.lit (0)), (.lit (0))), ((.lit (0)), (.lit (0)))], [], []⟩ 48 (.br (.var 48)
 (.pre 8 ⟨0, [], [], [], []⟩ (.both (.post 8 0 ⟨0, [], [], [], []⟩ 49 (.ret 0 ⟨28, [], [], [((.bl true), (.bl true))], []⟩)) .top))
 (.stuck 7 0 0)))) .top))
 (.stuck 7 0 0))
 (.stuck 7 0 0))))) .top)))))) .top)))))))))) (.both (.fresh 41 (.fresh 42 (.fresh 43 (.fresh 44 (.post 4 1 ⟨0, [(8, (.r 27)), (7, (.t (.var 26))), (6, (.t (.var 25))), (5, (.t (.var 3))), (4, (.t (.var 18))), (3, (.t (.var 17))), (2, (.r 16)), (1, (.t (.var 1))), (0, (.t (.var 0)))], [((.lit (0)), (.lit (0)))], [], []⟩ 41 (.fresh 45 (.need (.cmp .leq (.lit (0)) (.var 36)) (.need (.cmp .leq (.var 36) (.dlen (.var 39))) (.need (.cmp .leq (.lit (0)) (.var 42)) (.need (.cmp .leq (.var 42) (.dlen (.var 44))) (.br (.not (.c2 .veq (.c1 .vbytes (.dtake (.var 39) (.var 36))) (.c1 .vbytes (.dtake (.var 44) (.var 42)))))
 (.stuck 7 0 0)
 (.pre 5 ⟨0, [(9, (.r 32)), (8, (.t (.var 30))), (7, (.t (.var 31))), (1, (.t (.var 38))), (6, (.t (.var 30))), (5, (.t (.var 17))), (4, (.r 29)), (3, (.t (.var 1))), (2, (.t (.var 0))), (0, (.r 33))], [((.lit (1)), (.lit (1))), ((.lit (0)), (.lit (0))), ((.lit (0)), (.lit (0)))], [], []⟩ (.both (.fresh 46 (.fresh 47 (.fresh 48 (.post 5 0 ⟨0, [(9, (.r 32)), (8, (.t (.var 30))), (7, (.t (.var 31))), (1, (.t (.var 38))), (6, (.t (.var 30))), (5, (.t (.var 17))), (4, (.r 29)), (3, (.t (.var 1))), (2, (.t (.var 0))), (0, (.r 33))], [((.lit (1)), (.lit (1))), ((.lit (0)), (.lit (0))), ((.lit (0)), (.lit (0)))], [], []⟩ 46 (.pre 6 ⟨0, [(7, (.r 27)), (6, (.t (.var 26))), (5, (.t (.var 25))), (4, (.t (.var 18))), (3, (.t (.var 17))), (2, (.r 16)), (1, (.t (.var 1))), (0, (.t (.var 0)))], [((.lit (0)), (.lit (0)))], [], []⟩ (.both (.fresh 49 (.fresh 50 (.post 6 0 ⟨0, [(7, (.r 27)), (6, (.t (.var 26))), (5, (.t (.var 25))), (4, (.t (.var 18))), (3, (.t (.var 17))), (2, (.r 16)), (1, (.t (.var 1))), (0, (.t (.var 0)))], [((.lit (0)), (.lit (0)))], [], []⟩ 49 (.br (.cmp .eql (.var 47) (.var 50))
 (.br (.beq (.var 46) (.var 49))
 (.pre 7 ⟨0, [(11, (.r 27)), (9, (.t (.var 26))), (8, (.t (.var 25))), (4, (.t (.var 30))), (3, (.t (.var 31))), (10, (.r 32)), (7, (.t (.var 18))), (6, (.t (.var 17))), (5, (.r 16)), (2, (.t (.var 30))), (1, (.t (.var 17))), (0, (.r 29))], [((.lit (0)), (.lit (0))), ((.lit (0)), (.lit (0)))], [], []⟩ (.both (.fresh 51 (.post 7 0 ⟨0, [(11, (.r 27)), (9, (.t (.var 26))), (8, (.t (.var 25))), (4, (.t (.var 30))), (3, (.t (.var 31))), (10, (.r 32)), (7, (.t (.var 18))), (6, (.t (.var 17))), (5, (.r 16)), (2, (.t (.var 30))), (1, (.t (.var 17))), (0, (.r 29))], [((.lit (0)), (.lit (0))), ((.lit (0)), (.lit (0)))], [], []⟩ 51 (.br (.var 51)
 (.pre 8 ⟨0, [], [], [], []⟩ (.both (.post 8 0 ⟨0, [], [], [], []⟩ 52 (.ret 0 ⟨28, [], [], [((.bl true), (.bl true))], []⟩)) .top))
 (.stuck 7 0 0)))) .top))
 (.stuck 7 0 0))
 (.stuck 7 0 0))))) .top)))))) .top))))))))))))) .top)))))))))) .top)))))) .top)))))))) .top))))
theorem o_lawRebuilds_eq : treeOf ⟨Try.prog, lawRebuildsC, [mine68C, sizes29C, newFieldC, rebuild71C, again72C, consistent67C, agree73C, same33Q, knownC], []⟩ 100000 Try.f24 = o_lawRebuilds := by kernel_rfl
theorem lawRebuilds_of (hd : ∀ c ∈ ([mine68C, sizes29C, newFieldC, rebuild71C, again72C, consistent67C, agree73C, same33Q, knownC] : List Ctr), c.ok Try.prog) (h : ∀ ρ : Env, ρ.good → (lawRebuildsC).pre ρ → o_lawRebuilds.den ⟨Try.prog, lawRebuildsC, [mine68C, sizes29C, newFieldC, rebuild71C, again72C, consistent67C, agree73C, same33Q, knownC], []⟩ ρ) : (lawRebuildsC).ok Try.prog :=
  ok_of_tree Try.func24 (fun a w => Try.call24 a w) hd 100000 (fun ρ hg hp => by rw [o_lawRebuilds_eq]; exact h ρ hg hp)
end Go.Proofs

set_option linter.unusedSimpArgs false
set_option linter.unusedVariables false
namespace Go.Proofs
open Go Go.Eng
set_option maxRecDepth 100000
theorem field_some {d : Rows'} (h : fieldD d) : d ≠ [] := (fieldD_ne h).1
/-- Pieces that are in order. -/
structure PcIn (h : Hp) (D : Rows') (k total n : Int) : Prop where
  k1 : 1 ≤ k
  k2 : k ≤ total
  k3 : total ≤ 255
  kn : k ≤ n
  sol : solPre h D k total n
  idx : ∀ j, j < n.toNat → 0 ≤ pcI D j ∧ pcI D j < total
  len : ∀ j, j < n.toNat → pcN h D j = pcN h D 0
  fs : ∀ j, j < n.toNat → (pcD h D j).length = pcN h D 0 ∧ bytesL (pcD h D j)
theorem pcIn {h : Hp} {D : Rows'} {k total n : Int} (hs : sizesB k total = true) (hp : pcPre h D n) (hc : chkH h D k total (-1) n 0) : PcIn h D k total n := by
  obtain ⟨k1, k2, k3⟩ := sizesB_iff.1 hs
  obtain ⟨n0, n1, hpc⟩ := hp
  obtain ⟨ho, hk⟩ := chk_ok hc
  have hw : wantL (-1) (pcN h D) = (pcN h D 0 : Int) := if_pos (by omega)
  have hL : ∀ j, j < n.toNat → pcN h D j = pcN h D 0 := fun j hj => by
    have := (ho j hj).2.2.2
    rw [hw] at this; omega
  exact ⟨k1, k2, k3, by omega, ⟨hs, by omega, n1, hpc, choose_of_ok ho (by omega), (ho 0 (by omega)).2.2.1 (by omega), fun j hj => hL j (by omega)⟩, fun j hj => (ho j hj).1, hL, fun j hj => by
    obtain ⟨v, d, _, _, _, hB, hd⟩ := pc_at hpc hj
    exact ⟨hL j hj, by rw [hd]; exact allB_list hB⟩⟩
variable {h : Hp} {D : Rows'} {k total n : Int}
theorem PcIn.f (p : PcIn h D k total n) : ∀ j, j < k.toNat → (pcD h D j).length = pcN h D 0 ∧ bytesL (pcD h D j) := fun j hj => p.fs j (by have := p.kn; omega)
/-- The columns: they read; weighed by a row of the generator they are the values there. -/
theorem PcIn.cols (p : PcIn h D k total n) {hc : Hp} {C : Rows'} (ht : tabV hc (tvs C) k.toNat (solM h D total.toNat k.toNat)) :
    (∀ j, j < k.toNat → rdB hc (tvs C j) ∧ (colF hc C j).length = (colF hc C 0).length) ∧ (colF hc C 0).length = pcN h D 0 ∧ ∀ r : Int, 0 ≤ r → r < total → mixN (colF hc C) (seg (genL k.toNat total.toNat) (r.toNat * k.toNat) k.toNat) (colF hc C 0).length k.toNat = valL h D k.toNat r := by
  have h1 := p.k1
  have h2 := p.k2
  have h3 := p.k3
  have hch := p.sol.2.2.2.2.1
  have hcol : ∀ j, j < k.toNat → rdB hc (tvs C j) ∧ colF hc C j = solM h D total.toNat k.toNat j := fun j hj => by
    obtain ⟨d, hr, hd, hB⟩ := tab_at ht hj
    exact ⟨⟨d, hr, hB⟩, by rw [colF, rdL_eq hr, hd]⟩
  have hl : ∀ j, j < k.toNat → (colF hc C j).length = pcN h D 0 := fun j hj => by
    rw [(hcol j hj).2, solM, mixN_len]
  refine ⟨fun j hj => ⟨(hcol j hj).1, by rw [hl j hj, hl 0 (by omega)]⟩, hl 0 (by omega), fun r r0 r1 => ?_⟩
  rw [hl 0 (by omega), comb_val hch (by omega) (by omega) (by omega) (f := pcD h D) p.f (by omega) (r := r.toNat) (fun i hi => by
    rw [(hcol i hi).2, solM, col_val hch (by omega) (by omega) (by omega) p.f hi]), Int.toNat_of_nonneg r0]
  rfl
theorem PcIn.value (p : PcIn h D k total n) : (∀ j : Nat, (j : Int) < k → 0 ≤ pcI D j ∧ pcI D j < 256) ∧ (idxL D k.toNat).Nodup ∧ pcN h D 0 ≤ 9000 ∧ (∀ j : Nat, (j : Int) < k → pcN h D j = pcN h D 0) ∧ pcOk h D k.toNat := by
  have h1 := p.k1
  have h2 := p.k2
  have h3 := p.k3
  have h4 := p.kn
  have h5 := p.sol.2.2.2.2.2.1
  refine ⟨fun j hj => ?_, p.sol.2.2.2.2.1.2.1, by omega, fun j hj => p.len j (by omega), fun j hj => p.sol.2.2.2.1 j (by omega)⟩
  have := p.idx j (by omega)
  omega
set_option maxHeartbeats 1000000 in
theorem rebuild71_ok : rebuild71C.ok Try.prog := rebuild71_of (by simp [sizes74_ok, check88_ok, solve89_ok, row75_ok, combine91_ok]) fun ρ hg hp => by
  obtain ⟨hf, hpre⟩ := hp
  have hpre' := hpre
  obtain ⟨n0, n1, hpc⟩ := hpre'
  simp (config := { maxSteps := 4000000 }) [o_rebuild71, rebuild71C, sizes74C, check88C, chkOf, solve89C, genW, row75C, combine91C]
  refine ⟨fun h => (field_some hf h).elim, fun _ b _ hb => ⟨fun h => ⟨hf, .inl ⟨.inl (by rw [← hb, h]), rfl⟩⟩, fun h => ⟨fun hi => ⟨hf, .inl ⟨.inr (.inl hi), rfl⟩⟩, fun i0 => ⟨fun hi => ⟨hf, .inl ⟨.inr (.inr hi), rfl⟩⟩, fun i1 => ?_⟩⟩⟩⟩
  have hs : sizesB (ρ 2).i (ρ 3).i = true := by rw [← hb, h]
  obtain ⟨k1, k2, k3⟩ := sizesB_iff.1 hs
  refine ⟨⟨k3, n0, n1, hpc⟩, fun e _ he => ⟨fun hne => ⟨hf, .inr ⟨hs, i0, i1, he, hne⟩⟩, fun he0 => ?_⟩⟩
  rw [he0] at he
  have P : PcIn (ρ 10).h (ρ 8).d (ρ 2).i (ρ 3).i (ρ 5).i := pcIn hs hpre he
  refine ⟨⟨hf, P.sol⟩, fun lg _ cg _ f1 _ C _ H _ dg _ hf1 hCl hCr ht hMg hGg => ⟨⟨i0, i1, hMg.1⟩, fun o _ m _ c _ ho hm hc => ?_⟩⟩
  obtain ⟨c1, c2, c3⟩ := P.cols ht
  obtain ⟨⟨g1, g2, g3, g4, g5, g6, g7, g8⟩, g9⟩ := hMg
  have hbo := mul_bound (x := (ρ 7).i) (y := (ρ 2).i) (a := 255) i0 (by omega) (by omega) (show (ρ 2).i ≤ 255 by omega)
  have hrow := Int.mul_le_mul_of_nonneg_right (show (ρ 7).i + 1 ≤ (ρ 3).i by omega) (show 0 ≤ (ρ 2).i by omega)
  rw [Int.add_mul, Int.one_mul] at hrow
  have h8 := P.sol.2.2.2.2.2.1
  refine ⟨⟨hf1, k1, by omega, by omega, hCr, hm, by omega, by omega, g8, fun j hj => c1 j (by omega), by omega⟩, fun n _ f2 _ d _ hf2 hn hl hB hd => ⟨hf2, ⟨hs, i0, i1, he⟩, hn, by omega, hB, ?_⟩⟩
  rw [hd, hGg, ho, Int.toNat_mul i0 (by omega), c3 _ i0 i1]
set_option maxHeartbeats 1000000 in
theorem again72_ok : again72C.ok Try.prog := again72_of (by simp [sizes29_ok, check93_ok, value94_ok]) fun ρ hg hp => by
  obtain ⟨hpre, hcap⟩ := hp
  have hpre' := hpre
  obtain ⟨n0, n1, hpc⟩ := hpre'
  simp (config := { maxSteps := 4000000 }) [o_again72, again72C, sizes29C, sizes74C, check93C, chkOf, value94C]
  refine fun b _ hb => ⟨fun h => .inl ⟨.inl (by rw [← hb, h]), rfl⟩, fun h => ⟨fun hi => .inl ⟨.inr (.inl hi), rfl⟩, fun i0 => ⟨fun hi => .inl ⟨.inr (.inr hi), rfl⟩, fun i1 => ?_⟩⟩⟩
  have hs : sizesB (ρ 0).i (ρ 1).i = true := by rw [← hb, h]
  obtain ⟨k1, k2, k3⟩ := sizesB_iff.1 hs
  refine ⟨⟨k3, n0, n1, hpc⟩, fun e _ he => ⟨fun hne => .inr ⟨hs, i0, i1, he, hne⟩, fun he0 => ?_⟩⟩
  rw [he0] at he
  have P : PcIn (ρ 8).h (ρ 6).d (ρ 0).i (ρ 1).i (ρ 3).i := pcIn hs hpre he
  obtain ⟨v1, v2, v3, v4, v5⟩ := P.value
  have hkn := P.kn
  rw [wrapB_in i0 (by omega)]
  exact ⟨⟨k1, by omega, hkn, hcap, n1, v5, v1, v2, v3, v4, ⟨i0, by omega⟩⟩, fun n _ d _ hn hl hB hd => ⟨⟨hs, i0, i1, he⟩, hn, hl, hB, hd⟩⟩
set_option maxHeartbeats 1000000 in
theorem consistent67_ok : consistent67C.ok Try.prog := consistent67_of (by simp [sizes74_ok, check88_ok, solve89_ok, row75_ok, combine91_ok, equal90_ok]) fun ρ hg hp => by
  obtain ⟨hf, hpre⟩ := hp
  have hpre' := hpre
  obtain ⟨n0, n1, hpc⟩ := hpre'
  simp (config := { maxSteps := 4000000 }) [o_consistent67, consistent67C, consistent67I, sizes74C, check88C, chkOf, solve89C, genW, row75C, combine91C, equal90C]
  refine ⟨fun h => (field_some hf h).elim, fun _ b _ hb => ⟨fun h => ⟨hf, .inl ⟨by rw [← hb, h], rfl, rfl⟩⟩, fun h => ?_⟩⟩
  have hs : sizesB (ρ 2).i (ρ 3).i = true := by rw [← hb, h]
  obtain ⟨k1, k2, k3⟩ := sizesB_iff.1 hs
  refine ⟨⟨k3, n0, n1, hpc⟩, fun e _ he => ⟨fun hne => ⟨hf, .inr (.inl ⟨hs, he, hne, rfl⟩)⟩, fun he0 => ?_⟩⟩
  rw [he0] at he
  have P : PcIn (ρ 9).h (ρ 7).d (ρ 2).i (ρ 3).i (ρ 5).i := pcIn hs hpre he
  have h8 := P.sol.2.2.2.2.2.1
  refine ⟨⟨hf, P.sol⟩, fun _ _ _ _ lg _ cg _ f1 _ C _ H _ dg _ hf1 hCl hCr ht hMg hGg n10 _ => ⟨n0, ⟨hf1, ⟨hMg, hGg⟩, hCl, hCr, ht, hs, he, n0, fun j hj => by omega⟩, ?_⟩⟩
  clear hf1 hCl hCr ht hMg hGg
  intro _ _ C _ i _ f _ _ _ _ _ lg _ cg _ dg _ H _ hf1 hMg hGg hCl hCr ht _ _ i0 i1 hag
  refine ⟨fun hi => ?_, fun hi => ⟨hf1, .inr (.inr ⟨hs, he, rfl, ⟨fun _ j hj => hag j (by omega), fun _ => rfl⟩⟩)⟩⟩
  obtain ⟨hl, hI, d, hrd, hdB, hdD, hdN⟩ := pc_atN hpc i0 hi
  have hix := P.idx i.i.toNat (by omega)
  have hMg' := hMg
  obtain ⟨⟨g1, g2, g3, g4, g5, g6, g7, g8⟩, g9⟩ := hMg'
  obtain ⟨c1, c2, c3⟩ := P.cols ht
  rw [hI]
  refine ⟨i0, hl, fun n21 _ => ⟨⟨hix.1, hix.2, hMg.1⟩, fun o _ m _ c _ ho hm hc => ?_⟩⟩
  have hbo := mul_bound (x := pcI (ρ 7).d i.i.toNat) (y := (ρ 2).i) (a := 255) hix.1 (by omega) (by omega) (show (ρ 2).i ≤ 255 by omega)
  have hrow := Int.mul_le_mul_of_nonneg_right (show pcI (ρ 7).d i.i.toNat + 1 ≤ (ρ 3).i by omega) (show 0 ≤ (ρ 2).i by omega)
  rw [Int.add_mul, Int.one_mul] at hrow
  refine ⟨⟨hf1, k1, by omega, by omega, hCr, hm, by omega, by omega, g8, fun j hj => c1 j (by omega), by omega⟩, fun _ _ n _ _ _ f2 _ e _ hf2 hn hle hB hde => ⟨⟨hn, by omega, hB, ⟨d, hrd, hdB⟩⟩, fun t _ hteq => ?_⟩⟩
  have hval : bI e.d = valL (ρ 9).h (ρ 7).d (ρ 2).i.toNat (pcI (ρ 7).d i.i.toNat) := by
    rw [hde, hGg, ho, Int.toNat_mul hix.1 (by omega), c3 _ hix.1 hix.2]
  rw [rdL_eq hrd, ← hdD, hval] at hteq
  refine ⟨fun ht0 => ⟨hf2, .inr (.inr ⟨hs, he, rfl, ⟨fun h => (by cases h), fun hall => ?_⟩⟩)⟩, fun ht1 n31 _ hst => ?_⟩
  · rw [hteq.2 (hall i.i.toNat (by omega))] at ht0; cases ht0
  · obtain ⟨hb2, lb2, db2⟩ := star_mem_abs hst (n := 30) (t := 2) (by simp)
    rw [add64 (by omega) (by omega), show (i.i + 1).toNat = i.i.toNat + 1 by omega]
    refine ⟨⟨hf2, ⟨hMg, hGg⟩, hCl, hCr, tab_mono ht (Hp.le_trans (by simpa using db2) lb2), hs, he, by omega, by omega, fun j hj => ?_⟩, by omega⟩
    by_cases hji : j = i.i.toNat
    · rw [hji]; exact hteq.1 ht1
    · exact hag j (by omega)
set_option maxHeartbeats 1000000 in
theorem agree73_ok : agree73C.ok Try.prog := agree73_of (by simp [sizes29_ok, check93_ok, value94_ok]) fun ρ hg hp => by
  obtain ⟨hpre, hcap⟩ := hp
  have hpre' := hpre
  obtain ⟨n0, n1, hpc⟩ := hpre'
  simp (config := { maxSteps := 4000000 }) [o_agree73, agree73C, agree73I, sizes29C, sizes74C, check93C, chkOf, value94C]
  refine fun b _ hb => ⟨fun h => .inl ⟨by rw [← hb, h], rfl, rfl⟩, fun h => ?_⟩
  have hs : sizesB (ρ 0).i (ρ 1).i = true := by rw [← hb, h]
  obtain ⟨k1, k2, k3⟩ := sizesB_iff.1 hs
  refine ⟨⟨k3, n0, n1, hpc⟩, fun e _ he => ⟨fun hne => .inr (.inl ⟨hs, he, hne, rfl⟩), fun he0 => ?_⟩⟩
  rw [he0] at he
  have P : PcIn (ρ 7).h (ρ 5).d (ρ 0).i (ρ 1).i (ρ 3).i := pcIn hs hpre he
  obtain ⟨v1, v2, v3, v4, v5⟩ := P.value
  have hkn := P.kn
  refine ⟨⟨hs, he, n0, fun j hj => by omega⟩, fun i _ _ _ i0 i1 hag => ⟨n0, fun hi => ?_, fun hi => .inr (.inr ⟨hs, he, rfl, ⟨fun _ j hj => hag j (by omega), fun _ => rfl⟩⟩)⟩⟩
  obtain ⟨hl, hI, d, hrd, hdB, hdD, hdN⟩ := pc_atN hpc i0 hi
  have hix := P.idx i.i.toNat (by omega)
  rw [hI, wrapB_in hix.1 (by omega)]
  have hside : 1 ≤ (ρ 0).i ∧ (ρ 0).i ≤ 255 ∧ (ρ 0).i ≤ (ρ 3).i ∧ (ρ 3).i ≤ (ρ 4).i ∧ (ρ 3).i ≤ 17592186043904 ∧ pcOk (ρ 7).h (ρ 5).d (ρ 0).i.toNat ∧ (∀ j : Nat, (j : Int) < (ρ 0).i → 0 ≤ pcI (ρ 5).d j ∧ pcI (ρ 5).d j < 256) ∧ (idxL (ρ 5).d (ρ 0).i.toNat).Nodup ∧ pcN (ρ 7).h (ρ 5).d 0 ≤ 9000 ∧ (∀ j : Nat, (j : Int) < (ρ 0).i → pcN (ρ 7).h (ρ 5).d j = pcN (ρ 7).h (ρ 5).d 0) ∧ byteP (pcI (ρ 5).d i.i.toNat) :=
    ⟨k1, by omega, hkn, hcap, n1, v5, v1, v2, v3, v4, ⟨hix.1, by omega⟩⟩
  have core : ∀ (m v : U), m.i = (v.d.length : Int) → v.d.length = pcN (ρ 7).h (ρ 5).d 0 → allB v.d → bI v.d = mixN (pcD (ρ 7).h (ρ 5).d) (wgtL (idxL (ρ 5).d (ρ 0).i.toNat) (pcI (ρ 5).d i.i.toNat)) (pcN (ρ 7).h (ρ 5).d 0) (ρ 0).i.toNat →
      (¬ vStr (.string ⟨(bytesOf (v.d.take m.i.toNat)).toArray⟩) = vStr (.string ⟨(bytesOf d).toArray⟩) → conP (ρ 7).h (ρ 5).d (ρ 0).i (ρ 1).i (ρ 3).i false 0) ∧
      (vStr (.string ⟨(bytesOf (v.d.take m.i.toNat)).toArray⟩) = vStr (.string ⟨(bytesOf d).toArray⟩) → (sizesB (ρ 0).i (ρ 1).i = true ∧ chkH (ρ 7).h (ρ 5).d (ρ 0).i (ρ 1).i (-1) (ρ 3).i 0 ∧ 0 ≤ arithOf .add .i64 i.i 1 ∧ arithOf .add .i64 i.i 1 ≤ (ρ 3).i ∧ agreeP (ρ 7).h (ρ 5).d (ρ 0).i.toNat (arithOf .add .i64 i.i 1).toNat) ∧ max ((ρ 3).i - arithOf .add .i64 i.i 1) 0 < (ρ 3).i - i.i) := fun m v hm hvl hvB hv => by
    have hval : bI v.d = valL (ρ 7).h (ρ 5).d (ρ 0).i.toNat (pcI (ρ 5).d i.i.toNat) := hv
    rw [List.take_of_length_le (by omega), str_eq, str_eq, bytesOf_inj hvB hdB, hval, ← hdD]
    refine ⟨fun hne => .inr (.inr ⟨hs, he, rfl, ⟨fun h => (by cases h), fun hall => (hne (hall i.i.toNat (by omega))).elim⟩⟩), fun heq => ?_⟩
    rw [add64 (by omega) (by omega), show (i.i + 1).toNat = i.i.toNat + 1 by omega]
    refine ⟨⟨hs, he, by omega, by omega, fun j hj => ?_⟩, by omega⟩
    by_cases hji : j = i.i.toNat
    · rw [hji]; exact heq
    · exact hag j (by omega)
  refine ⟨i0, hl, ⟨hside, fun m _ v _ hm hvl hvB hv => ⟨⟨by omega, by omega, d, hrd, core m v hm hvl hvB hv⟩, d, hrd, by omega, by omega, core m v hm hvl hvB hv⟩⟩, d, hrd, hside, fun m _ v _ hm hvl hvB hv => ⟨by omega, by omega, core m v hm hvl hvB hv⟩⟩
end Go.Proofs

set_option linter.unusedSimpArgs false
set_option linter.unusedVariables false
namespace Go.Proofs
open Go Go.Eng
set_option maxRecDepth 100000
theorem same33q_ok : same33Q.ok Try.prog := same33q_of (by simp) fun ρ hg hp => by
  obtain ⟨n0, n9, n1, p0, p1⟩ := hp
  simp (config := { maxSteps := 4000000 }) [o_same33q, same33Q, same33Of, same33IOf]
  refine ⟨n0, n1, fun h hs => h (by have := hs.1; omega), fun hn => ⟨⟨n0, hn, fun j hj => absurd hj (by omega)⟩, fun i _ i0 i1 _ hin => ⟨fun hi => ?_, fun hi => ⟨by rw [hn], fun j hj => hin j (by omega)⟩⟩⟩⟩
  obtain ⟨l1, c1, d1, r1, b1, e1⟩ := pc_atI p0 i0 hi
  obtain ⟨l2, c2, d2, r2, b2, e2⟩ := pc_atI p1 i0 (by omega)
  rw [c1, c2, add64 (by omega) (by omega)]
  have hnext : vStr (.string ⟨(bytesOf d1).toArray⟩) = vStr (.string ⟨(bytesOf d2).toArray⟩) → pcI (ρ 3).d i.i.toNat = pcI (ρ 8).d i.i.toNat → ∀ j : Nat, (j : Int) < i.i + 1 → pcI (ρ 3).d j = pcI (ρ 8).d j ∧ pcD (ρ 10).h (ρ 3).d j = pcD (ρ 11).h (ρ 8).d j := fun h hI j hj => by
    by_cases hj' : j = i.i.toNat
    · subst hj'
      rw [str_eq, str_eq, bytesOf_inj b1 b2] at h
      exact ⟨hI, by rw [e1, e2, h]⟩
    · exact hin j (by omega)
  have hdiff : samePc (ρ 10).h (ρ 11).h (ρ 3).d (ρ 8).d (ρ 1).i.toNat (ρ 6).i.toNat → vStr (.string ⟨(bytesOf d1).toArray⟩) = vStr (.string ⟨(bytesOf d2).toArray⟩) := fun hs => by
    rw [str_eq, str_eq, bytesOf_inj b1 b2, ← e1, ← e2]
    exact (hs.2 _ (by omega)).2
  exact ⟨i0, l1, by omega, l2, fun h hs => h (hs.2 i.i.toNat (by omega)).1, fun hI => ⟨⟨d1, .inl r1, d2, .inr r2, fun h hs => h (hdiff hs), fun h => ⟨⟨by omega, by omega, hn, hnext h hI⟩, by omega⟩⟩, ⟨d2, .inr r2, d1, .inl r1, fun h hs => h (hdiff hs), fun h => ⟨⟨by omega, by omega, hn, hnext h hI⟩, by omega⟩⟩⟩⟩
variable {h h' : Hp} {D D' : Rows'} {k total n index len e e' : Int} {b b' : Bool}
theorem same_NP {m : Nat} (hs : samePc h h' D D' m m) : ∀ j, j < m → pcI D j = pcI D' j ∧ pcN h D j = pcN h' D' j := fun j hj => by
  have := hs.2 j hj
  exact ⟨this.1, by unfold pcN; rw [this.2]⟩
theorem same_val {m kk : Nat} (hs : samePc h h' D D' m m) (h1 : 1 ≤ kk) (hk : kk ≤ m) (x : Int) : valL h D kk x = valL h' D' kk x := by
  have hN := same_NP hs
  have hi : idxL D kk = idxL D' kk := List.map_congr_left fun j hj => (hN j (by have := List.mem_range.1 hj; omega)).1
  unfold valL
  rw [hi, (hN 0 (by omega)).2]
  exact mix_congr kk fun j hj => (hs.2 j (by omega)).2
theorem chkH_same (hs : samePc h h' D D' n.toNat n.toNat) (hc : chkH h D k total len n e) : chkH h' D' k total len n e := chk_congr (same_NP hs) hc
theorem chkH_eq (hc : chkH h D k total len n e) (hc' : chkH h D k total len n e') : e = e' := chk_eq hc hc'
theorem chkH_k (hs : sizesB k total = true) (hc : chkH h D k total len n 0) : 1 ≤ k.toNat ∧ k.toNat ≤ n.toNat := by
  obtain ⟨k1, k2, k3⟩ := sizesB_iff.1 hs
  have := (chk_ok hc).2
  omega
theorem rebE_same (hs : samePc h h' D D' n.toNat n.toNat) (hr : rebE h D k total n index e) : rebE h' D' k total n index e := by
  rcases hr with hr | ⟨h1, h2, h3, h4, h5⟩
  · exact .inl hr
  · exact .inr ⟨h1, h2, h3, chkH_same hs h4, h5⟩
theorem rebK_same (hs : samePc h h' D D' n.toNat n.toNat) (hr : rebK h D k total n index) : rebK h' D' k total n index := ⟨hr.1, hr.2.1, hr.2.2.1, chkH_same hs hr.2.2.2⟩
theorem rebE_eq (hr : rebE h D k total n index e) (hr' : rebE h D k total n index e') : e = e' := by
  rcases hr with ⟨h1, rfl⟩ | ⟨h1, h2, h3, h4, h5⟩ <;> rcases hr' with ⟨g1, rfl⟩ | ⟨g1, g2, g3, g4, g5⟩
  · rfl
  · rcases h1 with h1 | h1 | h1
    · rw [h1] at g1; cases g1
    · omega
    · omega
  · rcases g1 with g1 | g1 | g1
    · rw [g1] at h1; cases h1
    · omega
    · omega
  · exact chkH_eq h4 g4
theorem rebE_K (hr : rebE h D k total n index e) (hk : rebK h D k total n index) : False := by
  obtain ⟨g1, g2, g3, g4⟩ := hk
  rcases hr with ⟨h1, rfl⟩ | ⟨h1, h2, h3, h4, h5⟩
  · rcases h1 with h1 | h1 | h1
    · rw [h1] at g1; cases g1
    · omega
    · omega
  · exact h5 (chkH_eq h4 g4)
theorem con_same (hs : samePc h h' D D' n.toNat n.toNat) (hr : conP h D k total n b e) : conP h' D' k total n b e := by
  rcases hr with hr | ⟨h1, h2, h3⟩ | ⟨h1, h2, h3, h4⟩
  · exact .inl hr
  · exact .inr (.inl ⟨h1, chkH_same hs h2, h3⟩)
  · refine .inr (.inr ⟨h1, chkH_same hs h2, h3, h4.trans ?_⟩)
    obtain ⟨k1, k2⟩ := chkH_k h1 h2
    unfold agreeP
    constructor
    · intro ha j hj
      have := hs.2 j hj
      rw [← same_val hs k1 k2, ← this.1, ← this.2]
      exact ha j hj
    · intro ha j hj
      have := hs.2 j hj
      rw [same_val hs k1 k2, this.1, this.2]
      exact ha j hj
theorem con_eq (hr : conP h D k total n b e) (hr' : conP h D k total n b' e') : e = e' ∧ b = b' := by
  rcases hr with ⟨h1, h2, h3⟩ | ⟨h1, h2, h3, h4⟩ | ⟨h1, h2, h3, h4⟩ <;> rcases hr' with ⟨g1, g2, g3⟩ | ⟨g1, g2, g3, g4⟩ | ⟨g1, g2, g3, g4⟩
  · exact ⟨by rw [h3, g3], by rw [h2, g2]⟩
  · rw [h1] at g1; cases g1
  · rw [h1] at g1; cases g1
  · rw [g1] at h1; cases h1
  · exact ⟨chkH_eq h2 g2, by rw [h4, g4]⟩
  · exact (h3 (chkH_eq h2 g2)).elim
  · rw [g1] at h1; cases h1
  · exact (g3 (chkH_eq g2 h2)).elim
  · refine ⟨by rw [h3, g3], ?_⟩
    cases b <;> cases b' <;> simp_all
end Go.Proofs

set_option linter.unusedSimpArgs false
set_option linter.unusedVariables false
namespace Go.Proofs
open Go Go.Eng
set_option maxRecDepth 100000 in
set_option maxHeartbeats 4000000 in
theorem lawRebuilds_ok : lawRebuildsC.ok Try.prog := lawRebuilds_of (by simp [mine68_ok, sizes29_ok, newField_ok, rebuild71_ok, again72_ok, consistent67_ok, agree73_ok, same33q_ok, known_ok]) fun ρ hg hp => by
  obtain ⟨⟨w0, w1, w2, w3, ⟨d0, d1, d2, d3⟩, ⟨o0, o1, o2, o3⟩, _, hm, ⟨p0, p1, p2⟩, hpc⟩, hcap⟩ := hp
  simp (config := { maxSteps := 40000000 }) [o_lawRebuilds, lawRebuildsC, lawIs, lawRet, newFieldC, mine68C, sizes29C, sizes74C, rebuild71C, again72C, consistent67C, agree73C, same33Q, same33Of, knownC]
  have hpre0 : pcPre (ρ 27).h (ρ 25).d (ρ 17).i := ⟨p0, p1, hpc⟩
  refine ⟨⟨p0, p1, hpc⟩, fun D _ h _ h60 hL hDl hpD hs => ?_⟩
  have hpre : pcPre h.h D.d (ρ 17).i := ⟨p0, p1, hpD⟩
  refine ⟨fun hk b _ hb hbf f0 _ hf0 => ?_, fun hk f0 _ hf0 => ?_⟩
  all_goals refine ⟨⟨.inl hf0, hpre⟩, fun e _ f1 _ hf hE => ⟨⟨hpre0, hcap⟩, fun e2 _ hE2 => ⟨rebE_eq (rebE_same hs hE) hE2, fun _ => ?_⟩, fun l _ d _ hK _ _ _ _ => (rebE_K (rebE_same hs hE) hK).elim⟩, fun l1 _ f1 _ d1 _ hf hK hl1 hN1 hB1 hd1 => ⟨⟨hpre0, hcap⟩, fun e2 _ hE2 => (rebE_K hE2 (rebK_same hs hK)).elim, fun l2 _ d2 _ hK2 hl2 hN2 hB2 hd2 => ⟨by omega, by omega, by omega, by omega, ?_, fun _ => ?_⟩⟩⟩
  rotate_left 1
  all_goals try
    refine ⟨⟨hf, hpre⟩, fun b1 _ e1 _ f2 _ hf2 hc1 => ⟨⟨hpre0, hcap⟩, fun b2 _ e3 _ hc2 => ?_⟩⟩
    obtain ⟨he, hb⟩ := con_eq (con_same hs hc1) hc2
    exact ⟨fun _ => ⟨fun _ => ⟨⟨p0, p1, p0, hpD, hpc⟩, fun t _ ht => ht.2 hs⟩, hb⟩, he⟩
  all_goals
    obtain ⟨k1, k2⟩ := chkH_k hK.1 hK.2.2.2
    rw [List.take_of_length_le (by omega), List.take_of_length_le (by omega), bytesOf_eq, bytesOf_eq, hd1, hd2, same_val hs k1 k2]
end Go.Proofs

set_option linter.unusedSimpArgs false
set_option linter.unusedVariables false
namespace Go.Proofs.Ytkiheclcmgbmnaa
open Go Go.ChangeShapes Go.WideShapes Go.ChangeAt Go.RowKit
set_option maxRecDepth 100000
/-- The signs of the program's own line on its start. -/
def startSigns : List Char := ['h', 'a', 'r', 'n', 'e', 's', 's', ' ', '9', 'a', '3', '1', '6', '5', '5', '0', 'e', '0', 'b', 'd', '8', 'e', '9', 'b', '0', 'd', '4', '1', 'd', '9', '2', 'b', 'a', '0', 'b', '0', '4', '2', 'd', '6', 'a', 'c', '4', '7', '3', 'b', 'b', '7', '2', 'b', '3', 'a', '4', 'e', '5', '5', '7', 'd', '9', 'a', 'f', 'c', '9', '5', '7', '2', 'c', 'f', 'a', '1', '1', '2', ' ', 'c', 'u', 't', ' ', 'a', 't', ' ', 's', 't', 'o', 'l', 'o', 'n', '/', 's', 't', 'o', 'l', 'o', 'n', 'l', 'a', 'w', '0', '1', '.', 'R', 's', 'S', 'i', 'z', 'e', 's', ' ', 's', 't', 'o', 'l', 'o', 'n', '/', 's', 't', 'o', 'l', 'o', 'n', 'l', 'a', 'w', '0', '1', '.', 'R', 's', 'E', 'n', 'c', 'o', 'd', 'e', 's', ' ', 's', 't', 'o', 'l', 'o', 'n', '/', 's', 't', 'o', 'l', 'o', 'n', 'l', 'a', 'w', '0', '1', '.', 'R', 's', 'S', 'y', 's', 't', 'e', 'm', 'a', 't', 'i', 'c', ' ', 's', 't', 'o', 'l', 'o', 'n', '/', 's', 't', 'o', 'l', 'o', 'n', 'l', 'a', 'w', '0', '1', '.', 'R', 's', 'L', 'i', 'n', 'e', 'a', 'r', ' ', 's', 't', 'o', 'l', 'o', 'n', '/', 's', 't', 'o', 'l', 'o', 'n', 'l', 'a', 'w', '0', '1', '.', 'R', 's', 'D', 'i', 's', 't', 'a', 'n', 'c', 'e', ' ', 's', 't', 'o', 'l', 'o', 'n', '/', 's', 't', 'o', 'l', 'o', 'n', 'l', 'a', 'w', '0', '1', '.', 'R', 's', 'M', 'e', 'm', 'o', 'r', 'y', ' ', 's', 't', 'o', 'l', 'o', 'n', '/', 's', 't', 'o', 'l', 'o', 'n', 'l', 'a', 'w', '0', '1', '.', 'R', 's', 'P', 'o', 'w', 'e', 'r', 's', ' ', 's', 't', 'o', 'l', 'o', 'n', '/', 's', 't', 'o', 'l', 'o', 'n', 'l', 'a', 'w', '0', '1', '.', 'R', 's', 'E', 'x', 'p', 'o', 'n', 'e', 'n', 't', 's', ' ', 's', 't', 'o', 'l', 'o', 'n', '/', 's', 't', 'o', 'l', 'o', 'n', 'l', 'a', 'w', '0', '1', '.', 'R', 's', 'S', 'h', 'a', 'p', 'e', 's', ' ', 's', 't', 'o', 'l', 'o', 'n', '/', 's', 't', 'o', 'l', 'o', 'n', 'l', 'a', 'w', '0', '1', '.', 'R', 's', 'P', 'r', 'o', 'd', 'u', 'c', 't', 's', ' ', 's', 't', 'o', 'l', 'o', 'n', '/', 's', 't', 'o', 'l', 'o', 'n', 'l', 'a', 'w', '0', '1', '.', 'R', 's', 'M', 'u', 'l', 't', 'i', 'p', 'l', 'i', 'e', 's', ' ', 's', 't', 'o', 'l', 'o', 'n', '/', 's', 't', 'o', 'l', 'o', 'n', 'l', 'a', 'w', '0', '1', '.', 'R', 's', 'F', 'i', 'e', 'l', 'd', ' ', 's', 't', 'o', 'l', 'o', 'n', '/', 's', 't', 'o', 'l', 'o', 'n', 'l', 'a', 'w', '0', '1', '.', 'R', 's', 'I', 'n', 'v', 'e', 'r', 't', 's', ' ', 's', 't', 'o', 'l', 'o', 'n', '/', 's', 't', 'o', 'l', 'o', 'n', 'l', 'a', 'w', '0', '1', '.', 'R', 's', 'I', 'n', 'v', 'e', 'r', 's', 'e', 'U', 'n', 'd', 'o', 'e', 's', ' ', 's', 't', 'o', 'l', 'o', 'n', '/', 's', 't', 'o', 'l', 'o', 'n', 'l', 'a', 'w', '0', '1', '.', 'R', 's', 'E', 'v', 'a', 'l', 'u', 'a', 't', 'e', 's', ' ', 's', 't', 'o', 'l', 'o', 'n', '/', 's', 't', 'o', 'l', 'o', 'n', 'l', 'a', 'w', '0', '1', '.', 'R', 's', 'S', 'e', 'l', 'e', 'c', 't', 's', ' ', 's', 't', 'o', 'l', 'o', 'n', '/', 's', 't', 'o', 'l', 'o', 'n', 'l', 'a', 'w', '0', '1', '.', 'R', 's', 'A', 'n', 'y', 'R', 'o', 'w', 's', ' ', 's', 't', 'o', 'l', 'o', 'n', '/', 's', 't', 'o', 'l', 'o', 'n', 'l', 'a', 'w', '0', '1', '.', 'R', 's', 'I', 'n', 't', 'e', 'r', 'p', 'o', 'l', 'a', 't', 'e', 's', ' ', 's', 't', 'o', 'l', 'o', 'n', '/', 's', 't', 'o', 'l', 'o', 'n', 'l', 'a', 'w', '0', '1', '.', 'R', 's', 'P', 'a', 's', 's', 'e', 's', 'T', 'h', 'r', 'o', 'u', 'g', 'h', ' ', 's', 't', 'o', 'l', 'o', 'n', '/', 's', 't', 'o', 'l', 'o', 'n', 'l', 'a', 'w', '0', '1', '.', 'R', 's', 'D', 'e', 't', 'e', 'c', 't', 's', ' ', 's', 't', 'o', 'l', 'o', 'n', '/', 's', 't', 'o', 'l', 'o', 'n', 'l', 'a', 'w', '0', '1', '.', 'R', 's', 'D', 'e', 'c', 'o', 'd', 'e', 's', ' ', 's', 't', 'o', 'l', 'o', 'n', '/', 's', 't', 'o', 'l', 'o', 'n', 'l', 'a', 'w', '0', '1', '.', 'R', 's', 'R', 'e', 'b', 'u', 'i', 'l', 'd', 's', ' ', 's', 't', 'o', 'l', 'o', 'n', '/', 's', 't', 'o', 'l', 'o', 'n', 'l', 'a', 'w', '0', '1', '.', 'R', 's', 'R', 'e', 'c', 'o', 'v', 'e', 'r', 's']
def startWords : List (List Char) := [['c', 'u', 't'], ['a', 't'], ['s', 't', 'o', 'l', 'o', 'n', '/', 's', 't', 'o', 'l', 'o', 'n', 'l', 'a', 'w', '0', '1', '.', 'R', 's', 'S', 'i', 'z', 'e', 's'], ['s', 't', 'o', 'l', 'o', 'n', '/', 's', 't', 'o', 'l', 'o', 'n', 'l', 'a', 'w', '0', '1', '.', 'R', 's', 'E', 'n', 'c', 'o', 'd', 'e', 's'], ['s', 't', 'o', 'l', 'o', 'n', '/', 's', 't', 'o', 'l', 'o', 'n', 'l', 'a', 'w', '0', '1', '.', 'R', 's', 'S', 'y', 's', 't', 'e', 'm', 'a', 't', 'i', 'c'], ['s', 't', 'o', 'l', 'o', 'n', '/', 's', 't', 'o', 'l', 'o', 'n', 'l', 'a', 'w', '0', '1', '.', 'R', 's', 'L', 'i', 'n', 'e', 'a', 'r'], ['s', 't', 'o', 'l', 'o', 'n', '/', 's', 't', 'o', 'l', 'o', 'n', 'l', 'a', 'w', '0', '1', '.', 'R', 's', 'D', 'i', 's', 't', 'a', 'n', 'c', 'e'], ['s', 't', 'o', 'l', 'o', 'n', '/', 's', 't', 'o', 'l', 'o', 'n', 'l', 'a', 'w', '0', '1', '.', 'R', 's', 'M', 'e', 'm', 'o', 'r', 'y'], ['s', 't', 'o', 'l', 'o', 'n', '/', 's', 't', 'o', 'l', 'o', 'n', 'l', 'a', 'w', '0', '1', '.', 'R', 's', 'P', 'o', 'w', 'e', 'r', 's'], ['s', 't', 'o', 'l', 'o', 'n', '/', 's', 't', 'o', 'l', 'o', 'n', 'l', 'a', 'w', '0', '1', '.', 'R', 's', 'E', 'x', 'p', 'o', 'n', 'e', 'n', 't', 's'], ['s', 't', 'o', 'l', 'o', 'n', '/', 's', 't', 'o', 'l', 'o', 'n', 'l', 'a', 'w', '0', '1', '.', 'R', 's', 'S', 'h', 'a', 'p', 'e', 's'], ['s', 't', 'o', 'l', 'o', 'n', '/', 's', 't', 'o', 'l', 'o', 'n', 'l', 'a', 'w', '0', '1', '.', 'R', 's', 'P', 'r', 'o', 'd', 'u', 'c', 't', 's'], ['s', 't', 'o', 'l', 'o', 'n', '/', 's', 't', 'o', 'l', 'o', 'n', 'l', 'a', 'w', '0', '1', '.', 'R', 's', 'M', 'u', 'l', 't', 'i', 'p', 'l', 'i', 'e', 's'], ['s', 't', 'o', 'l', 'o', 'n', '/', 's', 't', 'o', 'l', 'o', 'n', 'l', 'a', 'w', '0', '1', '.', 'R', 's', 'F', 'i', 'e', 'l', 'd'], ['s', 't', 'o', 'l', 'o', 'n', '/', 's', 't', 'o', 'l', 'o', 'n', 'l', 'a', 'w', '0', '1', '.', 'R', 's', 'I', 'n', 'v', 'e', 'r', 't', 's'], ['s', 't', 'o', 'l', 'o', 'n', '/', 's', 't', 'o', 'l', 'o', 'n', 'l', 'a', 'w', '0', '1', '.', 'R', 's', 'I', 'n', 'v', 'e', 'r', 's', 'e', 'U', 'n', 'd', 'o', 'e', 's'], ['s', 't', 'o', 'l', 'o', 'n', '/', 's', 't', 'o', 'l', 'o', 'n', 'l', 'a', 'w', '0', '1', '.', 'R', 's', 'E', 'v', 'a', 'l', 'u', 'a', 't', 'e', 's'], ['s', 't', 'o', 'l', 'o', 'n', '/', 's', 't', 'o', 'l', 'o', 'n', 'l', 'a', 'w', '0', '1', '.', 'R', 's', 'S', 'e', 'l', 'e', 'c', 't', 's'], ['s', 't', 'o', 'l', 'o', 'n', '/', 's', 't', 'o', 'l', 'o', 'n', 'l', 'a', 'w', '0', '1', '.', 'R', 's', 'A', 'n', 'y', 'R', 'o', 'w', 's'], ['s', 't', 'o', 'l', 'o', 'n', '/', 's', 't', 'o', 'l', 'o', 'n', 'l', 'a', 'w', '0', '1', '.', 'R', 's', 'I', 'n', 't', 'e', 'r', 'p', 'o', 'l', 'a', 't', 'e', 's'], ['s', 't', 'o', 'l', 'o', 'n', '/', 's', 't', 'o', 'l', 'o', 'n', 'l', 'a', 'w', '0', '1', '.', 'R', 's', 'P', 'a', 's', 's', 'e', 's', 'T', 'h', 'r', 'o', 'u', 'g', 'h'], ['s', 't', 'o', 'l', 'o', 'n', '/', 's', 't', 'o', 'l', 'o', 'n', 'l', 'a', 'w', '0', '1', '.', 'R', 's', 'D', 'e', 't', 'e', 'c', 't', 's'], ['s', 't', 'o', 'l', 'o', 'n', '/', 's', 't', 'o', 'l', 'o', 'n', 'l', 'a', 'w', '0', '1', '.', 'R', 's', 'D', 'e', 'c', 'o', 'd', 'e', 's'], ['s', 't', 'o', 'l', 'o', 'n', '/', 's', 't', 'o', 'l', 'o', 'n', 'l', 'a', 'w', '0', '1', '.', 'R', 's', 'R', 'e', 'b', 'u', 'i', 'l', 'd', 's'], ['s', 't', 'o', 'l', 'o', 'n', '/', 's', 't', 'o', 'l', 'o', 'n', 'l', 'a', 'w', '0', '1', '.', 'R', 's', 'R', 'e', 'c', 'o', 'v', 'e', 'r', 's']]
theorem start_eq : Try.pinned.checked.prog.initOrder = String.ofList startSigns := by kernel_rfl
theorem words_of {P : Program} {l : List Char} (h : P.initOrder = String.ofList l) : behindMainWord (wordsSigns P.initOrder.toList) = behindMainWord (wordsSigns l) := by rw [h, String.toList_ofList]
theorem words_eq : behindMainWord (wordsSigns Try.pinned.checked.prog.initOrder.toList) = startWords := (words_of start_eq).trans (by kernel_rfl)
theorem lifts_of {P : Program} {l : List (List Char)} (h : behindMainWord (wordsSigns P.initOrder.toList) = l) : P.liftsFinal = ((l.head? == some "carried".toList && l.take 3 != ["carried".toList, "gc".toList, "cut".toList]) || (if (stripLifts liftWords l).2.head? == some "cut".toList then (stripLifts liftWords l).1 else []).contains "finals") := by
  unfold Program.liftsFinal Program.headLifts
  rw [h]
theorem make_of {P : Program} {c : List Char} {l : List (List Char)} (h : behindMainWord (wordsSigns P.initOrder.toList) = c :: l) (h1 : (c == "gc".toList || c == "spec".toList) = false) (h2 : (c == "cut".toList) = true) : P.make = some .cut := by
  unfold Program.make
  rw [h]
  simp only [h1, h2, Bool.true_or, if_true, Bool.false_eq_true, if_false]
theorem enter_of {P : Program} {c : List Char} {l : List (List Char)} (h : behindMainWord (wordsSigns P.initOrder.toList) = c :: l) (h1 : (stripLifts liftWords (c :: l)).2.head? = some "cut".toList) (h2 : (stripLifts liftWords (c :: l)).1 = [])
    (h3 : P.laysLater = false) (h4 : P.bearsReflect = false) (h5 : P.doorFits [] = true) : P.mayEnter = true := by
  unfold Program.mayEnter
  rw [h]
  simp only [h1, h2, h3, h4, h5, beq_self_eq_true, Bool.and_self, Bool.or_true, Bool.not_false, List.contains_nil, Bool.false_eq_true]
theorem mayEnter_P : Try.pinned.checked.prog.mayEnter = true := enter_of words_eq (by kernel_rfl) (by kernel_rfl) (by kernel_rfl) (by kernel_rfl) (by kernel_rfl)
theorem lifts_P : Try.pinned.checked.prog.liftsFinal = Rows.rsSizesRow.lifted := (lifts_of words_eq).trans (by kernel_rfl)
theorem make_P : Try.pinned.checked.prog.make = some Rows.rsSizesRow.make := (make_of words_eq (by kernel_rfl) (by kernel_rfl)).trans (by kernel_rfl)
/-- The closed facts of a row, the three that ask of the start apart. -/
theorem facts_of {P : Program} {f : FuncId} {fn : Func} {s : ChangeSpec} {c : OpenClaim}
    (h1 : (c.wf (OpenSpec.ofChange s) && laidOutB P && mapsRowed P && fn.params.all (P.readableRec ·) && namedTie P c.named s.vars && (c.stops == []) && (P.stops == []) && (c.knobs == []) && (P.stopKnobs == [])) = true)
    (h2 : (c.inPlace == P.inPlace f) = true) (h3 : (c.unfollowed == P.unfollowed f) = true) (h4 : (c.recurses == P.recurses f) = true) (h5 : (c.named == P.varsNamed f) = true)
    (h6 : ((c.maps == (fn.params.toList ++ s.plain.varTypes P).any (P.mapsRec ·)) && (c.ifaces == (fn.params.toList ++ s.plain.varTypes P).any (P.ifacesRec ·)) && (c.mapsOut == P.mapsAmong fn.resultTypes.toList) &&
      (c.loops == (fn.params.toList ++ s.plain.varTypes P).any (P.loopsFrom ·)) && (c.wideKeys == (fn.params.toList ++ s.plain.varTypes P ++ fn.resultTypes.toList).any (P.wideKeysFrom ·)) &&
      s.vars.all (P.varReadable ·) && fn.resultTypes.all (fun t => P.readableRec t && decide (t < P.types.size)) && (c.ifacesOut == fn.resultTypes.toList.any (P.ifacesRec ·)) && (c.loopsOut == fn.resultTypes.toList.any (P.loopsFrom ·)) && (c.plainKeys == P.plainKeys) && c.shortTexts.isNone && P.stopsHeard) = true)
    (h7 : P.mayEnter = true) (h8 : P.liftsFinal = c.lifted) (h9 : P.make = some c.make)
    (h10 : ((c.kinds == (if c.domain.isEmpty then [] else fn.params.toList.map fun t => match P.underlying t with | some (.int k) => some k | _ => none)) && (c.pinned == c.pinnedBy) &&
      (c.veiled == (fn.params.toList ++ s.plain.varTypes P ++ fn.resultTypes.toList).any (P.veiledRec ·)) && c.veiledFits P fn.params.toList (fn.params.toList ++ s.plain.varTypes P ++ fn.resultTypes.toList)) = true) : joinedFacts P f fn s c = true := by
  unfold joinedFacts
  simp only [Bool.and_eq_true] at h1 h6 h10 ⊢
  obtain ⟨⟨⟨⟨⟨⟨⟨⟨⟨⟨⟨a13, a14⟩, a15⟩, a16⟩, a17⟩, a18⟩, a19⟩, a20⟩, a21⟩, a22⟩, a23⟩, a24⟩ := h6
  obtain ⟨⟨⟨a28, a29⟩, a30⟩, a31⟩ := h10
  exact ⟨⟨⟨⟨⟨⟨⟨⟨⟨⟨⟨⟨⟨⟨⟨⟨⟨⟨⟨⟨⟨⟨⟨h1, h2⟩, h3⟩, h4⟩, h5⟩, a13⟩, a14⟩, a15⟩, a16⟩, a17⟩, a18⟩, a19⟩, a20⟩, a21⟩, a22⟩, a23⟩, a24⟩, h7⟩, (by rw [h8]; exact beq_self_eq_true _)⟩, (by rw [h9]; exact beq_self_eq_true _)⟩, a28⟩, a29⟩, a30⟩, a31⟩
end Go.Proofs.Ytkiheclcmgbmnaa

set_option linter.unusedSimpArgs false
set_option linter.unusedVariables false
namespace Go.Proofs.Ytkiheclcmgbmnaa
open Go Go.Eng Go.Proofs Go.ChangeShapes Go.WideShapes Go.ChangeAt Go.RowKit
theorem own : ownKnob Try.prog.godebug = none := by kernel_rfl
theorem laidOut : laidOutB Try.prog = true := by kernel_rfl
theorem good3 : Try.prog.readableRec 3 = true ∧ 3 < Try.prog.types.size := ⟨by kernel_rfl, of_decide_eq_true (by kernel_rfl)⟩
theorem good27 : Try.prog.readableRec 27 = true ∧ 27 < Try.prog.types.size := ⟨by kernel_rfl, of_decide_eq_true (by kernel_rfl)⟩
theorem pat5 : patP Try.prog 3 5 = some kB := by kernel_rfl
theorem cells5 : Try.prog.cellsOf 5 = kB.length := by kernel_rfl
theorem bytes5 : Try.prog.bytesOf 5 = 1 := by kernel_rfl
theorem wf_i64 {z : Int} (h : (Lit.int .i64 z).wf = true) : -9223372036854775808 ≤ z ∧ z < 9223372036854775808 := by
  have u1 : IntKind.i64.min = -9223372036854775808 := rfl
  have u2 : IntKind.i64.max = 9223372036854775807 := rfl
  simp [Lit.wf, IntKind.wrap, IntKind.bits, IntKind.signed] at h
  omega
theorem wf_u8 {z : Int} (h : (Lit.int .u8 z).wf = true) : 0 ≤ z ∧ z < 256 := by
  have u1 : IntKind.u8.min = 0 := rfl
  have u2 : IntKind.u8.max = 255 := rfl
  simp [Lit.wf, IntKind.wrap, IntKind.bits, IntKind.signed] at h
  omega
/-- An argument that is bytes in memory. -/
def bytesAt (W : World) (r : Option Addr) (rows : List (List Value)) : Prop := rows = [] ∨ ∃ b o c ty fr, r = some ⟨b, o, none⟩ ∧ W.heap[b]? = some (.cells c ty fr) ∧ rowsAt c o kB rows
section
variable {H : Type} {enc : TypeId × Value → H} {W : World} {base b : Nat} {sp : Nat → Bool}
set_option maxRecDepth 100000 in
theorem rows_bytes {fuel : Nat} {v : Value} {x : DataW H × List MemPlace} (hsp : ∀ b, sp b = true) (hf : DataW.trod enc Try.prog W base sp true fuel 27 [v] = some x) (hsz : ∀ n ∈ x.1.weights Try.prog 27, n ≤ reachBytes) :
    ∃ (r : Option Addr) (rows : List (List Value)) (cap : Nat), v = .slice (addrOf r 0) rows.length cap ∧ rows.length ≤ cap ∧ (rows.length : Int) ≤ 140737488351232 ∧ allB rows ∧ bytesAt W r rows := by
  obtain ⟨rows, hr, ht, hd⟩ := open_rows (ps := x.2) (d := x.1) Try.underlying27 pat5 cells5 (by decide) hsp hf
  have hbound : (rows.length : Int) ≤ 140737488351232 := by
    rcases hd with ⟨_, h0⟩ | ⟨elems, spare, h3, h4, _⟩
    · rw [h0]; decide
    · have := hsz ((elems.length + spare.length) * Try.prog.bytesOf 5) (by rw [h3]; simp only [DataW.weights, Try.underlying27]; exact List.mem_cons_self ..)
      rw [bytes5] at this
      have hrb : reachBytes = 140737488351232 := by decide
      rw [hrb] at this
      omega
  have hall : allB rows := fun row hrow => by
    obtain ⟨fuel', x', h⟩ := ht row hrow
    obtain ⟨z, e, _, hw⟩ := DataW.trod_int Try.underlying5 h
    rw [e]
    exact wf_u8 hw
  rcases hr with ⟨r, e1, e2⟩ | ⟨b, o, cap, c, ty, fr, e1, hle, e3, e4⟩
  · exact ⟨r, rows, 0, by rw [e1, e2, addrOf_zero]; rfl, by rw [e2]; exact Nat.zero_le _, hbound, hall, .inl e2⟩
  · exact ⟨some ⟨b, o, none⟩, rows, cap, by rw [e1]; rfl, by omega, hbound, hall, .inr ⟨b, o, c, ty, fr, rfl, e3, e4⟩⟩
theorem sized_of {ts : List TypeId} {ds : List (DataW H)} {j : Nat} {t : TypeId} {d : DataW H} (hsz : (DataW.weightsEach Try.prog ts ds).all (· ≤ reachBytes) = true) (hts : ts[j]? = some t) (hds : ds[j]? = some d) : ∀ n ∈ d.weights Try.prog t, n ≤ reachBytes := fun n hn => by
  have := List.all_eq_true.1 hsz n (DataW.weights_mem_each hts hds n hn)
  simpa using this
set_option maxRecDepth 100000 in
theorem open_bytes {v : Value} {d : DataW H} {p : List MemPlace} {ts : List TypeId} {ds : List (DataW H)} {j : Nat} (hsp : ∀ b, sp b = true)
    (hv : Value.okWide Try.prog W .any b 27 v) (h : DataW.Trod enc Try.prog W base sp true 27 v d p) (hsz : (DataW.weightsEach Try.prog ts ds).all (· ≤ reachBytes) = true) (hts : ts[j]? = some 27) (hds : ds[j]? = some d) :
    ∃ (r : Option Addr) (rows : List (List Value)) (cap : Nat), v = .slice (addrOf r 0) rows.length cap ∧ rows.length ≤ cap ∧ (rows.length : Int) ≤ 140737488351232 ∧ allB rows ∧ bytesAt W r rows := by
  obtain ⟨h1, h2⟩ := Go.Eng.okWide_slice Try.underlying27 hv
  obtain ⟨fuel, hf⟩ := h
  rw [h1] at hf
  exact rows_bytes hsp hf (sized_of hsz hts hds)
theorem bytes_good {r : Option Addr} {rows : List (List Value)} (h : bytesAt W r rows) : ({ d := rows } : U).good := by
  refine ⟨rfl, ?_⟩
  rcases h with h | ⟨_, _, _, _, _, _, _, h⟩
  · simp only; rw [h]; simp
  · exact rowsAt_good h
end
end Go.Proofs.Ytkiheclcmgbmnaa

set_option linter.unusedSimpArgs false
set_option linter.unusedVariables false
namespace Go.Proofs.Ytkiheclcmgbmnaa
open Go Go.Eng Go.Proofs Go.ChangeShapes Go.WideShapes Go.ChangeAt Go.RowKit
theorem cells3 : Try.prog.cellsOf 3 = 1 := by kernel_rfl
theorem cells27 : Try.prog.cellsOf 27 = 1 := by kernel_rfl
section
variable {H : Type} {enc : TypeId × Value → H} {W : World} {base b : Nat} {sp : Nat → Bool}
/-- A field of a struct that reads: what it is read as, its weights. -/
theorem open_field {t u : TypeId} {fs : Array Field} {cs : List Value} {fuel : Nat} {x : DataW H × List MemPlace} {k off : Nat} (ht : Try.prog.underlying t = some (.struct fs)) (h : DataW.trod enc Try.prog W base sp true fuel t cs = some x)
    (hk : (fs[k]?).map (fun f => (f.type, f.offset)) = some (u, off)) : ∃ m y, DataW.trod enc Try.prog W base sp true m u ((cs.drop off).take (Try.prog.cellsOf u)) = some y ∧ ∀ n ∈ y.1.weights Try.prog u, n ∈ x.1.weights Try.prog t := by
  obtain ⟨xs, n, _, hx, _, hxl, hall⟩ := DataW.trod_struct ht h
  obtain ⟨f, hf, hf'⟩ := Option.map_eq_some_iff.1 hk
  simp only [Prod.mk.injEq] at hf'
  have h1 := hall k f hf
  rw [hf'.1, hf'.2] at h1
  have hlt : k < xs.length := by rw [hxl]; exact (Array.getElem?_eq_some_iff.1 hf).1
  rw [List.getElem?_eq_getElem hlt] at h1
  refine ⟨n, _, h1, fun m hm => ?_⟩
  rw [hx]
  simp only [DataW.weights, ht]
  exact DataW.weights_mem_each (j := k) (by rw [List.getElem?_map, Array.getElem?_toList, hf, Option.map_some, hf'.1]) (by simp [hlt]) m hm
theorem pat3 : patP Try.prog 3 3 = some kI := by kernel_rfl
theorem bytes3 : Try.prog.bytesOf 3 = 8 := by kernel_rfl
/-- An argument that is numbers in memory. -/
def intsAt (W : World) (r : Option Addr) (rows : List (List Value)) : Prop := rows = [] ∨ ∃ b o c ty fr, r = some ⟨b, o, none⟩ ∧ W.heap[b]? = some (.cells c ty fr) ∧ rowsAt c o kI rows
theorem ints_good {r : Option Addr} {rows : List (List Value)} (h : intsAt W r rows) : ({ d := rows } : U).good := by
  refine ⟨rfl, ?_⟩
  rcases h with h | ⟨_, _, _, _, _, _, _, h⟩
  · simp only; rw [h]; simp
  · exact rowsAt_good h
end
end Go.Proofs.Ytkiheclcmgbmnaa

set_option linter.unusedSimpArgs false
set_option linter.unusedVariables false
namespace Go.Proofs.Ytkiheclcmgbmnaa
open Go Go.Eng Go.Proofs Go.ChangeShapes Go.WideShapes Go.ChangeAt Go.RowKit
noncomputable def fs39 : Array Field := match Try.prog.underlying 39 with | some (.struct fs) => fs | _ => #[]
noncomputable def fs36 : Array Field := match Try.prog.underlying 36 with | some (.struct fs) => fs | _ => #[]
theorem under39 : Try.prog.underlying 39 = some (.struct fs39) := by kernel_rfl
theorem under36 : Try.prog.underlying 36 = some (.struct fs36) := by kernel_rfl
theorem fs39_0 : (fs39[0]?).map (fun f => (f.type, f.offset)) = some (3, 0) := by kernel_rfl
theorem fs39_1 : (fs39[1]?).map (fun f => (f.type, f.offset)) = some (3, 1) := by kernel_rfl
theorem fs39_2 : (fs39[2]?).map (fun f => (f.type, f.offset)) = some (3, 2) := by kernel_rfl
theorem fs39_3 : (fs39[3]?).map (fun f => (f.type, f.offset)) = some (3, 3) := by kernel_rfl
theorem fs39_4 : (fs39[4]?).map (fun f => (f.type, f.offset)) = some (27, 4) := by kernel_rfl
theorem fs39_5 : (fs39[5]?).map (fun f => (f.type, f.offset)) = some (27, 5) := by kernel_rfl
theorem fs39_6 : (fs39[6]?).map (fun f => (f.type, f.offset)) = some (37, 6) := by kernel_rfl
theorem fs39_7 : (fs39[7]?).map (fun f => (f.type, f.offset)) = some (3, 7) := by kernel_rfl
theorem fs39_8 : (fs39[8]?).map (fun f => (f.type, f.offset)) = some (3, 8) := by kernel_rfl
theorem fs39_9 : (fs39[9]?).map (fun f => (f.type, f.offset)) = some (5, 9) := by kernel_rfl
theorem fs39_10 : (fs39[10]?).map (fun f => (f.type, f.offset)) = some (28, 10) := by kernel_rfl
theorem fs36_1 : (fs36[1]?).map (fun f => (f.type, f.offset)) = some (27, 1) := by kernel_rfl
theorem cells39 : Try.prog.cellsOf 39 = 11 := by kernel_rfl
theorem cells5' : Try.prog.cellsOf 5 = 1 := by kernel_rfl
theorem cells37 : Try.prog.cellsOf 37 = 1 := by kernel_rfl
theorem cells28 : Try.prog.cellsOf 28 = 1 := by kernel_rfl
theorem cells36 : Try.prog.cellsOf 36 = kPiece.length := by kernel_rfl
theorem bytes36 : Try.prog.bytesOf 36 = 32 := by kernel_rfl
theorem pat36 : patP Try.prog 3 36 = some kPiece := by kernel_rfl
theorem good39 : Try.prog.readableRec 39 = true ∧ 39 < Try.prog.types.size := ⟨by kernel_rfl, of_decide_eq_true (by kernel_rfl)⟩
section
variable {H : Type} {enc : TypeId × Value → H} {W : World} {base b : Nat} {sp : Nat → Bool}
theorem fits_int {k : IntKind} {v : Value} (h : CK.fits (.int k) v = true) : ∃ z, v = .int k z := by
  cases v <;> simp [CK.fits] at h
  subst h; exact ⟨_, rfl⟩
/-- Bytes that a cell tells of. -/
theorem cell_bytes {fuel : Nat} {v : Value} {x : DataW H × List MemPlace} (hsp : ∀ b, sp b = true) (hf : DataW.trod enc Try.prog W base sp true fuel 27 [v] = some x) :
    ∃ rows : List (List Value), Rd (fun b => W.heap[b]?) kB v rows ∧ allB rows := by
  obtain ⟨rows, hr, ht, hd⟩ := open_rows (ps := x.2) (d := x.1) Try.underlying27 pat5 cells5 (by decide) hsp hf
  refine ⟨rows, hr, fun row hrow => ?_⟩
  obtain ⟨fuel', x', h⟩ := ht row hrow
  obtain ⟨z, e, _, hw⟩ := DataW.trod_int Try.underlying5 h
  rw [e]
  exact wf_u8 hw
/-- Pieces that a cell tells of. -/
def piecesAt (W : World) (r : Option Addr) (rows : List (List Value)) : Prop := rows = [] ∨ ∃ b o c ty fr, r = some ⟨b, o, none⟩ ∧ W.heap[b]? = some (.cells c ty fr) ∧ rowsAt c o kPiece rows
set_option maxRecDepth 100000 in
theorem rows_pieces {fuel : Nat} {v : Value} {x : DataW H × List MemPlace} (hsp : ∀ b, sp b = true) (hf : DataW.trod enc Try.prog W base sp true fuel 28 [v] = some x) (hsz : ∀ n ∈ x.1.weights Try.prog 28, n ≤ reachBytes) :
    ∃ (r : Option Addr) (rows : List (List Value)) (cap : Nat), v = .slice (addrOf r 0) rows.length cap ∧ rows.length ≤ cap ∧ (rows.length : Int) ≤ 17592186043904 ∧ piecesAt W r rows ∧ pcOk (fun b => W.heap[b]?) rows rows.length := by
  obtain ⟨rows, hr, ht, hd⟩ := open_rows (ps := x.2) (d := x.1) Try.underlying28 pat36 cells36 (by decide) hsp hf
  have hbound : (rows.length : Int) ≤ 17592186043904 := by
    rcases hd with ⟨_, h0⟩ | ⟨elems, spare, h3, h4, _⟩
    · rw [h0]; decide
    · have := hsz ((elems.length + spare.length) * Try.prog.bytesOf 36) (by rw [h3]; simp only [DataW.weights, Try.underlying28]; exact List.mem_cons_self ..)
      rw [bytes36] at this
      have hrb : reachBytes = 140737488351232 := by decide
      rw [hrb] at this
      omega
  have hpc : ∀ (c : Array Value) (o : Nat), rowsAt c o kPiece rows → pcOk (fun b => W.heap[b]?) rows rows.length := fun c o hra j hj => by
    have hrow := List.getElem?_eq_getElem hj
    obtain ⟨⟨hl, hfit⟩, _⟩ := hra j _ hrow
    obtain ⟨fuel', x', h⟩ := ht _ (List.getElem_mem hj)
    match hm : rows[j], hl with
    | [a, v], _ =>
      rw [hm] at hfit h hrow
      obtain ⟨z, rfl⟩ := fits_int (hfit 0 (.int .i64) a rfl rfl)
      obtain ⟨m, y, hy, _⟩ := open_field under36 h fs36_1
      rw [cells27] at hy
      obtain ⟨d, h1, h2⟩ := cell_bytes hsp hy
      exact ⟨z, v, d, hrow, h1, h2⟩
  rcases hr with ⟨r, e1, e2⟩ | ⟨b, o, cap, c, ty, fr, e1, hle, e3, e4⟩
  · exact ⟨r, rows, 0, by rw [e1, e2, addrOf_zero]; rfl, by rw [e2]; exact Nat.le_refl _, hbound, .inl e2, fun j hj => by rw [e2] at hj; cases hj⟩
  · exact ⟨some ⟨b, o, none⟩, rows, cap, by rw [e1]; rfl, hle, hbound, .inr ⟨b, o, c, ty, fr, rfl, e3, e4⟩, hpc c o e4⟩
set_option maxRecDepth 100000 in
/-- Numbers that a cell tells of. -/
theorem rows_ints {fuel : Nat} {v : Value} {x : DataW H × List MemPlace} (hsp : ∀ b, sp b = true) (hf : DataW.trod enc Try.prog W base sp true fuel 37 [v] = some x) (hsz : ∀ n ∈ x.1.weights Try.prog 37, n ≤ reachBytes) :
    ∃ (r : Option Addr) (rows : List (List Value)) (cap : Nat), v = .slice (addrOf r 0) rows.length cap ∧ (rows.length : Int) ≤ 17592186043904 ∧ intsAt W r rows := by
  obtain ⟨rows, hr, ht, hd⟩ := open_rows (ps := x.2) (d := x.1) Try.underlying37 pat3 cells3 (by decide) hsp hf
  have hbound : (rows.length : Int) ≤ 17592186043904 := by
    rcases hd with ⟨_, h0⟩ | ⟨elems, spare, h3, h4, _⟩
    · rw [h0]; decide
    · have := hsz ((elems.length + spare.length) * Try.prog.bytesOf 3) (by rw [h3]; simp only [DataW.weights, Try.underlying37]; exact List.mem_cons_self ..)
      rw [bytes3] at this
      have hrb : reachBytes = 140737488351232 := by decide
      rw [hrb] at this
      omega
  rcases hr with ⟨r, e1, e2⟩ | ⟨b, o, cap, c, ty, fr, e1, hle, e3, e4⟩
  · exact ⟨r, rows, 0, by rw [e1, e2, addrOf_zero]; rfl, hbound, .inl e2⟩
  · exact ⟨some ⟨b, o, none⟩, rows, cap, by rw [e1]; rfl, hbound, .inr ⟨b, o, c, ty, fr, rfl, e3, e4⟩⟩
theorem pieces_good {r : Option Addr} {rows : List (List Value)} (h : piecesAt W r rows) : ({ d := rows } : U).good := by
  refine ⟨rfl, ?_⟩
  rcases h with h | ⟨_, _, _, _, _, _, _, h⟩
  · simp only; rw [h]; simp
  · exact rowsAt_good h
set_option maxRecDepth 100000 in
theorem open_case {v : Value} {d : DataW H} {p : List MemPlace} {ts : List TypeId} {ds : List (DataW H)} {j : Nat} (hsp : ∀ b, sp b = true)
    (hv : Value.okWide Try.prog W .any b 39 v) (h : DataW.Trod enc Try.prog W base sp true 39 v d p) (hsz : (DataW.weightsEach Try.prog ts ds).all (· ≤ reachBytes) = true) (hts : ts[j]? = some 39) (hds : ds[j]? = some d) :
    ∃ (k t s x w a m : Int) (r1 r2 r3 r4 : Option Addr) (d1 d2 d3 d4 : List (List Value)) (c1 c2 c3 c4 : Nat),
      v = .agg #[.int .i64 k, .int .i64 t, .int .i64 s, .int .i64 x, .slice (addrOf r1 0) d1.length c1, .slice (addrOf r2 0) d2.length c2, .slice (addrOf r3 0) d3.length c3, .int .i64 w, .int .i64 a, .int .u8 m, .slice (addrOf r4 0) d4.length c4] ∧
      bytesAt W r1 d1 ∧ bytesAt W r2 d2 ∧ intsAt W r3 d3 ∧ piecesAt W r4 d4 ∧
      caseP k t s x d1.length d2.length d3.length w a m d4.length d1 d2 d3 d4 (fun b => W.heap[b]?) ∧ (d4.length : Int) ≤ c4 := by
  simp only [Value.okWide, under39] at hv
  obtain ⟨cs, rfl, hsize, _⟩ := hv
  rw [cells39] at hsize
  obtain ⟨fuel, hf⟩ := h
  simp only [Value.cells] at hf
  have hw := sized_of hsz hts hds
  obtain ⟨c0, c1, c2, c3, c4, c5, c6, c7, c8, c9, c10, hcs⟩ : ∃ c0 c1 c2 c3 c4 c5 c6 c7 c8 c9 c10, cs = #[c0, c1, c2, c3, c4, c5, c6, c7, c8, c9, c10] := by
    have : cs.toList.length = 11 := by simpa using hsize
    match hl : cs.toList, this with
    | [c0, c1, c2, c3, c4, c5, c6, c7, c8, c9, c10], _ => exact ⟨c0, c1, c2, c3, c4, c5, c6, c7, c8, c9, c10, by rw [← Array.toArray_toList (xs := cs), hl]⟩
  subst hcs
  obtain ⟨m0, y0, h0, _⟩ := open_field under39 hf fs39_0
  obtain ⟨m1, y1, h1, _⟩ := open_field under39 hf fs39_1
  obtain ⟨m2, y2, h2, _⟩ := open_field under39 hf fs39_2
  obtain ⟨m3, y3, h3, _⟩ := open_field under39 hf fs39_3
  obtain ⟨m4, y4, h4, hw4⟩ := open_field under39 hf fs39_4
  obtain ⟨m5, y5, h5, hw5⟩ := open_field under39 hf fs39_5
  obtain ⟨m6, y6, h6, hw6⟩ := open_field under39 hf fs39_6
  obtain ⟨m7, y7, h7, _⟩ := open_field under39 hf fs39_7
  obtain ⟨m8, y8, h8, _⟩ := open_field under39 hf fs39_8
  obtain ⟨m9, y9, h9, _⟩ := open_field under39 hf fs39_9
  obtain ⟨m10, y10, h10, hw10⟩ := open_field under39 hf fs39_10
  rw [cells3] at h0 h1 h2 h3 h7 h8
  rw [cells27] at h4 h5
  rw [cells37] at h6
  rw [cells5'] at h9
  rw [cells28] at h10
  simp at h0 h1 h2 h3 h4 h5 h6 h7 h8 h9 h10
  obtain ⟨z0, e0, _, w0⟩ := DataW.trod_int Try.underlying3 h0
  obtain ⟨z1, e1, _, w1⟩ := DataW.trod_int Try.underlying3 h1
  obtain ⟨z2, e2, _, w2⟩ := DataW.trod_int Try.underlying3 h2
  obtain ⟨z3, e3, _, w3⟩ := DataW.trod_int Try.underlying3 h3
  obtain ⟨z7, e7, _, w7⟩ := DataW.trod_int Try.underlying3 h7
  obtain ⟨z8, e8, _, w8⟩ := DataW.trod_int Try.underlying3 h8
  obtain ⟨z9, e9, _, w9⟩ := DataW.trod_int Try.underlying5 h9
  simp only [List.cons.injEq, and_true] at e0 e1 e2 e3 e7 e8 e9
  obtain ⟨r1, d1, k1, e4, g1, g2, g3, g4⟩ := rows_bytes hsp h4 fun n hn => hw n (hw4 n hn)
  obtain ⟨r2, d2, k2, e5, i1, i2, i3, i4⟩ := rows_bytes hsp h5 fun n hn => hw n (hw5 n hn)
  obtain ⟨r3, d3, k3, e6, j1, j2⟩ := rows_ints hsp h6 fun n hn => hw n (hw6 n hn)
  obtain ⟨r4, d4, k4, e10, l0, l1, l2, l3⟩ := rows_pieces hsp h10 fun n hn => hw n (hw10 n hn)
  exact ⟨z0, z1, z2, z3, z7, z8, z9, r1, r2, r3, r4, d1, d2, d3, d4, k1, k2, k3, k4, by rw [e0, e1, e2, e3, e4, e5, e6, e7, e8, e9, e10], g4, i4, j2, l2,
    ⟨wf_i64 w0, wf_i64 w1, wf_i64 w2, wf_i64 w3, ⟨Int.natCast_nonneg _, g2, rfl, g3⟩, ⟨Int.natCast_nonneg _, i2, rfl, i3⟩, ⟨Int.natCast_nonneg _, j1, rfl⟩, wf_u8 w9, ⟨Int.natCast_nonneg _, l1, rfl⟩, l3⟩, Int.ofNat_le.2 l0⟩
end
end Go.Proofs.Ytkiheclcmgbmnaa

set_option linter.unusedSimpArgs false
set_option linter.unusedVariables false
namespace Go.Eng
open Go Go.Proofs
/-- Zeros with room for n bytes, as a slice that is still empty. -/
def grow98C : Ctr := { fn := 98, nv := 1, args := [.one .vnils, iv .i64 (.var 0)], heap := [], ro := [], pre := fun ρ => 0 ≤ (ρ 0).i ∧ (ρ 0).i ≤ 10000000, alts := [{ k := 3, ret := .one (.vslice 1 (.lit 0) (.lit 0) (.var 3) 1), heap := [bHp 1 2 3], post := fun _ => True }] }
def catN (f : Nat → List Int) : Nat → List Int
  | 0 => []
  | k + 1 => catN f k ++ f k
/-- The columns 0 .. 4, where their bytes lie 5. -/
def concat92C : Ctr := { fn := 92, nv := 6, ip := [(33, 1)], args := [.one (.vslice 0 (.lit 0) (.var 1) (.var 2) 1)], heap := [], ro := [.arr 0 27 [.any] (.var 3) (.var 4), .abs 5 2], pre := fun ρ => 0 ≤ (ρ 1).i ∧ (ρ 1).i ≤ 255 ∧ (ρ 1).i ≤ (ρ 3).d.length ∧ (∀ row ∈ (ρ 3).d, row.length = 1) ∧ ∀ j, j < (ρ 1).i.toNat → rdB (ρ 5).h (tvs (ρ 3).d j) ∧ (colF (ρ 5).h (ρ 3).d j).length ≤ 9000, alts := [
  { k := 4, ret := .one (.vslice 6 (.lit 0) (.var 7) (.var 8) 1), heap := [bHp 6 9 8], post := fun ρ => (ρ 7).i = ((catN (colF (ρ 5).h (ρ 3).d) (ρ 1).i.toNat).length : Int) ∧ (ρ 7).i ≤ (ρ 9).d.length ∧ allB ((ρ 9).d.take (ρ 7).i.toNat) ∧ bI ((ρ 9).d.take (ρ 7).i.toNat) = catN (colF (ρ 5).h (ρ 3).d) (ρ 1).i.toNat }] }
def concat92I : Inv := { key := 3, nv := 2, env := [(0, .one (.vslice 0 (.lit 0) (.var 1) (.var 2) 1)), (3, iv .i64 (.var 1001)), (9, .one (.vslice 0 (.lit 0) (.var 1) (.var 2) 1)), (10, iv .i64 (.var 1)), (11, iv .i64 (.var 1000))], heap := [], inv := (fun ρ => 0 ≤ (ρ 1000).i ∧ (ρ 1000).i ≤ (ρ 1).i ∧ (ρ 1001).i = ((catN (colF (ρ 5).h (ρ 3).d) (ρ 1000).i.toNat).length : Int)), mu := (fun ρ => ((ρ 1).i - (ρ 1000).i).toNat) }
/-- 1000 .. 1003 the sum, 1004 the round. -/
def concat92J : Inv := { key := 11, nv := 5, env := [(6, pSl' 1000 1001 1002), (25, .one (.vslice 0 (.lit 0) (.var 1) (.var 2) 1)), (26, iv .i64 (.var 1)), (27, iv .i64 (.var 1004))], heap := [bHp 1000 1003 1002], inv := (fun ρ => 0 ≤ (ρ 1004).i ∧ (ρ 1004).i ≤ (ρ 1).i ∧ (ρ 1001).i = ((catN (colF (ρ 5).h (ρ 3).d) (ρ 1004).i.toNat).length : Int) ∧ (ρ 1001).i ≤ (ρ 1003).d.length ∧ allB ((ρ 1003).d.take (ρ 1001).i.toNat) ∧ bI ((ρ 1003).d.take (ρ 1001).i.toNat) = catN (colF (ρ 5).h (ρ 3).d) (ρ 1004).i.toNat), mu := (fun ρ => ((ρ 1).i - (ρ 1004).i).toNat) }
noncomputable def plI (k size : Int) : Int := (pieceLen k.toNat size.toNat : Int)
def decE (h : Hp) (D : Rows') (k total size n e : Int) : Prop := ((sizesB k total = false ∨ size < 0 ∨ 8192 < size) ∧ e = 2) ∨ (sizesB k total = true ∧ 0 ≤ size ∧ size ≤ 8192 ∧ chkH h D k total (plI k size) n e ∧ e ≠ 0)
def decK (h : Hp) (D : Rows') (k total size n : Int) : Prop := sizesB k total = true ∧ 0 ≤ size ∧ size ≤ 8192 ∧ chkH h D k total (plI k size) n 0
noncomputable def decL (h : Hp) (D : Rows') (k : Nat) : List Int := catN (fun i => valL h D k (i : Int)) k
/-- k 2, total 3, size 4, the pieces 5 .. 7, their rows 8, 9, their bytes 10. -/
def decode69C : Ctr := { fn := 69, nv := 11, ip := [(1000, 9), (1001, 9)], args := [fArg, iv .i64 (.var 2), iv .i64 (.var 3), iv .i64 (.var 4), pcS 5 6 7], heap := [fHp 1], ro := [pcHp 5 8 9, .abs 10 4], pre := fun ρ => fieldD (ρ 1).d ∧ pcPre (ρ 10).h (ρ 8).d (ρ 6).i, alts := [
  { k := 2, ret := .tup [(false, [.vnils]), eRet (.var 11)], heap := [fHp 12], post := fun ρ => fieldD (ρ 12).d ∧ decE (ρ 10).h (ρ 8).d (ρ 2).i (ρ 3).i (ρ 4).i (ρ 6).i (ρ 11).i },
  { k := 4, ret := .tup [(false, [.vslice 11 (.lit 0) (.var 4) (.var 4) 1]), eRet (.lit 0)], heap := [fHp 12, bHp 11 13 14], post := fun ρ => fieldD (ρ 12).d ∧ decK (ρ 10).h (ρ 8).d (ρ 2).i (ρ 3).i (ρ 4).i (ρ 6).i ∧ (ρ 4).i ≤ (ρ 13).d.length ∧ allB ((ρ 13).d.take (ρ 4).i.toNat) ∧ bI ((ρ 13).d.take (ρ 4).i.toNat) = (decL (ρ 10).h (ρ 8).d (ρ 2).i.toNat).take (ρ 4).i.toNat }] }
def join70C : Ctr := { fn := 70, nv := 9, ip := [(1000, 9), (1001, 9)], args := [iv .i64 (.var 0), iv .i64 (.var 1), iv .i64 (.var 2), pcS 3 4 5], heap := [], ro := [pcHp 3 6 7, .abs 8 6], pre := fun ρ => pcPre (ρ 8).h (ρ 6).d (ρ 4).i ∧ (ρ 4).i ≤ (ρ 5).i, alts := [
  { k := 1, ret := .tup [(false, [.vnils]), eRet (.var 9)], heap := [], post := fun ρ => decE (ρ 8).h (ρ 6).d (ρ 0).i (ρ 1).i (ρ 2).i (ρ 4).i (ρ 9).i },
  { k := 3, ret := .tup [(false, [.vslice 9 (.lit 0) (.var 2) (.var 10) 1]), eRet (.lit 0)], heap := [bHp 9 11 10], post := fun ρ => decK (ρ 8).h (ρ 6).d (ρ 0).i (ρ 1).i (ρ 2).i (ρ 4).i ∧ (ρ 2).i ≤ (ρ 11).d.length ∧ allB ((ρ 11).d.take (ρ 2).i.toNat) ∧ bI ((ρ 11).d.take (ρ 2).i.toNat) = (decL (ρ 8).h (ρ 6).d (ρ 0).i.toNat).take (ρ 2).i.toNat }] }
/-- 1000 .. 1003 the object, 1004 the round. -/
def join70I : Inv := { key := 9, nv := 5, env := [(0, iv .i64 (.var 0)), (2, iv .i64 (.var 2)), (3, pcS 3 4 5), (13, pSl' 1000 1001 1002), (14, iv .i64 (.var 1004))], heap := [bHp 1000 1003 1002], inv := (fun ρ => decK (ρ 8).h (ρ 6).d (ρ 0).i (ρ 1).i (ρ 2).i (ρ 4).i ∧ 0 ≤ (ρ 1004).i ∧ (ρ 1004).i ≤ (ρ 0).i ∧ (ρ 1001).i = (ρ 1003).d.length ∧ allB (ρ 1003).d ∧ bI (ρ 1003).d = catN (fun i => valL (ρ 8).h (ρ 6).d (ρ 0).i.toNat (i : Int)) (ρ 1004).i.toNat), mu := (fun ρ => ((ρ 0).i - (ρ 1004).i).toNat) }
def lawDecodesC : Ctr := { lawIs 23 28 [caseArg] caseRo (fun ρ => caseIn ρ ∧ (ρ 17).i ≤ (ρ 18).i) with ip := [(1000, 9), (1001, 9)] }
end Go.Eng

set_option linter.unusedSimpArgs false
set_option linter.unusedVariables false
namespace Go.Eng
open Go Go.Proofs
/-- Of the pieces, those of these numbers. -/
def chosenIn (D D' : Rows') (rs : List Int) (n : Nat) : Prop := D'.length = n ∧ ∀ j, j < n → D'[j]? = D[(rs.getD j 0).toNat]?
end Go.Eng
namespace Go.Proofs
open Go Go.Eng
theorem mix_toF {f : Nat → List Int} {rs : List Int} {l k c : Nat} {x : Int} (hr : rs.length = k) (hf : ∀ j, j < k → (f j).length = l ∧ bytesL (f j)) (hc : c < l) :
    toF ((mixN f (wgtL rs x) l k).getD c 0) = fsum (fun j => fmul (lagF k (fun m => toF (rs.getD m 0)) (toF x) j) (toF ((f j).getD c 0))) k := by
  obtain ⟨_, _, h3⟩ := mixN_facts (w := wgtL rs x) wgt_byte k hf
  rw [h3 c hc]
  exact fsum_congr fun j hj => by rw [wgt_at (by omega), hr]
variable {k total : Nat} {data : List Int}
/-- A byte of a piece is a polynomial's value at the piece's number. -/
theorem enc_poly (h1 : 1 ≤ k) (hk : k ≤ total) (ht : total ≤ 255) (hb : bytesL data) {c : Nat} (hc : c < pieceLen k data.length) : ∃ y : Nat → F, ∀ r, r < total → toF ((encP k total data r).getD c 0) = pval k y (xsF r) := by
  obtain ⟨y, hy, hL⟩ := poly_thru (k := k) (xs := xsF) (v := fun j => toF ((encP k total data j).getD c 0)) h1 (xs_distinct (by omega))
  refine ⟨y, fun r hr => ?_⟩
  rw [hL, ← enc_mix h1 hk ht hb hr (f := encP k total data) (fun j _ => rfl), mix_toF first_len (fun j hj => ⟨(enc_facts h1 hk ht hb j).1, (enc_facts h1 hk ht hb j).2.1⟩) hc]
  exact fsum_congr fun j hj => by
    rw [lagF_congr (ys := xsF) hj fun m hm => by rw [first_get hm]; rfl]
    rfl
/-- Any chosen pieces give every piece. -/
theorem enc_val {rs : List Int} (hch : chooseOk k total rs) (h1 : 1 ≤ k) (hk : k ≤ total) (ht : total ≤ 255) (hb : bytesL data) {f : Nat → List Int} (hf : ∀ j, j < k → f j = encP k total data (rs.getD j 0).toNat) {x : Nat} (hx : x < total) :
    mixN f (wgtL rs (x : Int)) (pieceLen k data.length) k = encP k total data x := by
  have hfl : ∀ j, j < k → (f j).length = pieceLen k data.length ∧ bytesL (f j) := fun j hj => by
    rw [hf j hj]; exact ⟨(enc_facts h1 hk ht hb _).1, (enc_facts h1 hk ht hb _).2.1⟩
  obtain ⟨a1, a2, _⟩ := mixN_facts (w := wgtL rs (x : Int)) wgt_byte k hfl
  obtain ⟨b1, b2, _⟩ := enc_facts h1 hk ht hb x
  refine list_ext_getD (by omega) fun c hc => toF_inj (bytesL_get a2 c) (bytesL_get b2 c) ?_
  rw [a1] at hc
  obtain ⟨y, hy⟩ := enc_poly h1 hk ht hb hc
  rw [mix_toF hch.1 hfl hc, hy x hx, show xsF x = toF (x : Int) from rfl, lagrange (chosen_dist hch ht)]
  refine fsum_congr fun j hj => ?_
  have hlt : (rs.getD j 0).toNat < total := by
    have h2 := hch.1
    have h3 := hch.2.2 (rs.getD j 0) (getD_mem (by omega))
    omega
  rw [hf j hj, hy _ hlt, ← chosen_xs hch hj]
theorem choose_take {rs : List Int} {m : Nat} (h : chooseOk m total rs) (hk : k ≤ m) : chooseOk k total (rs.take k) ∧ ∀ j, j < k → (rs.take k).getD j 0 = rs.getD j 0 := by
  refine ⟨⟨by rw [List.length_take, h.1, Nat.min_eq_left hk], h.2.1.sublist (List.take_sublist _ _), fun x hx => h.2.2 x (List.mem_of_mem_take hx)⟩, fun j hj => ?_⟩
  simp [List.getD_eq_getElem?_getD, List.getElem?_take, hj]
/-- One of k + 1 pieces is another one: they do not agree. -/
theorem enc_detect {rs : List Int} (hch : chooseOk (k + 1) total rs) (h1 : 1 ≤ k) (hk : k + 1 ≤ total) (ht : total ≤ 255) (hb : bytesL data) {g : Nat → List Int} {w : Nat} (hw : w < k + 1) (hg : ∀ j, j < k + 1 → (g j).length = pieceLen k data.length ∧ bytesL (g j))
    (hgo : ∀ j, j < k + 1 → j ≠ w → g j = encP k total data (rs.getD j 0).toNat) (hne : g w ≠ encP k total data (rs.getD w 0).toNat) : ¬ ∀ j, j < k + 1 → mixN g (wgtL (rs.take k) (rs.getD j 0)) (pieceLen k data.length) k = g j := fun hall => by
  obtain ⟨ht1, ht2⟩ := choose_take (k := k) hch (by omega)
  have hlt : ∀ j, j < k + 1 → (rs.getD j 0).toNat < total ∧ toF (rs.getD j 0) = xsF (rs.getD j 0).toNat := fun j hj => by
    have h2 := hch.1
    have h3 := hch.2.2 (rs.getD j 0) (getD_mem (by omega))
    exact ⟨by omega, chosen_xs hch hj⟩
  refine hne (list_ext_getD (by rw [(hg w hw).1, (enc_facts h1 (by omega) ht hb _).1]) fun c hc => toF_inj (bytesL_get (hg w hw).2 c) (bytesL_get (enc_facts h1 (by omega) ht hb _).2.1 c) ?_)
  rw [(hg w hw).1] at hc
  obtain ⟨y, hy⟩ := enc_poly (total := total) h1 (by omega) ht hb hc
  obtain ⟨z, _, hz⟩ := poly_thru (k := k) (xs := fun m => toF ((rs.take k).getD m 0)) (v := fun j => toF ((g j).getD c 0)) h1 (chosen_dist ht1 ht)
  have hgz : ∀ j, j < k + 1 → toF ((g j).getD c 0) = pval k z (toF (rs.getD j 0)) := fun j hj => by
    rw [hz, ← mix_toF (f := g) ht1.1 (fun m hm => hg m (by omega)) hc, hall j hj]
  have hd := chosen_dist hch ht
  have hroots := pval_roots (n := k) (y := fun l => y l ^^^ z l) (xs := fun i => toF (rs.getD (if i < w then i else i + 1) 0)) (fun i j hi hj he => by
    have := hd (if i < w then i else i + 1) (if j < w then j else j + 1) (by split <;> omega) (by split <;> omega) he
    split at this <;> split at this <;> omega) (fun i hi => by
    have hi' : (if i < w then i else i + 1) < k + 1 := by split <;> omega
    have hiw : (if i < w then i else i + 1) ≠ w := by split <;> omega
    rw [pval_xor, ← hgz _ hi', hgo _ hi' hiw, hy _ (hlt _ hi').1, (hlt _ hi').2, xor_self'])
  rw [hgz w hw, hy _ (hlt w hw).1, (hlt w hw).2]
  have h0 : pval k (fun l => y l ^^^ z l) (xsF (rs.getD w 0).toNat) = 0 := by
    exact fsum_zero fun j hj => by
      show fmul (y j ^^^ z j) _ = 0
      rw [hroots j hj, zero_fmul]
  rw [pval_xor] at h0
  exact (xor_eq_zero.1 h0).symm
/-! ### In memory -/
theorem chosen_pc {h : Hp} {D D' : Rows'} {rs : List Int} {n t : Nat} {f : Nat → List Int} (he : encAt h D t f) (hc : chooseOk n t rs) (hd : chosenIn D D' rs n) : pcOk h D' n ∧ ∀ j, j < n → pcI D' j = rs.getD j 0 ∧ pcD h D' j = f (rs.getD j 0).toNat := by
  have hr : ∀ j, j < n → 0 ≤ rs.getD j 0 ∧ (rs.getD j 0).toNat < t := fun j hj => by
    have h2 := hc.1
    have h3 := hc.2.2 (rs.getD j 0) (getD_mem (by omega))
    omega
  refine ⟨fun j hj => ?_, fun j hj => ?_⟩
  · obtain ⟨v, d, e, r, _, b⟩ := he _ (hr j hj).2
    exact ⟨_, v, d, by rw [hd.2 j hj]; exact e, r, b⟩
  · obtain ⟨v, d, e, r, b, _⟩ := he _ (hr j hj).2
    have e' := hd.2 j hj
    rw [e] at e'
    refine ⟨?_, ?_⟩
    · simp only [pcI, cellI, cellV, Int.toNat_natCast, e', Option.getD_some, List.getElem?_cons_zero, vInt]
      exact Int.toNat_of_nonneg (hr j hj).1
    · rw [pcD, show cellV D' (j : Int) 1 = v by simp only [cellV, Int.toNat_natCast, e', Option.getD_some]; rfl, rdL_eq r, b]
theorem chosen_idx {D' : Rows'} {rs : List Int} {n m : Nat} (hl : n ≤ rs.length) (h : ∀ j, j < m → pcI D' j = rs.getD j 0) (hn : n ≤ m) : idxL D' n = rs.take n := by
  refine list_ext_getD (by rw [idx_len, List.length_take, Nat.min_eq_left hl]) fun j hj => ?_
  rw [idx_len] at hj
  rw [idx_get hj, h j (by omega)]
  simp [List.getD_eq_getElem?_getD, List.getElem?_take, hj]
/-- Their error is none. -/
theorem chosen_chk {h : Hp} {D' : Rows'} {rs : List Int} {n t l : Nat} {k len : Int} (hn : 1 ≤ n) (hc : chooseOk n t rs) (hI : ∀ j, j < n → pcI D' j = rs.getD j 0) (hL : ∀ j, j < n → pcN h D' j = l) (h8 : l ≤ 8192) (hl : len = -1 ∨ len = (l : Int)) (hk : k ≤ n) : chkH h D' k t len n 0 := by
  unfold chkH
  rw [Int.toNat_natCast]
  refine .inr ⟨fun j hj => ?_, .inr ⟨hk, rfl⟩⟩
  have hm := hc.2.2 (rs.getD j 0) (getD_mem (by have := hc.1; omega))
  refine ⟨by rw [hI j hj]; exact hm, fun i hi he => ?_, fun _ => by rw [hL j hj]; exact h8, ?_⟩
  · rw [hI j hj, hI i (by omega)] at he
    have h1 := hc.1
    rw [List.getD_eq_getElem?_getD, List.getD_eq_getElem?_getD, List.getElem?_eq_getElem (by omega), List.getElem?_eq_getElem (by omega)] at he
    have := (List.getElem_inj hc.2.1).1 (by simpa using he)
    omega
  · rw [hL j hj]
    rcases hl with rfl | rfl
    · rw [wantL, if_pos (by omega), hL 0 (by omega)]
    · rw [wantL, if_neg (by omega)]
end Go.Proofs

set_option linter.unusedSimpArgs false
set_option linter.unusedVariables false
namespace Go.Proofs
open Go Go.Eng
theorem catN_len {f : Nat → List Int} {l : Nat} : ∀ {n : Nat}, (∀ j, j < n → (f j).length = l) → (catN f n).length = n * l
  | 0, _ => by simp [catN]
  | n + 1, h => by
    rw [catN, List.length_append, catN_len fun j hj => h j (by omega), h n (by omega), Nat.add_mul, Nat.one_mul]
theorem catN_le {f : Nat → List Int} {l : Nat} : ∀ {n : Nat}, (∀ j, j < n → (f j).length ≤ l) → (catN f n).length ≤ n * l
  | 0, _ => by simp [catN]
  | n + 1, h => by
    have h1 := catN_le (n := n) fun j hj => h j (by omega)
    have h2 := h n (by omega)
    rw [catN, List.length_append, Nat.add_mul, Nat.one_mul]; omega
theorem catN_congr {f g : Nat → List Int} : ∀ {n : Nat}, (∀ j, j < n → f j = g j) → catN f n = catN g n
  | 0, _ => rfl
  | n + 1, h => by rw [catN, catN, catN_congr fun j hj => h j (by omega), h n (by omega)]
theorem catN_seg {L : List Int} {l : Nat} : ∀ {n : Nat}, n * l ≤ L.length → catN (fun i => seg L (i * l) l) n = L.take (n * l)
  | 0, _ => by simp [catN]
  | n + 1, h => by
    rw [Nat.add_mul, Nat.one_mul] at h
    rw [catN, catN_seg (by omega), Nat.add_mul, Nat.one_mul, List.take_add]
    rfl
theorem enc_cat {k total : Nat} {data : List Int} (h1 : 1 ≤ k) (hk : k ≤ total) (ht : total ≤ 255) (hb : bytesL data) : catN (encP k total data) k = fullL data (k * pieceLen k data.length) := by
  rw [catN_congr fun j hj => enc_seg h1 hk ht hb hj, catN_seg (by rw [(full_facts hb (pieceLen_ge' (by omega))).1]; exact Nat.le_refl _), List.take_of_length_le (by rw [(full_facts hb (pieceLen_ge' (by omega))).1]; exact Nat.le_refl _)]
theorem full_take {data : List Int} {n : Nat} : (fullL data n).take data.length = data := by
  simp [fullL]
theorem pcInD {h : Hp} {D : Rows'} {k total n size : Int} (hp : pcPre h D n) (hd : decK h D k total size n) : PcIn h D k total n ∧ pcN h D 0 = pieceLen k.toNat size.toNat := by
  obtain ⟨hs, s0, s1, hc⟩ := hd
  obtain ⟨k1, k2, k3⟩ := sizesB_iff.1 hs
  obtain ⟨n0, n1, hpc⟩ := hp
  obtain ⟨ho, hk⟩ := chk_ok hc
  have hw : wantL (plI k size) (pcN h D) = plI k size := if_neg (by unfold plI; omega)
  have hL : ∀ j, j < n.toNat → pcN h D j = pieceLen k.toNat size.toNat := fun j hj => by
    have := (ho j hj).2.2.2
    rw [hw] at this; unfold plI at this; omega
  have hpl := pieceLen_le (k := k.toNat) (n := size.toNat) (by omega)
  have h0 := hL 0 (by omega)
  refine ⟨⟨k1, k2, k3, by omega, ⟨hs, by omega, n1, hpc, choose_of_ok ho (by omega), by omega, fun j hj => by rw [hL j (by omega), h0]⟩, fun j hj => (ho j hj).1, fun j hj => by rw [hL j hj, h0], fun j hj => ?_⟩, h0⟩
  obtain ⟨v, d, _, _, _, hB, hd⟩ := pc_at hpc hj
  exact ⟨by rw [h0, ← hL j hj]; rfl, by rw [hd]; exact allB_list hB⟩
theorem val_len {h : Hp} {D : Rows'} {k : Nat} {x : Int} : (valL h D k x).length = pcN h D 0 := mixN_len _
/-- The solved columns are the values at 0, 1, .. -/
theorem PcIn.cat {h : Hp} {D : Rows'} {k total n : Int} (p : PcIn h D k total n) {hc : Hp} {C : Rows'} (ht : tabV hc (tvs C) k.toNat (solM h D total.toNat k.toNat)) :
    (∀ j, j < k.toNat → rdB hc (tvs C j) ∧ (colF hc C j).length = pcN h D 0) ∧ catN (colF hc C) k.toNat = decL h D k.toNat ∧ (decL h D k.toNat).length = k.toNat * pcN h D 0 := by
  have h1 := p.k1
  have h2 := p.k2
  have h3 := p.k3
  have hch := p.sol.2.2.2.2.1
  have hcol : ∀ j, j < k.toNat → rdB hc (tvs C j) ∧ colF hc C j = valL h D k.toNat (j : Int) := fun j hj => by
    obtain ⟨d, hr, hd, hB⟩ := tab_at ht hj
    refine ⟨⟨d, hr, hB⟩, ?_⟩
    rw [colF, rdL_eq hr, hd, solM, col_val hch (by omega) (by omega) (by omega) p.f hj]
    rfl
  refine ⟨fun j hj => ⟨(hcol j hj).1, by rw [(hcol j hj).2, val_len]⟩, catN_congr fun j hj => (hcol j hj).2, catN_len fun j hj => val_len⟩
end Go.Proofs
