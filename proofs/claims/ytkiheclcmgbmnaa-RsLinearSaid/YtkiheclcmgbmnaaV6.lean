/- Encodings of sums: proof. -/
import Derived.Test.YtkiheclcmgbmnaaV5
import Derived.Test.YtkiheclcmgbmnaaV2
set_option linter.unusedSimpArgs false
set_option linter.unusedVariables false
namespace Go.Proofs
open Go Go.Eng
set_option maxRecDepth 100000 in
set_option maxHeartbeats 4000000 in
theorem lawLinear_ok : lawLinearC.ok Try.prog := lawLinear_of (by simp [newField_ok, encG_ok, add34_ok, known_ok]) fun ρ hg hp => by
  obtain ⟨w0, w1, w2, w3, ⟨d0, d1, d2, d3⟩, ⟨o0, o1, o2, o3⟩, _, hm, _, _⟩ := hp
  simp (config := { maxSteps := 40000000 }) [o_lawLinear, lawLinearC, lawCase, lawIs, lawRet, linI, linJ, linK, newFieldC, encGC, encC, encode31C, add34C, knownC]
  intro u28 _ k1 hk ht
  have hte : (ρ 19).d.take (ρ 5).i.toNat = (ρ 19).d := List.take_of_length_le (by omega)
  have hto : (ρ 21).d.take (ρ 8).i.toNat = (ρ 21).d := List.take_of_length_le (by omega)
  have hbb : bytesL (bI (ρ 19).d) := allB_list d3
  have hbo : bytesL (bI (ρ 21).d) := allB_list o3
  have hsz : sizesB (ρ 0).i (ρ 1).i = true := sizesB_iff.2 ⟨k1, hk, by omega⟩
  rw [hte, hto]
  refine ⟨d0, fun h20 => ⟨o0, fun hmd u29 _ u30 _ hf0 u31 _ => ⟨by omega, by omega, fun u32 _ u33 _ => ⟨⟨.inl hf0, by omega, d3, d0, xorTo_zero.symm⟩, ?_⟩⟩⟩⟩
  intro u34 _ u35 _ u36 _ i _ f1 _ S _ hf1 hSl hSB i0 i1 hSe
  have hl12 : (bI (ρ 19).d).length = (bI (ρ 21).d).length := by rw [bI_len, bI_len]; omega
  refine ⟨fun hi => ?_, fun hi => ?_⟩
  · rw [add64 (by omega) (by omega)]
    refine ⟨i0, by omega, by omega, by omega, ⟨hf1, by rw [putD_len]; exact hSl, allB_put hSB xorB_range.1 xorB_range.2, by omega, by omega, ?_⟩, by omega⟩
    have hx : cellI S.d i.i 0 = (bI (ρ 19).d).getD i.i.toNat 0 := by
      have h1 := bI_get (d := S.d) (i := i.i) i0 (by omega)
      have h2 := xorTo_get (a := bI (ρ 19).d) (b := bI (ρ 21).d) (n := i.i.toNat) (i := i.i.toNat) (by rw [bI_len]; omega)
      rw [if_neg (by omega), ← hSe, List.getD_eq_getElem?_getD, h1] at h2
      exact h2
    have hy : cellI (ρ 21).d i.i 0 = (bI (ρ 21).d).getD i.i.toNat 0 := by
      rw [List.getD_eq_getElem?_getD, bI_get i0 (by omega)]; rfl
    rw [bI_put, hSe, show (i.i + 1).toNat = i.i.toNat + 1 by omega, xorTo_step (by rw [bI_len]; omega), hx, hy]
    rfl
  have hSf : bI S.d = xorTo (bI (ρ 19).d) (bI (ρ 21).d) (bI (ρ 19).d).length := by rw [hSe, bI_len]; congr 1; omega
  refine fun u40 _ u41 _ u42 _ => ⟨⟨⟨hf1, by omega, d3⟩, hsz, by omega⟩, fun u43 _ u44 _ f2 _ A _ h1 _ hf2 _ _ hA hEA u48 _ => ⟨by omega, by omega, fun u49 _ u50 _ => ⟨⟨⟨hf2, by omega, o3⟩, hsz, by omega⟩, fun u51 _ u52 _ f3 _ B _ h2 _ hf3 _ _ hB hEB => ⟨⟨⟨hf3, by omega, hSB⟩, hsz, by omega⟩, fun u56 _ u57 _ f4 _ C _ h3 _ hf4 _ _ hC hEC => ⟨by omega, fun H _ hst => ?_⟩⟩⟩⟩⟩
  obtain ⟨hb1, lb1, db1⟩ := star_mem_abs hst (n := 60) (t := 2) (by simp)
  obtain ⟨hb2, lb2, db2⟩ := star_mem_abs hst (n := 55) (t := 2) (by simp)
  obtain ⟨hb3, lb3, db3⟩ := star_mem_abs hst (n := 47) (t := 2) (by simp)
  have E3 := encAt_mono hEC (Hp.le_trans (by simpa using db1) lb1 : Hp.le h3.h H.h)
  have E2 := encAt_mono hEB (Hp.le_trans (by simpa using db2) lb2 : Hp.le h2.h H.h)
  have E1 := encAt_mono hEA (Hp.le_trans (by simpa using db3) lb3 : Hp.le h1.h H.h)
  rw [hSf] at E3
  clear hst hEA hEB hEC
  refine ⟨⟨by omega, by omega, hA, hB, hC, E1, E2, E3⟩, ?_⟩
  -- what three pieces of one number are
  have key : ∀ {A B C : Rows'} {h : Hp} {i : Int}, linP (ρ 0).i (ρ 1).i i (bI (ρ 19).d) (bI (ρ 21).d) A B C h → i < (ρ 1).i → i < (A.length : Int) ∧ i < (B.length : Int) ∧ i < (C.length : Int) ∧ ∃ a b c, Rd h kB (cellV A i 1) a ∧ Rd h kB (cellV B i 1) b ∧ Rd h kB (cellV C i 1) c ∧
      a.length = pieceLen (ρ 0).i.toNat (ρ 19).d.length ∧ b.length = pieceLen (ρ 0).i.toNat (ρ 19).d.length ∧ c.length = pieceLen (ρ 0).i.toNat (ρ 19).d.length ∧
      ∀ j : Int, 0 ≤ j → j < (pieceLen (ρ 0).i.toNat (ρ 19).d.length : Nat) → arithOf .xor .u8 (cellI a j 0) (cellI b j 0) = cellI c j 0 := by
    intro A B C h i hP hi
    obtain ⟨p0, p1, p2, p3, p4, p5, p6, p7⟩ := hP
    obtain ⟨x1, y1⟩ := enc_pc p5
    obtain ⟨x2, y2⟩ := enc_pc p6
    obtain ⟨x3, y3⟩ := enc_pc p7
    obtain ⟨l1, _, a, r1, b1, e1⟩ := pc_atI x1 p0 hi
    obtain ⟨l2, _, b, r2, b2, e2⟩ := pc_atI x2 p0 hi
    obtain ⟨l3, _, c, r3, b3, e3⟩ := pc_atI x3 p0 hi
    rw [(y1 i.toNat (by omega)).2] at e1
    rw [(y2 i.toNat (by omega)).2] at e2
    rw [(y3 i.toNat (by omega)).2] at e3
    obtain ⟨g1, _, _⟩ := enc_facts (k := (ρ 0).i.toNat) (total := (ρ 1).i.toNat) (by omega) (by omega) (by omega) hbb i.toNat
    obtain ⟨g2, _, _⟩ := enc_facts (k := (ρ 0).i.toNat) (total := (ρ 1).i.toNat) (by omega) (by omega) (by omega) hbo i.toNat
    obtain ⟨g3, _, _⟩ := enc_facts (k := (ρ 0).i.toNat) (total := (ρ 1).i.toNat) (by omega) (by omega) (by omega) (xorTo_bytes (b := bI (ρ 21).d) (n := (bI (ρ 19).d).length) hbb) i.toNat
    rw [e1, bI_len, bI_len] at g1
    rw [e2, bI_len, ← hl12, bI_len] at g2
    rw [e3, bI_len, xorTo_len, bI_len] at g3
    refine ⟨l1, l2, l3, a, b, c, r1, r2, r3, g1, g2, g3, fun j j0 j1 => ?_⟩
    have hs := enc_sum (k := (ρ 0).i.toNat) (total := (ρ 1).i.toNat) (a := bI (ρ 19).d) (b := bI (ρ 21).d) (by omega) (by omega) (by omega) hbb hbo hl12 (i := i.toNat) (c := j.toNat) (by rw [bI_len]; omega)
    have hg : ∀ {d : Rows'}, d.length = pieceLen (ρ 0).i.toNat (ρ 19).d.length → (bI d).getD j.toNat 0 = cellI d j 0 := fun h => by
      rw [List.getD_eq_getElem?_getD, bI_get j0 (by omega)]; rfl
    rw [e1, e2, e3, hg g1, hg g2, hg g3] at hs
    exact hs.symm
  intro A _ B _ C _ i _ h _ hP
  have hP' := hP
  obtain ⟨p0, p1, _⟩ := hP'
  intro hi
  obtain ⟨l1, l2, l3, a, b, c, r1, r2, r3, g1, g2, g3, _⟩ := key hP hi
  refine ⟨p0, l1, l3, ?_⟩
  repeat' (first
    | refine ⟨a, .inl r1, ?_⟩
    | refine ⟨b, .inl r2, ?_⟩
    | refine ⟨c, .inl r3, ?_⟩
    | exact hP
    | assumption
    | refine ⟨?_, ?_⟩
    | refine fun (_ : ((_ : Nat) : Int) = ((_ : Nat) : Int)) => ?_
    | omega)
  all_goals
    intro A2 _ B2 _ C2 _ i2 _ h2 _ j _ hP2 hi2 hii j0 j1
    have hP3 := hP2
    obtain ⟨q0, q1, q2, q3, q4, q5, q6, q7⟩ := hP3
    obtain ⟨m1, m2, m3, a2, b2, c2, s1, s2, s3, t1, t2, t3, hx⟩ := key hP2 hi2
    have hpl : pieceLen (ρ 0).i.toNat (ρ 19).d.length ≤ 8192 + 255 := Nat.le_trans (pieceLen_le (k := (ρ 0).i.toNat) (n := (ρ 19).d.length) (by omega)) (by omega)
    rw [add64 (x := j.i) (by omega) (by omega), add64 (x := i2.i) (by omega) (by omega)]
    refine ⟨q0, hi2, m3, c2, .inl s3, fun hj => ?_, fun hj => ⟨⟨by omega, by omega, q2, q3, q4, q5, q6, q7⟩, by omega⟩⟩
    have hx2 := hx j.i j0 (by omega)
    repeat' (first
      | refine ⟨a2, .inl s1, ?_⟩
      | refine ⟨b2, .inl s2, ?_⟩
      | refine ⟨c2, .inl s3, ?_⟩
      | exact hx2
      | exact hP2
      | assumption
      | refine ⟨?_, ?_⟩
      | refine fun (_ : arithOf _ _ _ _ = _) => ?_
      | omega)
end Go.Proofs
