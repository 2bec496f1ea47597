/- Encodings of different objects: proof. -/
import Derived.Test.YtkiheclcmgbmnaaGH
set_option linter.unusedSimpArgs false
set_option linter.unusedVariables false
namespace Go.Proofs
open Go Go.Eng
theorem bI_other {d : Rows'} {a m : Int} (h0 : 0 ≤ a) (h1 : a < d.length) : bI (putD d a 0 [.int .u8 (arithOf .xor .u8 (cellI d a 0) m)]) = otherL (bI d) a m := by
  rw [bI_put, otherL, List.getD_eq_getElem?_getD, bI_get h0 h1]; rfl
set_option maxRecDepth 100000 in
theorem lawDistance_ok : lawDistanceC.ok Try.prog := lawDistance_of (by simp [newField_ok, encG_ok, known_ok]) fun ρ hg hp => by
  obtain ⟨w0, w1, w2, w3, ⟨d0, d1, d2, d3⟩, _, _, hm, _, _⟩ := hp
  simp (config := { maxSteps := 40000000 }) [o_lawDistance, lawDistanceC, lawCase, lawIs, lawRet, disI, newFieldC, encGC, encC, encode31C, knownC]
  intro u28 _ k1 hk ht
  refine ⟨d0, fun h20 at0 at1 hmz u29 _ u30 _ hf0 u31 _ => ⟨by omega, by omega, fun u32 _ u33 _ => ⟨at0, at1, by omega, fun u34 _ u35 _ u36 _ => ?_⟩⟩⟩
  have hte : (ρ 19).d.take (ρ 5).i.toNat = (ρ 19).d := List.take_of_length_le (by omega)
  have hbb : bytesL (bI (ρ 19).d) := allB_list d3
  have hsz : sizesB (ρ 0).i (ρ 1).i = true := sizesB_iff.2 ⟨k1, hk, by omega⟩
  rw [hte, bI_other at0 (by omega)]
  refine ⟨⟨⟨.inl hf0, by omega, d3⟩, hsz, by omega⟩, fun u37 _ u38 _ f1 _ D1 _ h1 _ hf1 _ _ hD1 hE1 => ⟨⟨⟨hf1, by rw [putD_len]; omega, allB_put d3 xorB_range.1 xorB_range.2⟩, hsz, by omega⟩, fun u42 _ u43 _ f2 _ D2 _ h2 _ hf2 _ _ hD2 hE2 => ⟨by omega, fun H _ hst => ?_⟩⟩⟩
  obtain ⟨hb1, lb1, db1⟩ := star_mem_abs hst (n := 46) (t := 2) (by simp)
  obtain ⟨hb2, lb2, db2⟩ := star_mem_abs hst (n := 41) (t := 2) (by simp)
  have E2 := encAt_mono hE2 (Hp.le_trans (by simpa using db1) lb1 : Hp.le h2.h H.h)
  have E1 := encAt_mono hE1 (Hp.le_trans (by simpa using db2) lb2 : Hp.le h1.h H.h)
  clear hst hE1 hE2
  refine ⟨⟨by omega, E1, E2, rfl⟩, fun A _ B _ n _ i _ h3 _ i0 i1 F1 F2 hn => ⟨fun hi => ?_, fun hi => ?_⟩⟩
  · obtain ⟨p1, q1⟩ := enc_pc F1
    obtain ⟨p2, q2⟩ := enc_pc F2
    obtain ⟨l1, c1, e1, r1, b1, x1⟩ := pc_atI p1 i0 hi
    obtain ⟨l2, c2, e2, r2, b2, x2⟩ := pc_atI p2 i0 hi
    have hstr : vStr (.string ⟨(bytesOf e1).toArray⟩) = vStr (.string ⟨(bytesOf e2).toArray⟩) ↔ encP (ρ 0).i.toNat (ρ 1).i.toNat (bI (ρ 19).d) i.i.toNat = encP (ρ 0).i.toNat (ρ 1).i.toNat (otherL (bI (ρ 19).d) (ρ 14).i (ρ 15).i) i.i.toNat := by
      rw [str_eq, str_eq, bytesOf_inj b1 b2, ← x1, ← x2, (q1 i.i.toNat (by omega)).2, (q2 i.i.toNat (by omega)).2]
    have hcle : cntD (encP (ρ 0).i.toNat (ρ 1).i.toNat (bI (ρ 19).d)) (encP (ρ 0).i.toNat (ρ 1).i.toNat (otherL (bI (ρ 19).d) (ρ 14).i (ρ 15).i)) i.i.toNat ≤ i.i.toNat := by
      unfold cntD
      exact Nat.le_trans (List.length_filter_le ..) (by rw [List.length_range]; exact Nat.le_refl _)
    rw [add64 (x := i.i) (by omega) (by omega), add64 (x := n.i) (by omega) (by omega), show (i.i + 1).toNat = i.i.toNat + 1 by omega, cntD_succ]
    have hno : ¬ vStr (.string ⟨(bytesOf e1).toArray⟩) = vStr (.string ⟨(bytesOf e2).toArray⟩) → (n.i + 1 = ((cntD (encP (ρ 0).i.toNat (ρ 1).i.toNat (bI (ρ 19).d)) (encP (ρ 0).i.toNat (ρ 1).i.toNat (otherL (bI (ρ 19).d) (ρ 14).i (ρ 15).i)) i.i.toNat + (if encP (ρ 0).i.toNat (ρ 1).i.toNat (bI (ρ 19).d) i.i.toNat = encP (ρ 0).i.toNat (ρ 1).i.toNat (otherL (bI (ρ 19).d) (ρ 14).i (ρ 15).i) i.i.toNat then 0 else 1) : Nat) : Int)) := fun h => by
      rw [if_neg (fun h' => h (hstr.2 h'))]; omega
    have hyes : vStr (.string ⟨(bytesOf e1).toArray⟩) = vStr (.string ⟨(bytesOf e2).toArray⟩) → (n.i = ((cntD (encP (ρ 0).i.toNat (ρ 1).i.toNat (bI (ρ 19).d)) (encP (ρ 0).i.toNat (ρ 1).i.toNat (otherL (bI (ρ 19).d) (ρ 14).i (ρ 15).i)) i.i.toNat + (if encP (ρ 0).i.toNat (ρ 1).i.toNat (bI (ρ 19).d) i.i.toNat = encP (ρ 0).i.toNat (ρ 1).i.toNat (otherL (bI (ρ 19).d) (ρ 14).i (ρ 15).i) i.i.toNat then 0 else 1) : Nat) : Int)) := fun h => by
      rw [if_pos (hstr.1 h)]; omega
    exact ⟨i0, l1, l2, ⟨e1, .inl r1, e2, .inl r2, fun h => ⟨⟨by omega, by omega, F1, F2, hno h⟩, by omega⟩, fun h => ⟨⟨by omega, by omega, F1, F2, hyes h⟩, by omega⟩⟩, ⟨e2, .inl r2, e1, .inl r1, fun h => ⟨⟨by omega, by omega, F1, F2, hno h⟩, by omega⟩, fun h => ⟨⟨by omega, by omega, F1, F2, hyes h⟩, by omega⟩⟩⟩
  · have hii : i.i = (ρ 1).i := by omega
    rw [sub64 (by omega) (by omega), add64 (by omega) (by omega)]
    have hfar := enc_far (k := (ρ 0).i.toNat) (total := (ρ 1).i.toNat) (a := bI (ρ 19).d) (b := otherL (bI (ρ 19).d) (ρ 14).i (ρ 15).i) (by omega) (by omega) (by omega) hbb (other_bytes hbb) (by simp [otherL]) (other_ne hbb at0 (by rw [bI_len]; omega) hm hmz)
    rw [hii] at hn
    omega
end Go.Proofs
