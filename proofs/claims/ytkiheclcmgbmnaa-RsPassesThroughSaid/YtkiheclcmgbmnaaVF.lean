/- The code's polynomial through points: proof. -/
import Derived.Test.YtkiheclcmgbmnaaVD
import Derived.Test.YtkiheclcmgbmnaaVE
set_option linter.unusedSimpArgs false
set_option linter.unusedVariables false
namespace Go.Proofs
open Go Go.Eng
set_option maxRecDepth 100000
set_option maxHeartbeats 4000000 in
theorem interp65_ok : interp65C.ok Try.prog := interp65_of (by simp [div52_ok, mul_ok]) fun ρ hg hp => by
  obtain ⟨hf, a0, a1, a2⟩ := hp
  simp (config := { maxSteps := 4000000 }) [o_interp65, interp65C, interp65A, interp65B, interp65C2, interp65D, interp65E, interp65F, ipn, ipDs, div52C, mulC]
  have hA : ∀ {i : Int}, 0 ≤ i → i < (ρ 3).i → byteP (cellI (ρ 5).d i 0) ∧ byteP (cellI (ρ 5).d i 1) := fun h0 h1 => a1 _ h0 (by omega)
  refine ⟨fun h => (field_ne hf h).elim, fun _ => ⟨by omega, fun h => ⟨hf, .inl ⟨.inl (by omega), rfl⟩⟩, fun hn0 => ⟨fun h => ⟨hf, .inl ⟨.inr (by omega), rfl⟩⟩, fun hn => ?_⟩⟩⟩
  have hn1 : 1 ≤ (ρ 3).i := by omega
  have s1 : ∀ {x : Int}, 0 ≤ x → x ≤ (ρ 3).i → arithOf .add .i64 x 1 = x + 1 := fun h1 h2 => add64 (by omega) (by omega)
  have s2 : ∀ {x : Int}, -1 ≤ x → x ≤ (ρ 3).i → arithOf .sub .i64 x 1 = x - 1 := fun h1 h2 => sub64 (by omega) (by omega)
  have e0 := s2 (x := (ρ 3).i) (by omega) (by omega)
  refine ⟨⟨hf, by omega, hn1, hn, seen_zero⟩, fun i _ s _ f _ f0 i0 i1 _ _ hs => ⟨fun hi => ⟨i0, by omega, (hA i0 hi).1.1, (hA i0 hi).1.2, ?_, fun hx => ⟨f0, .inr ⟨by omega, by omega, seen_twice hs i0 (by omega) a1 hx, rfl⟩⟩, fun hx => ⟨⟨f0, ?_⟩, ?_⟩⟩, fun hi => ⟨by omega, ?_⟩⟩⟩
  · obtain ⟨_, ⟨row, hr, _⟩, _⟩ := hs
    rw [hr]; exact Nat.one_pos
  · rw [s1 i0 i1, show (i.i + 1).toNat = i.i.toNat + 1 by omega]
    exact ⟨by omega, by omega, hn1, hn, seen_step hs i0 (by omega) a1 hx⟩
  · rw [s1 i0 i1]; omega
  have hdd : distinct (ρ 5).d.length (ptX (ρ 5).d) := by have := hs.1; rwa [show i.i.toNat = (ρ 5).d.length by omega] at this
  have hI : 1 ≤ (ρ 3).i ∧ (ρ 3).i ≤ 256 ∧ distinct (ρ 5).d.length (ptX (ρ 5).d) := ⟨hn1, hn, hdd⟩
  refine ⟨⟨f0, hI, by omega, by omega, allB_rep, fun j h1 h2 => by omega⟩, fun d _ k _ f1 _ hf1 _ _ _ k0 k1 d0 d1 hd => ⟨fun hk => ⟨k0, by omega, by omega, ⟨hf1, hI, ?_⟩, ?_⟩, fun hk => ⟨⟨hf1, hI, hn1, d0, d1, fun l hl => ?_⟩, fun d' _ j _ f2 _ hf2 _ _ _ j0 j1 d0' d1' hd' => ⟨fun hj => ⟨⟨hf2, hI, j0, hj, ?_⟩, ?_⟩, fun hj => ⟨⟨hf2, ⟨hI, d0', d1', fun l hl => ?_⟩, ?_⟩, ?_⟩⟩⟩⟩⟩
  · rw [s1 k0 k1]
    refine ⟨by omega, by omega, by rw [putD_len]; exact d0, allB_put d1 (hA k0 hk).2.1 (hA k0 hk).2.2, fun j h1 h2 => ?_⟩
    have hb := allB_get (allB_put (e := k.i) (k := .u8) d1 (hA k0 hk).2.1 (hA k0 hk).2.2) (i := j) h1 (by rw [putD_len]; omega)
    refine toF_inj hb (hA h1 (by omega)).2 ?_
    rw [← pol_cell h1 (by rw [putD_len]; omega), pol_put k0 (by omega)]
    by_cases hjk : j = k.i
    · rw [if_pos (by rw [hjk]), hjk]
    · rw [if_neg (by omega), pol_cell h1 (by omega), hd j h1 (by omega)]
  · rw [s1 k0 k1]; omega
  · rw [dd_zero]
    have h1 := pol_cell (d := d.d) (i := (l : Int)) (by omega) (by omega)
    rw [Int.toNat_natCast] at h1
    rw [h1, hd (l : Int) (by omega) (by omega)]; rfl
  · rw [e0]
    refine ⟨by omega, by omega, d0', d1', fun l hl => ?_⟩
    rw [if_pos (by omega)]; exact hd' l hl
  · intro d _ j' _ f3 _ i _ hf3 _ _ _ j0' j1' hjj i0 i1 d0 d1 hd
    have hcore : ∀ (hi : j'.i ≤ i.i) (v : U) (e : U) (f4 : U), fieldD f4.d → v.i = mulF (arithOf .xor .u8 (cellI d.d i.i 0) (cellI d.d (i.i - 1) 0)) (invF (arithOf .xor .u8 (cellI (ρ 5).d i.i 0) (cellI (ρ 5).d (i.i - j'.i) 0))) →
        (fieldD f4.d ∧ (1 ≤ (ρ 3).i ∧ (ρ 3).i ≤ 256 ∧ distinct (ρ 5).d.length (ptX (ρ 5).d)) ∧ 1 ≤ j'.i ∧ j'.i < (ρ 3).i ∧ j'.i = j.i ∧ j'.i - 1 ≤ i.i - 1 ∧ i.i - 1 < (ρ 3).i ∧ (ρ 3).i = ((putD d.d i.i 0 [.int .u8 v.i]).length : Int) ∧ allB (putD d.d i.i 0 [.int .u8 v.i]) ∧
          ∀ l, l < (ρ 5).d.length → polF (bI (putD d.d i.i 0 [.int .u8 v.i])) l = ddAt (ρ 5).d (if l ≤ (i.i - 1).toNat then j'.i.toNat - 1 else j'.i.toNat) l) ∧ max (i.i - 1 + 1) 0 < i.i + 1 := fun hi v e f4 hf4 hv => by
      have hvB : byteP v.i := by rw [hv]; exact mulF_isB xor_byte (invF_isB xor_byte)
      refine ⟨⟨hf4, hI, j0', j1', hjj, by omega, by omega, by rw [putD_len]; exact d0, allB_put d1 hvB.1 hvB.2, fun l hl => ?_⟩, by omega⟩
      rw [pol_put (by omega) (by omega)]
      by_cases hli : l = i.i.toNat
      · subst hli
        rw [if_pos rfl, if_neg (by omega), hv, toF_mulF xor_byte (invF_isB xor_byte), toF_invF xor_byte, toF_xor, toF_xor, ← pol_cell (by omega) (by omega), ← pol_cell (by omega) (by omega), hd _ (by omega), hd _ (by omega), if_pos (Nat.le_refl _), if_pos (by omega)]
        obtain ⟨m, hm⟩ : ∃ m, j'.i.toNat = m + 1 := ⟨j'.i.toNat - 1, by omega⟩
        rw [hm, dd_step (by omega), ← ptX_cell (by omega), ← ptX_cell (by omega), Nat.add_sub_cancel, show (i.i - 1).toNat = i.i.toNat - 1 by omega, show (i.i - j'.i).toNat = i.i.toNat - (m + 1) by omega]
      · rw [if_neg hli, hd l hl]
        by_cases h2 : l ≤ i.i.toNat
        · rw [if_pos h2, if_pos (by omega)]
        · rw [if_neg h2, if_neg (by omega)]
    refine ⟨fun hi => ?_, fun hi => ⟨⟨hf3, hI, ?_⟩, ?_⟩⟩
    · rw [s2 (x := i.i) (by omega) (by omega), sub64 (x := i.i) (y := j'.i) (by omega) (by omega)]
      refine ⟨by omega, by omega, by omega, by omega, by omega, by omega, by omega, by omega, by omega, ?_⟩
      exact ⟨⟨by omega, by omega, ⟨hf3, xor_byte.1, xor_byte.2, xor_byte.1, xor_byte.2⟩, fun v _ e _ f4 _ hf4 hv _ => hcore hi v e f4 hf4 hv⟩, by omega, by omega, ⟨hf3, xor_byte.1, xor_byte.2, xor_byte.1, xor_byte.2⟩, fun v _ e _ f4 _ hf4 hv _ => hcore hi v e f4 hf4 hv⟩
    · rw [s1 (by omega) (by omega), show (j'.i + 1).toNat - 1 = j'.i.toNat by omega]
      refine ⟨by omega, by omega, d0, d1, fun l hl => ?_⟩
      rw [hd l hl]
      by_cases h2 : l ≤ i.i.toNat
      · rw [if_pos h2, dd_low (by omega), dd_low (by omega)]
      · rw [if_neg h2]
    · rw [s1 (by omega) (by omega)]; omega
  · rw [hd' l hl, dd_low (by omega)]
  · rw [e0, show ((ρ 3).i - 1 - ((ρ 3).i - 1)).toNat = 0 by omega]
    exact ⟨by omega, by omega, by omega, allB_rep, hornP_zero (by omega)⟩
  · intro d _ f3 _ c _ i _ hf3 _ _ _ d0 d1 hd i0 i1 c0 c1 hc
    refine ⟨fun hi => ⟨⟨hf3, ⟨hI, d0, d1, hd⟩, hi, i1, ?_⟩, ?_⟩, fun hi => ⟨hf3, ⟨by omega, by omega, hdd⟩, c1, horn_end hdd (by omega) hc⟩⟩
    · rw [e0]
      exact ⟨by omega, by omega, c0, c1, _, hc, (byDown_top (by rw [bI_len]; omega)).symm⟩
    · intro d _ f4 _ c' _ i' _ m _ hf4 _ _ _ d0 d1 hd i0' i1' hii m0 m1 c0' c1' l hl hcl
      have hll : l.length = (ρ 5).d.length := hl.1
      have hlb : bytesL l := hl.2.1
      have hB := (hA i0' i1').1
      have hcore : ∀ (hm : 0 < m.i) (v : U) (f5 : U), fieldD f5.d → v.i = mulF (cellI c'.d m.i 0) (cellI (ρ 5).d i'.i 0) →
          (fieldD f5.d ∧ ((1 ≤ (ρ 3).i ∧ (ρ 3).i ≤ 256 ∧ distinct (ρ 5).d.length (ptX (ρ 5).d)) ∧ (ρ 3).i = (d.d.length : Int) ∧ allB d.d ∧ ∀ l, l < (ρ 5).d.length → polF (bI d.d) l = ddF (ptX (ρ 5).d) (ptY (ρ 5).d) 0 l) ∧ 0 ≤ i'.i ∧ i'.i < (ρ 3).i ∧ i'.i = i.i ∧ 0 ≤ m.i - 1 ∧ m.i - 1 < (ρ 3).i ∧
            (ρ 3).i = ((putD c'.d m.i 0 [.int .u8 (arithOf .xor .u8 (cellI c'.d (m.i - 1) 0) v.i)]).length : Int) ∧ allB (putD c'.d m.i 0 [.int .u8 (arithOf .xor .u8 (cellI c'.d (m.i - 1) 0) v.i)]) ∧
            ∃ l, hornP (ρ 5).d ((ρ 3).i - 1 - i'.i).toNat l ∧ bI (putD c'.d m.i 0 [.int .u8 (arithOf .xor .u8 (cellI c'.d (m.i - 1) 0) v.i)]) = byDown (cellI (ρ 5).d i'.i 0) l (m.i - 1).toNat) ∧ max (m.i - 1) 0 < m.i := fun hm v f5 hf5 hv => by
        refine ⟨⟨hf5, ⟨hI, d0, d1, hd⟩, i0', i1', hii, by omega, by omega, by rw [putD_len]; exact c0', allB_put c1' xor_byte.1 xor_byte.2, l, hl, ?_⟩, by omega⟩
        obtain ⟨q, hq⟩ : ∃ q, m.i.toNat = q + 1 := ⟨m.i.toNat - 1, by omega⟩
        rw [bI_put, ← cell_getD (by omega) (by omega), hv, ← cell_getD m0 (by omega), hcl, show (m.i - 1).toNat = q by omega, hq, byDown_get (by omega), byDown_get (by omega), if_neg (by omega), if_neg (by omega)]
        exact byDown_step (by omega)
      refine ⟨fun hm => ?_, fun hm => ⟨by omega, by omega, i0', i1', by omega, by omega, ⟨hf4, (allB_get c1' (i := 0) (by omega) (by omega)).1, (allB_get c1' (i := 0) (by omega) (by omega)).2, hB.1, hB.2⟩, fun v _ f5 _ hf5 hv => ⟨⟨hf5, ⟨hI, d0, d1, hd⟩, ?_⟩, ?_⟩⟩⟩
      · have hcm := allB_get c1' m0 (by omega)
        rw [s2 (x := m.i) (by omega) (by omega)]
        have hside : fieldD f4.d ∧ 0 ≤ cellI c'.d m.i 0 ∧ cellI c'.d m.i 0 < 256 ∧ 0 ≤ cellI (ρ 5).d i'.i 0 ∧ cellI (ρ 5).d i'.i 0 < 256 := ⟨hf4, hcm.1, hcm.2, hB.1, hB.2⟩
        refine ⟨by omega, by omega, by omega, m0, m1, i0', i1', by omega, ?_⟩
        exact ⟨⟨by omega, by omega, hside, fun v _ f5 _ hf5 hv => hcore hm v f5 hf5 hv⟩, by omega, ⟨by omega, hside, fun v _ f5 _ hf5 hv => hcore hm v f5 hf5 hv⟩, hside, fun v _ f5 _ hf5 hv => ⟨by omega, hcore hm v f5 hf5 hv⟩⟩
      · have hxb := xor_byte (x := v.i) (y := cellI d.d i'.i 0)
        rw [s2 (x := i'.i) (by omega) (by omega), show ((ρ 3).i - 1 - (i'.i - 1)).toNat = ((ρ 3).i - 1 - i'.i).toNat + 1 by omega]
        have hm0 : m.i.toNat = 0 := by omega
        refine ⟨by omega, by omega, by rw [putD_len]; exact c0', allB_put c1' hxb.1 hxb.2, horn_step (i := i'.i.toNat) hl (by omega) (by omega) (by rw [bI_len, putD_len]; omega) (allB_list (allB_put c1' hxb.1 hxb.2)) ?_ fun j h1 h2 => ?_⟩
        · rw [pol_put (by omega) (by omega), if_pos (show 0 = Int.toNat 0 from rfl), toF_xor, hv, toF_mulF (allB_get c1' (i := 0) (by omega) (by omega)) hB, ← pol_cell (d := d.d) i0' (by omega), hd _ (by omega), ptX_cell i0']
          congr 2
          have h3 := byDown_get (r := cellI (ρ 5).d i'.i 0) (l := l) (c := m.i.toNat) (i := 0) (by omega)
          rw [← hcl, if_neg (by omega)] at h3
          unfold polF
          rw [← h3, ← cell_getD (d := c'.d) (e := 0) (by omega) (by omega)]; rfl
        · rw [pol_put (by omega) (by omega), if_neg (by omega)]
          have h3 := byDown_get (r := cellI (ρ 5).d i'.i 0) (l := l) (c := m.i.toNat) (i := j) (by omega)
          rw [← hcl, if_pos (by omega)] at h3
          unfold polF
          rw [h3, toF_xorB, toF_mulF (bytesL_get hlb j) hB, ptX_cell i0']
      · rw [s2 (x := i'.i) (by omega) (by omega)]; omega
end Go.Proofs
