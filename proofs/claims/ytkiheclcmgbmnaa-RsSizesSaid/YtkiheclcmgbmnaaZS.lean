/- Inverses and generators: proofs. -/
import Derived.Test.YtkiheclcmgbmnaaZM
set_option linter.unusedSimpArgs false
set_option linter.unusedVariables false
namespace Go.Proofs
open Go Go.Eng
theorem identG_ok : identGC.ok Try.prog := Ctr.ok_less ident40_ok rfl rfl rfl rfl rfl (fun _ _ => trivial) fun ρ ρ' ai al hp hag hal hpost => by
  match ai, hal with
  | 0, hal =>
    exfalso
    obtain rfl := Option.some.inj hal
    have h2 : ((ρ'.upto 1) 0).i < 1 ∨ 255 < ((ρ'.upto 1) 0).i := hpost
    have e : (ρ'.upto 1) 0 = ρ 0 := by rw [Env.upto, if_pos (by omega)]; exact hag 0 (by decide)
    rw [e] at h2
    have h3 : 1 ≤ (ρ 0).i ∧ (ρ 0).i ≤ 255 := hp
    omega
  | 1, hal => exact ⟨0, hal⟩
  | n + 2, hal => cases hal
theorem vanderG_ok : vanderGC.ok Try.prog := Ctr.ok_less vander45_ok rfl rfl rfl rfl rfl (fun _ h => h.1) fun ρ ρ' ai al hp hag hal hpost => by
  match ai, hal with
  | 0, hal =>
    exfalso
    obtain rfl := Option.some.inj hal
    have h2 : vanderBad ((ρ'.upto 5) 2).i ((ρ'.upto 5) 3).i := hpost.2
    have e2 : (ρ'.upto 5) 2 = ρ 2 := by rw [Env.upto, if_pos (by omega)]; exact hag 2 (by decide)
    have e3 : (ρ'.upto 5) 3 = ρ 3 := by rw [Env.upto, if_pos (by omega)]; exact hag 3 (by decide)
    rw [e2, e3] at h2
    exact hp.2 h2
  | 1, hal => exact ⟨0, hal⟩
  | n + 2, hal => cases hal
theorem cloneK_ok : cloneKC.ok Try.prog := by
  refine ⟨clone84_ok.1, fun ρ w hF hO hg hd hsub hst hro hpre => (clone84_ok.2 ρ w hF hO hg hd hsub hst hro hpre).mono fun e w' hq => ?_⟩
  obtain ⟨ai, al, ρ', hal, hg', hag, he, hpost, hheap⟩ := hq
  match ai, hal with
  | 0, hal =>
    obtain rfl := Option.some.inj hal
    refine ⟨0, _, ρ', rfl, hg', hag, he, ⟨hpost, ?_⟩, hheap⟩
    obtain ⟨hO', hd', ⟨h1, h2, hdj, hu, hden, _⟩, hsub', hwi'⟩ := hheap
    show (((ρ'.upto 10) 9).d.length : Int) ≤ ((ρ'.upto 10) 8).i
    rw [show (ρ'.upto 10) 9 = ρ' 9 from rfl, show (ρ'.upto 10) 8 = ρ' 8 from rfl]
    rcases hden with ⟨_, hn, hc⟩ | ⟨b, c, g1, g2, g3, g4, g5⟩
    · have hn : (ρ' 9).d = [] := hn
      have hc : (ρ' 8).i = 0 := hc
      rw [hn, hc]; simp
    · exact g4
  | n + 1, hal => cases hal
theorem allB_take {d : Rows'} {n : Nat} (h : allB d) : allB (d.take n) := fun r hr => h r (List.mem_of_mem_take hr)
theorem bI_take {d : Rows'} {n : Nat} : bI (d.take n) = (bI d).take n := by simp [bI, List.map_take]
theorem inverse55_ok : inverse55C.ok Try.prog := inverse55_of (by simp [valid36_ok, identG_ok, cloneK_ok, elim83_ok]) fun ρ hg hp => by
  obtain ⟨hf, l0, l1, l2, hB⟩ := hp
  have hne := (fieldD_ne hf).1
  simp [o_inverse55, inverse55C, valid36C, identGC, ident40C, cloneKC, clone84C, elim83C]
  refine ⟨fun h => (hne h).elim, fun _ => ⟨l0, fun v _ hv => ⟨fun hb => ⟨hf, fun h => ?_⟩, fun hb => ⟨fun h => ⟨hf, hv.1 hb, h⟩, fun hrc => ?_⟩⟩⟩⟩
  · have := hv.2 h
    rw [hb] at this; cases this
  obtain ⟨r1, r2, c1, c2, hl⟩ := hv.1 hb
  have vA : validM (ρ 2).i (ρ 3).i (ρ 5).i := hv.1 hb
  have hbd := mul_bound (x := (ρ 2).i) (y := (ρ 3).i) (by omega) r2 (by omega) c2
  refine ⟨⟨r1, r2⟩, fun l _ cp _ d _ _ _ hM hL hI => ⟨⟨l0, l2, by unfold Go.Eng.big; omega⟩, fun cc _ dd _ hdd hcap => ?_⟩⟩
  have hlen : dd.d.length = (ρ 5).i.toNat := by rw [hdd, List.length_take]; omega
  refine ⟨⟨hf, ⟨⟨by omega, r2, by omega, c2, hl, by omega, by omega, by rw [hdd]; exact allB_take hB⟩, by omega⟩, hM, hL⟩, fun rk _ f2 _ d2 _ b2 _ hf2 hA2 hB2 k0 k1 he => ?_⟩
  have hE : elimN (ρ 2).i.toNat (ρ 3).i.toNat (ρ 2).i.toNat (bI dd.d) (bI d.d) (ρ 3).i.toNat = invE ((bI (ρ 7).d).take (ρ 5).i.toNat) (ρ 2).i.toNat := by
    rw [invE, hdd, bI_take, hI, hrc]
  rw [hE] at he
  rw [← he]
  exact ⟨fun h => ⟨hf2, vA, hrc, by simp only; omega⟩, fun h => ⟨hf2, vA, hrc, hB2, by simp only; omega, rfl⟩⟩
theorem sizesB_iff {k t : Int} : sizesB k t = true ↔ 1 ≤ k ∧ k ≤ t ∧ t ≤ 255 := by simp [sizesB, and_assoc]
theorem fillTo_full {f : Nat → Int} {n : Nat} : fillTo f n n = (List.range n).map f := by
  unfold fillTo
  refine List.map_congr_left fun i hi => ?_
  rw [if_pos (List.mem_range.1 hi)]
theorem gen35_ok : gen35C.ok Try.prog := gen35_of (by simp [sizes74_ok, vanderG_ok, inverse55_ok, prod49_ok]) fun ρ hg hp => by
  have hf : fieldD (ρ 1).d := hp
  have hne := (fieldD_ne hf).1
  simp [o_gen35, gen35C, sizes74C, vanderGC, vander45C, inverse55C, prod49C]
  intro u0 _
  refine ⟨fun h => (hne h).elim, fun _ u1 _ hs => ⟨fun hb => ⟨hf, fun h => ?_⟩, fun hb => ?_⟩⟩
  · rw [h] at hs; rw [hb] at hs; cases hs
  have hsz : sizesB (ρ 2).i (ρ 3).i = true := by rw [← hs]; exact hb
  obtain ⟨k1, k2, k3⟩ := sizesB_iff.1 hsz
  have hvb : ¬ vanderBad (ρ 3).i (ρ 2).i := by unfold vanderBad; omega
  have hkk := mul_bound (x := (ρ 2).i) (y := (ρ 2).i) (by omega) (show (ρ 2).i ≤ 255 by omega) (by omega) (show (ρ 2).i ≤ 255 by omega)
  have hlek : (ρ 2).i * (ρ 2).i ≤ (ρ 3).i * (ρ 2).i := Int.mul_le_mul_of_nonneg_right k2 (by omega)
  refine ⟨⟨hf, hvb⟩, fun u2 _ l _ cp _ f1 _ d _ hf1 _ hM hL hV u7 _ hcap => ?_⟩
  obtain ⟨a1, a2, a3, a4, a5, a6, a7, a8⟩ := hM
  have vV : validM (ρ 3).i (ρ 2).i l.i := ⟨by omega, by omega, by omega, by omega, a5⟩
  rw [mul64 (by omega) (by omega)]
  have hkn : ((ρ 2).i * (ρ 2).i).toNat = (ρ 2).i.toNat * (ρ 2).i.toNat := Int.toNat_mul (by omega) (by omega)
  have hTop : invE ((bI d.d).take ((ρ 2).i * (ρ 2).i).toNat) (ρ 2).i.toNat = topE (ρ 2).i.toNat (ρ 3).i.toNat := by rw [topE, hV, hkn]
  rw [hTop]
  have vT : validM (ρ 2).i (ρ 2).i ((ρ 2).i * (ρ 2).i) := ⟨by omega, by omega, by omega, by omega, rfl⟩
  have hno : ¬ validM 0 0 0 := by unfold validM; omega
  refine ⟨by omega, by omega, hkk.1, by omega, fun u8 _ => ⟨⟨hf1, hkk.1, by omega, by omega, a8⟩, fun e _ f2 _ hf2 hor u11 _ => ⟨⟨hf2, by omega, by omega, by omega, a8, fun r hr => by cases hr⟩, fun f3 _ hf3 _ => ⟨hf3, fun _ => ?_⟩, fun _ _ _ _ h => (hno h).elim, ?_⟩, ?_⟩⟩
  · rcases hor with ⟨h, _⟩ | ⟨_, h, _⟩
    · exact (h vT).elim
    · exact h
  · intro _ _ _ _ _ _ _ _ _ _ _ _ h
    exact (hno h).elim
  · intro u9 _ li _ ci _ f4 _ di _ hf4 _ hMi hrk hInv u14 _
    obtain ⟨⟨b1, b2, b3, b4, b5, b6, b7, b8⟩, b9⟩ := hMi
    have vI : validM (ρ 2).i (ρ 2).i li.i := ⟨by omega, by omega, by omega, by omega, b5⟩
    refine ⟨⟨hf4, by omega, by omega, by omega, a8, by omega, b6, by omega, b8⟩, fun f5 _ hf5 h => (h vV vI).elim, ?_⟩
    intro u15 _ lp _ cq _ f6 _ dp _ hf6 _ _ hMp hLp hP u20 _ _
    refine ⟨hf6, hsz, ⟨hMp, hLp⟩, hrk, ?_⟩
    rw [hP, hInv, genL, hV, List.take_of_length_le (by rw [vanderL, fillTo_len, a5, Int.toNat_mul (by omega) (by omega)]; exact Nat.le_refl _), List.take_of_length_le (by rw [← hInv, bI_len]; omega)]
end Go.Proofs
