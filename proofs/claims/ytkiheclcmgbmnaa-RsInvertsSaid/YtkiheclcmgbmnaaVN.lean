/- Inverses and ranks are those of the document: proof. -/
import Derived.Test.YtkiheclcmgbmnaaV8
import Derived.Test.YtkiheclcmgbmnaaGG
set_option linter.unusedSimpArgs false
set_option linter.unusedVariables false
namespace Go.Proofs
open Go Go.Eng
set_option maxRecDepth 100000
theorem unitG_ok : unitGC.ok Try.prog := Ctr.ok_less unit41_ok rfl rfl rfl rfl rfl (fun _ _ => trivial) fun ρ ρ' ai al hp hag hal hpost => by
  match ai, hal with
  | 0, hal =>
    exfalso
    obtain rfl := Option.some.inj hal
    have h2 : ((ρ'.upto 1) 0).i < 1 ∨ 255 < ((ρ'.upto 1) 0).i := hpost
    have e : (ρ'.upto 1) 0 = ρ 0 := by rw [Env.upto, if_pos (by omega)]; exact hag 0 (by decide)
    rw [e] at h2
    have h3 : 1 ≤ (ρ 0).i ∧ (ρ 0).i ≤ 255 := hp
    omega
  | 1, hal => exact ⟨0, hal⟩
  | n + 2, hal => cases hal
theorem nilB : allB [] := fun row h => by cases h
theorem matIn_nat {r c l cap : Int} {d : Rows'} (h : matIn l cap d) (hv : validM r c l) : (bI d).length = r.toNat * c.toNat ∧ bytesL (bI d) := by
  obtain ⟨_, _, h3, h4, _⟩ := h
  obtain ⟨v1, v2, v3, v4, v5⟩ := hv
  exact ⟨by rw [bI_len, ← Int.toNat_mul (by omega) (by omega)]; omega, allB_list h4⟩
theorem invert56_ok : invert56C.ok Try.prog := invert56_of (by simp [good43_ok, unitG_ok, reduce85_ok]) fun ρ hg hp => by
  have hin : matIn (ρ 3).i (ρ 4).i (ρ 5).d := hp
  obtain ⟨a0, a1, a2, a3, a4⟩ := hp
  simp (config := { maxSteps := 4000000 }) [o_invert56, invert56C, good43C, valid36C, unitGC, unit41C, ident40C, reduce85C, redPre, redT0]
  refine ⟨a0, fun b _ hb => ⟨fun h hv => ?_, fun h => ?_⟩⟩
  · rw [hb.2 hv] at h; cases h
  · have hv : validM (ρ 0).i (ρ 1).i (ρ 3).i := hb.1 h
    refine ⟨fun hne => ⟨hv, hne⟩, fun hsq => ?_⟩
    obtain ⟨hl, hby⟩ := matIn_nat hin hv
    have hl' : (bI (ρ 5).d).length = (ρ 0).i.toNat * (ρ 0).i.toNat := by rw [hl, ← hsq]
    refine ⟨⟨hv.1, hv.2.1⟩, fun l _ cap _ d _ _ _ hM hL hI => ⟨⟨hv, by omega, hM.2.2.2.2.2.1, by omega, a3, by omega, by omega, hM.2.2.2.2.1, by omega, hM.2.2.2.2.2.2.2⟩, fun k _ n _ o _ k0 k1 hn hn2 hoB T hE hT => ?_⟩⟩
    rw [← hsq, hI] at hE
    obtain ⟨tw, hE2⟩ := inv_ech hl' hby
    have hk : k.i.toNat = (invE (bI (ρ 5).d) (ρ 0).i.toNat).2.2 := ech_rank hE hE2
    refine ⟨fun hlt => ⟨hv, hsq, by omega⟩, fun hge => ⟨hv, hsq, hn, by omega, ?_⟩⟩
    have hkn : k.i.toNat = (ρ 0).i.toNat := by omega
    rw [hkn] at hE
    rw [← hk, hkn] at hE2
    have hu := ech_unique hE hE2 (by omega)
    refine mat_ext (n := (ρ 0).i.toNat) (by rw [bI_len, ← Int.toNat_mul (by omega) (by omega)]; omega) tw.lb (allB_list hoB) tw.bb fun i j hi hj => ?_
    rw [hT i j (by omega) (by omega), ← hsq, hu i hi _ (by omega), aug_right]
theorem rank58_ok : rank58C.ok Try.prog := rank58_of (by simp [good43_ok, reduce85_ok]) fun ρ hg hp => by
  have hin : matIn (ρ 3).i (ρ 4).i (ρ 5).d := hp
  obtain ⟨a0, a1, a2, a3, a4⟩ := hp
  simp (config := { maxSteps := 4000000 }) [o_rank58, rank58C, good43C, valid36C, reduce85C, redPre, redT0]
  refine ⟨a0, fun b _ hb => ⟨fun h hv => ?_, fun h => ?_⟩⟩
  · rw [hb.2 hv] at h; cases h
  · have hv : validM (ρ 0).i (ρ 1).i (ρ 3).i := hb.1 h
    obtain ⟨hl, hby⟩ := matIn_nat hin hv
    refine ⟨⟨hv, by omega, by omega, a3, nilB⟩, fun k _ n _ o _ k0 k1 hn hn2 hoB T hE hT => ⟨hv, ?_⟩⟩
    have htwo : Two (ρ 0).i.toNat (ρ 1).i.toNat 0 (bI (ρ 5).d) [] := ⟨hl, rfl, hby, fun x hx => by cases hx⟩
    have hE2 := (elim_ech htwo (ρ 1).i.toNat (Nat.le_refl _)).2
    have hk := ech_rank hE hE2
    unfold rankE
    omega
/-- The errors of an inverse. -/
def invErr (r c l : Int) (m : List Int) (e : Int) : Prop := (¬ validM r c l ∧ e = 2) ∨ (validM r c l ∧ r ≠ c ∧ e = 10) ∨ (validM r c l ∧ r = c ∧ ((invE m r.toNat).2.2 : Int) < r ∧ e = 11)
theorem invErr_eq {r c l e e' : Int} {m : List Int} (h : invErr r c l m e) (h' : invErr r c l m e') : e = e' := by
  rcases h with ⟨a, b⟩ | ⟨a, b, c⟩ | ⟨a, b, c, d⟩ <;> rcases h' with ⟨a', b'⟩ | ⟨a', b', c'⟩ | ⟨a', b', c', d'⟩ <;> first | omega | exact (a a').elim | exact (a' a).elim
theorem invErr_not {r c l e : Int} {m : List Int} (h : invErr r c l m e) (hv : validM r c l) (hs : r = c) (hr : (invE m r.toNat).2.2 = r.toNat) : False := by
  rcases h with ⟨a, b⟩ | ⟨a, b, c⟩ | ⟨a, b, c, d⟩
  · exact a hv
  · exact b hs
  · have := hv.1; omega
set_option maxHeartbeats 4000000 in
theorem lawInverts_ok : lawInvertsC.ok Try.prog := lawInverts_of (by simp [large48_ok, newField_ok, own42_ok, inverse55_ok, invert56_ok, same44_ok, rank57_ok, rank58_ok, known_ok]) fun ρ hg hp => by
  have hin : matIn (ρ 3).i (ρ 4).i (ρ 5).d := hp
  obtain ⟨a0, a1, a2, a3, a4⟩ := hp
  simp (config := { maxSteps := 40000000 }) [o_lawInverts, lawInvertsC, lawIs, lawRet, large48C, own42C, cloneKC, clone84C, newFieldC, rank57C, inverse55C, same44C, rank58C, invert56C, knownC]
  refine ⟨a0, fun b _ hb hb0 f0 _ hf0 => ?_⟩
  have m1 : ¬ (60 < (ρ 0).i ∨ 60 < (ρ 1).i ∨ 3600 < (ρ 3).i) := fun h => by have := hb.2 h; rw [hb0] at this; cases this
  have hown : 0 ≤ (ρ 3).i ∧ (ρ 3).i ≤ ((ρ 5).d.length : Int) ∧ (ρ 3).i ≤ Go.Eng.big := ⟨a0, by omega, by unfold Go.Eng.big; omega⟩
  have hte : (ρ 5).d.take (ρ 3).i.toNat = (ρ 5).d := List.take_of_length_le (by omega)
  have hbe : (bI (ρ 5).d).take (ρ 3).i.toNat = bI (ρ 5).d := List.take_of_length_le (by rw [bI_len]; omega)
  have hvn : validM (ρ 0).i (ρ 1).i (ρ 3).i → (ρ 0).i = (ρ 1).i → (bI (ρ 5).d).length = (ρ 0).i.toNat * (ρ 0).i.toNat ∧ bytesL (bI (ρ 5).d) := fun h hs => by
    obtain ⟨h1, h2⟩ := matIn_nat hin h
    exact ⟨by rw [h1, ← hs], h2⟩
  rw [hte]
  refine ⟨hown, fun c1 _ d1 _ hd1 hc1 => ?_⟩
  rw [hd1] at hc1
  rw [hd1, hbe]
  refine ⟨⟨.inl hf0, a0, by omega, by omega, a3⟩, fun e _ f1 _ hf1 hE => ⟨hin, fun g _ hG => ⟨hown, fun c2 _ d2 _ hd2 hc2 => ?_⟩, fun l _ r _ hV hsq hrl hrn hri => (invErr_not hE hV hsq hrn).elim⟩, fun il _ cap _ f1 _ r _ hf1 hV hsq hfull hrn hri => ⟨hin, fun g _ hG => (invErr_not hG hV hsq hrn).elim, fun l _ r2 _ _ _ hrl hrn2 hri2 => ⟨hown, fun c2 _ d2 _ hd2 hc2 => ?_⟩⟩⟩
  · have heq : e.i = g.i := invErr_eq hE hG
    rw [hd2] at hc2
    rw [hd2, hbe]
    refine ⟨⟨hf1, a0, by omega, by omega, a3⟩, fun f2 _ hf2 hnV => ⟨hin, fun _ => ⟨fun _ => ⟨nilB, fun s _ hs => hs.2 ⟨rfl, rfl, rfl⟩⟩, heq⟩, fun rk _ hV _ => (hnV hV).elim⟩,
      fun rk _ f2 _ hf2 hV hrk => ⟨hin, fun hnV => (hnV hV).elim, fun rk2 _ _ hrk2 => ⟨fun _ => ⟨nilB, fun s _ hs => ⟨fun _ => by rw [hrk, hrk2], hs.2 ⟨rfl, rfl, rfl⟩⟩⟩, heq⟩⟩⟩
  · obtain ⟨hl, hby⟩ := hvn hV hsq
    obtain ⟨tw, _⟩ := inv_ech hl hby
    have hrB : allB r2.d := allB_of (by rw [hri2]; exact tw.bb)
    obtain ⟨⟨i1, i2, i3, i4, i5, i6, i7, i8⟩, hL⟩ := hfull
    rw [hd2] at hc2
    rw [hd2, hbe]
    refine ⟨⟨hf1, a0, by omega, by omega, a3⟩, fun f2 _ hf2 hnV => (hnV hV).elim,
      fun rk _ f2 _ hf2 _ hrk => ⟨hin, fun hnV => (hnV hV).elim, fun rk2 _ _ hrk2 => ⟨⟨by omega, i7, i8, by omega, by omega, hrB⟩, fun s _ hs => ⟨fun _ => by rw [hrk, hrk2], hs.2 ⟨rfl, rfl, ?_⟩⟩⟩⟩⟩
    rw [List.take_of_length_le (by rw [bI_len]; omega), List.take_of_length_le (by rw [bI_len]; omega), hri, hri2]
end Go.Proofs
