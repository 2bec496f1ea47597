/- Results share no memory: proof. -/
import Derived.Test.YtkiheclcmgbmnaaVP
import Derived.Test.YtkiheclcmgbmnaaVQ
import Derived.Test.YtkiheclcmgbmnaaVR
set_option linter.unusedSimpArgs false
set_option linter.unusedVariables false
namespace Go.Proofs
open Go Go.Eng
set_option maxRecDepth 100000
set_option maxHeartbeats 4000000 in
theorem lawMemory_ok : lawMemoryC.ok Try.prog := lawMemory_of (by simp [newField_ok, encTG_ok, genK_ok, same33_ok, valid36_ok, known_ok]) fun ρ hg hp => by
  obtain ⟨a0, a1, a2, a3, a4⟩ := hp
  have hte : (ρ 5).d.take (ρ 3).i.toNat = (ρ 5).d := List.take_of_length_le (by omega)
  simp (config := { maxSteps := 40000000 }) [o_lawMemory, lawMemoryC, lawIs, lawRet, memI, memJ, memK, memL, memN, memW, memE, newFieldC, encTG, encC, encode31T, encode31C, genKC, gen35C, same33C, same33Of, valid36C, knownC, hte]
  intro k1 k2 k3
  have s1 : ∀ {x : Int}, -1 ≤ x → x ≤ 10000 → arithOf .add .i64 x 1 = x + 1 := fun h1 h2 => add64 (by omega) (by omega)
  refine ⟨a0, fun hle n7 _ f0 _ hf0 n9 _ => ⟨by omega, by omega, fun n10 _ n11 _ => ⟨⟨⟨.inl hf0, a2, a3⟩, sizesB_iff.2 ⟨k1, k2, by omega⟩, by omega⟩, fun p _ cp _ f1 _ P _ hP _ hf1 hsz _ lP eP => ⟨⟨hf1, hsz⟩, fun g _ lg _ cg _ f2 _ dg _ hg1 _ hf2 _ hMg _ hGg n23 _ n24 _ n25 _ n26 _ =>
    ⟨⟨⟨hf2, a2, a3⟩, hsz, by omega⟩, fun q _ cq _ f3 _ Q _ hQ _ hf3 _ _ lQ eQ => ⟨⟨hf3, hsz⟩, fun h _ lh _ ch _ f4 _ dh _ hh1 _ hf4 _ hMh _ hGh n38 _ H _ hst => ?_⟩⟩⟩⟩⟩⟩
  obtain ⟨hx, hy, hdis, lx, ly, dx, dy⟩ := star_two (l1 := [SH.abs 37 2]) hst (y := SH.abs 16 2) (by simp)
  have hx1 : Hp.le hQ.h hx ∧ Hp.free hQ.h := by simpa [SH.den] using dx
  have hy1 : Hp.le hP.h hy ∧ Hp.free hP.h := by simpa [SH.den] using dy
  have hdj : Hp.disj hP.h hQ.h := fun b => by
    rcases disj_le hdis hy1.1 b with h0 | h0
    · right
      cases hb : hQ.h b with
      | none => rfl
      | some v => rw [hx1.1 _ _ hb] at h0; cases h0
    · exact .inl h0
  have hbd := mul_bound (x := (ρ 1).i) (y := (ρ 0).i) (by omega) (show (ρ 1).i ≤ 255 by omega) (by omega) (show (ρ 0).i ≤ 255 by omega)
  have hlg : lg.i ≤ 900 := by
    have h1 : lg.i = (ρ 1).i * (ρ 0).i := hMg.1.2.2.2.2.1
    have h2 := Int.mul_le_mul k3 (show (ρ 0).i ≤ 30 by omega) (by omega) (by omega)
    omega
  have hEl : ∀ j, (encP (ρ 0).i.toNat (ρ 1).i.toNat (bI (ρ 5).d) j).length ≤ 2000 := fun j => by
    rw [(enc_facts (k := (ρ 0).i.toNat) (total := (ρ 1).i.toNat) (by omega) (by omega) (by omega) (allB_list a3) j).1]
    have := pieceLen_le (k := (ρ 0).i.toNat) (n := (bI (ρ 5).d).length) (by omega)
    rw [bI_len] at this ⊢
    omega
  refine ⟨⟨by omega, hf4, hsz, k3, hle, lP, enc_idx eQ.1, lQ, hMg.2, hlg, hMh, hGh, mem_init eP.2 eQ.2 hdj (Hp.le_trans hy1.1 ly) (Hp.le_trans hx1.1 lx)⟩, ?_⟩
  clear hst dx dy hx1 hy1 hdj hdis lx ly lP lQ eP eQ hMg hGg hMh hGh hf1 hf2 hf3 hf4 hlg
  intro _ _ f _ _ _ P _ _ _ _ _ Q _ _ _ _ _ _ _ lg _ _ _ dg _ _ _ _ _ lh _ ch _ dh _ H _ i _ i0 i1 hf _ _ _ lP xQ lQ lgd lg9 hMh hGh ht
  refine ⟨by omega, fun hi => ⟨⟨i0, hi, hf, hsz, k3, hle, lP, xQ, lQ, lgd, lg9, hMh, hGh, ht⟩, ?_⟩, fun hi => ⟨⟨by omega, hf, hsz, k3, hle, lP, xQ, lQ, lgd, lg9, hMh, hGh, by rw [show i.i.toNat = (ρ 1).i.toNat by omega] at ht; exact ht⟩, ?_⟩⟩
  · clear lP xQ lQ lgd lg9 hMh hGh ht hf
    intro _ _ f _ _ _ P _ _ _ _ _ Q _ _ _ _ _ _ _ lg _ _ _ dg _ _ _ _ _ lh _ ch _ dh _ H _ i' _ k _ i0' i1' hii k0 kl hf _ _ _ lP xQ lQ lgd lg9 hMh hGh ht
    obtain ⟨d, hrd, hd, hdB⟩ := mem_at ht i0' (by omega)
    have hdl : d.length = (encP (ρ 0).i.toNat (ρ 1).i.toNat (bI (ρ 5).d) i'.i.toNat).length := by rw [← bI_len, hd, mem_row (by omega), rowTo_len]
    have hE := hEl i'.i.toNat
    refine ⟨i0', i1', by omega, d, hrd, fun s _ c _ e1 _ => ⟨fun hk => ⟨d, hrd, fun s2 _ c2 _ e2 _ => ⟨k0, hk, fun H' _ hP => ⟨⟨i0', i1', hii, ?_⟩, ?_⟩⟩⟩, fun hk => ⟨?_, ?_⟩⟩⟩
    · have hP' : Put H.h H'.h s2.r kB d k.i.toNat [.int .u8 (IntKind.u8.wrap (arithOf .add .i64 i'.i 1))] := hP
      rw [s1 (by omega) (by omega), show IntKind.u8.wrap (i'.i + 1) = i'.i + 1 by simp [IntKind.wrap, IntKind.bits, IntKind.signed]; omega] at hP'
      rw [s1 (by omega) (by omega)]
      exact ⟨by omega, by omega, hf, hsz, k3, hle, lP, xQ, lQ, lgd, lg9, hMh, hGh, mem_write ht i0' (by omega) (by omega) k0 hP' e2 hrd hd hk⟩
    · rw [s1 (by omega) (by omega)]; omega
    · rw [s1 (by omega) (by omega)]
      exact ⟨by omega, by omega, hf, hsz, k3, hle, lP, xQ, lQ, lgd, lg9, hMh, hGh, mem_next ht i0' (by omega)⟩
    · rw [s1 (by omega) (by omega)]; omega
  · clear lP xQ lQ lgd lg9 hMh hGh ht hf hi i0 i1
    intro _ _ f _ _ _ P _ _ _ _ _ Q _ _ _ _ _ _ _ lg _ _ _ dg _ _ _ _ _ lh _ ch _ dh _ H _ i _ i0 i1 hf _ _ _ lP xQ lQ lgd lg9 hMh hGh ht
    refine ⟨fun hi => ⟨⟨i0, hi, hf, hsz, k3, hle, lP, xQ, lQ, lgd, lg9, hMh, hGh, ht⟩, ?_⟩, fun hi => ⟨⟨by omega, hf, hsz, k3, hle, lP, xQ, lQ, lgd, lg9, hMh, hGh, ht⟩, ?_⟩⟩
    · clear lP xQ lQ lgd lg9 hMh hGh ht hf
      intro f _ P _ Q _ lg _ dg _ lh _ ch _ dh _ H _ i' _ k _ i0' i1' hii k0 kl hf _ _ _ lP xQ lQ lgd lg9 hMh hGh ht
      obtain ⟨d, hrd, hd, hdB⟩ := mem_at (k := 0) ht i0' (by omega)
      have hd : bI d = rowTo (fun _ _ => (i'.i.toNat : Int) + 1) (encP (ρ 0).i.toNat (ρ 1).i.toNat (bI (ρ 5).d) i'.i.toNat) (encP (ρ 0).i.toNat (ρ 1).i.toNat (bI (ρ 5).d) i'.i.toNat).length := by
        rw [hd]; exact mem_done (by omega)
      have hdl : d.length = (encP (ρ 0).i.toNat (ρ 1).i.toNat (bI (ρ 5).d) i'.i.toNat).length := by rw [← bI_len, hd, rowTo_len]
      have hE := hEl i'.i.toNat
      refine ⟨i0', i1', by omega, d, hrd, fun s _ c _ e1 _ => ⟨fun hk => ⟨d, hrd, fun s2 _ c2 _ e2 _ => ⟨k0, hk, ?_, fun _ => ⟨⟨i0', i1', hii, ?_⟩, ?_⟩⟩⟩, fun hk => ⟨?_, ?_⟩⟩⟩
      · rw [s1 (by omega) (by omega), show IntKind.u8.wrap (i'.i + 1) = i'.i + 1 by simp [IntKind.wrap, IntKind.bits, IntKind.signed]; omega, ← cell_getD k0 hk, hd, rowTo_get (by omega), if_pos (by omega)]
        omega
      · rw [s1 (by omega) (by omega)]
        exact ⟨by omega, by omega, hf, hsz, k3, hle, lP, xQ, lQ, lgd, lg9, hMh, hGh, ht⟩
      · rw [s1 (by omega) (by omega)]; omega
      · rw [s1 (by omega) (by omega)]
        exact ⟨by omega, by omega, hf, hsz, k3, hle, lP, xQ, lQ, lgd, lg9, hMh, hGh, ht⟩
      · rw [s1 (by omega) (by omega)]; omega
    · clear lP xQ lQ lgd lg9 hMh hGh ht hf hi i0 i1
      intro _ _ f _ _ _ P _ _ _ _ _ Q _ _ _ _ _ _ _ lg _ _ _ dg _ _ _ _ _ lh _ ch _ dh _ H _ i _ i0 i1 hf _ _ _ lP xQ lQ lgd lg9 hMh hGh ht
      refine ⟨by omega, fun hi => ⟨i0, by omega, ?_, ?_⟩, fun hi n93 _ n94 _ n95 _ => ⟨⟨⟨hf, a2, a3⟩, hsz, by omega⟩, fun r _ cr _ f5 _ R _ hR _ hf5 _ _ lR eR H' _ hst => ?_⟩⟩
      · rw [s1 (by omega) (by omega)]
        exact ⟨by omega, by omega, hf, hsz, k3, hle, lP, xQ, lQ, by rw [putD_len]; exact lgd, lg9, hMh, hGh, ht⟩
      · rw [s1 (by omega) (by omega)]; omega
      · obtain ⟨hb1, lb1, db1⟩ := star_mem_abs hst (n := 107) (t := 2) (by simp)
        obtain ⟨hb2, lb2, db2⟩ := star_mem_abs hst (n := 98) (t := 2) (by simp)
        have E1 := encAt_mono eR.1 (Hp.le_trans (by simpa using db1) lb1 : Hp.le hR.h H'.h)
        have E2 := encAt_mono (mem_second ht xQ) (Hp.le_trans (by simpa using db2) lb2 : Hp.le H.h H'.h)
        obtain ⟨g1, g2, g3⟩ := gen_first hsz hMh hGh
        refine ⟨⟨by omega, by omega, by omega, (enc_pc E2).1, (enc_pc E1).1⟩, fun b _ hb => ⟨fun _ => ⟨by omega, fun b2 _ hb2 => ⟨fun _ => ⟨g1, g2, g3⟩, hb2.2 ⟨by omega, by omega, k1, by omega, hMh.1.2.2.2.2.1⟩⟩⟩, hb.2 (enc_samePc E2 E1)⟩⟩
end Go.Proofs
