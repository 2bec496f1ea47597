/- The law Helpers: it returns true. -/
import Derived.Test.YtlmkkphojjodhaaRT
import Derived.Test.YtlmkkphojjodhaaGF
import Derived.Test.YtlmkkphojjodhaaGC
set_option linter.unusedSimpArgs false
set_option linter.unusedVariables false
namespace Go.Proofs
open Go Go.Eng

set_option maxRecDepth 20000 in
set_option maxHeartbeats 4000000 in
theorem lawHelpers_ok : lawHelpersC.ok Try.prog := lawHelpers_of (by simp [known_ok, own21_ok, valid20_ok, new22_ok, recvA_ok, live30_ok, tick29_ok, probes31_ok]) fun ρ hg hp => by
  obtain ⟨h1, h2, hd1, hd2⟩ := hp
  simp (config := { maxSteps := 2000000 }) [o_lawHelpers, lawHelpersC, lawHelpersI, lawHelpersJ, lawHelpersK, lawHelpersL, knownC, own21C, valid20C, contains59C, index84C, new22C, receive23C, recv58C, tick29C, live30C, probes31C, lawWaitsC, arithOf, mPre, m0, msgV, lM, recvAC, hMsgs]
  refine ⟨by omega, fun n2 n16 => ⟨⟨h1, h2⟩, fun u _ hu => ⟨⟨by rw [hu]; exact h1, h2⟩, fun w _ hw1 hw2 f1 f2 => ?_⟩⟩⟩
  have hv : validT (tabOf (ρ 4).d) = true := by rw [← hu, ← hw1]; exact hw2
  have hwr : IntKind.i64.wrap ((ρ 0).i + 1) = (ρ 0).i + 1 := wrapAdd f1 (show (ρ 0).i < (ρ 2).i by omega) h2
  have ht : ((tabOf (ρ 4).d).length : Int) = (ρ 2).i := by rw [tab_len]; omega
  rw [hwr]
  refine ⟨by simp [newBad]; omega, fun uT _ uS _ uP _ uD _ _ e1 e2 e3 e4 => ?_⟩
  rw [e1, ← heardM]
  obtain ⟨hE, hH⟩ := heard_eq (inc := 1) n2 n16 f1 f2 hv ht
  obtain ⟨r0, f0, hown⟩ := heard_runs (inc := 1) n2 n16 f1 f2 hv ht
  obtain ⟨hp0, hs0⟩ := heard_since (inc := 1) n2 n16 f1 f2 hv ht
  have hcalm := fun k hk => calm_all (draw := (ρ 6).i) r0 hp0 hs0 k hk
  have hruns := fun k hk => (runs_all (draw := (ρ 6).i) r0 f0 n2 n16 f1 f2 k hk).1
  have hwf0 : machWf (newM (ρ 0).i (ρ 2).i 1) := by
    refine ⟨?_, ?_, ?_, f1, ?_, f1, ?_, fun p hp => by simp [newM] at hp⟩ <;> simp [newM] <;> omega
  have hA : recvAns (newM (ρ 0).i (ρ 2).i 1) ⟨2, Int.tmod ((ρ 0).i + 1) (ρ 2).i, (ρ 0).i, 0, (ρ 0).i, 0⟩ (tabOf (ρ 4).d) = [] := by
    rw [recvAns, if_neg]; intro h; rw [forMe_heard] at h; simp at h
  refine ⟨by omega, ⟨⟨⟨hwf0, by omega, by omega, by omega, by omega⟩, h1, h2⟩, hA⟩, ?_⟩
  intro v5 _ v6 _ v7 _ v8 _ v9 _ v10 _ g1 _ g3 g4 g5 g6
  have l8 : (v8.d.length : Int) = (ρ 2).i := by have := congrArg (fun m => m.tab.length) g3; have h' : (tabOf v8.d).length = (heardM (ρ 0).i (ρ 2).i 1 (tabOf (ρ 4).d)).tab.length := this; rw [tab_len] at h'; have := r0.tl; omega
  have l9 : (v9.d.length : Int) = (ρ 2).i := by have := congrArg (fun m => m.since.length) g3; have h' : (intsOf v9.d).length = (heardM (ρ 0).i (ρ 2).i 1 (tabOf (ρ 4).d)).since.length := this; rw [ints_len] at h'; have := r0.sl; omega
  refine ⟨⟨by omega, h2⟩, fun nl _ dL _ q1 q2 q3 => ⟨⟨by omega, by omega, ⟨l8, l9, g4, g5, by omega⟩, g3, by rw [q1, ← g3]; rfl, q2, q3⟩, ?_⟩⟩
  intro c1 _ c2 _ c3 _ c4 _ c5 _ c6 _ c7 _ c8 _ c9 _ c10 _ c11 _ hI
  obtain ⟨i0, i5, ⟨o1, o2, o3, o4, o5⟩, hm, hL1, hL2, hL3⟩ := hI
  have hwt : ∀ {x : Int}, 0 ≤ x → x ≤ 100 → IntKind.i64.wrap (x + 1) = x + 1 := fun h0 h1 => wrapi_id (by omega) (by omega)
  have hwm : ∀ {x : Int}, 1 ≤ x → x ≤ 100 → IntKind.i64.wrap (x - 1) = x - 1 := fun h0 h1 => wrapi_id (by omega) (by omega)
  intro hlt
  rw [hwt i0 (by omega)]
  refine ⟨⟨⟨by rw [hm]; exact (hruns c10.i.toNat (by omega)).wf n2 n16 f1 f2, by omega, o3, o4, by omega⟩, hd1, hd2⟩, ?_⟩
  intro k1 _ k2 _ k3 _ k4 _ k5 _ k6 _ k7 _ k8 _ k9 _ k10 _ t1 t2 t3 t4 t5 t6 t7
  rw [hm] at t1 t7
  have htk : tickM (tickN (ρ 6).i c10.i.toNat (heardM (ρ 0).i (ρ 2).i 1 (tabOf (ρ 4).d))) (ρ 6).i = tickN (ρ 6).i (c10.i + 1).toNat (heardM (ρ 0).i (ρ 2).i 1 (tabOf (ρ 4).d)) := by rw [toNat_succ i0]; rfl
  rw [htk] at t1 t7
  have r' := hruns (c10.i + 1).toNat (by omega)
  have l7 : (k7.d.length : Int) = (ρ 2).i := by have := congrArg (fun m => m.since.length) t1; have h' : (intsOf k7.d).length = (tickN (ρ 6).i (c10.i + 1).toNat (heardM (ρ 0).i (ρ 2).i 1 (tabOf (ρ 4).d))).since.length := this; rw [ints_len] at h'; have := r'.sl; omega
  have l6 : (k6.d.length : Int) = (ρ 2).i := by omega
  refine ⟨fun h4 => ?_, fun h4 => ?_⟩
  · have hq := ((hcalm c10.i.toNat (by omega)).step (ρ 6).i hs0 (by omega)).2
    rw [hq] at t7
    have hl := stamped_len t7
    have hk1 : k1.i = 1 := by rw [t2, hl]; rfl
    obtain ⟨v, hr, _⟩ := stamped_row t7 (i := 0) rfl
    have hc := (cell_msg (d := k9.d) (i := 0) hr).1
    rw [hwm (by omega) (by omega), hk1]
    exact ⟨by omega, rfl, fun _ => ⟨by omega, fun _ => ⟨by omega, fun _ => ⟨by omega, by omega, by omega, hc, fun _ => ⟨⟨by omega, by omega, ⟨l6, l7, t4, t5, by omega⟩, t1, hL1, hL2, hL3⟩, mx2 (by omega) rfl⟩⟩⟩⟩⟩
  · have h44 : c10.i = 4 := by omega
    have hn4 : c10.i.toNat = 4 := by omega
    have hn5 : (c10.i + 1).toNat = 5 := by omega
    rw [hn4, hn5] at t7
    rw [hn5] at t1
    have hHM : HM (ρ 0).i (ρ 2).i (ρ 6).i c10.i (tabOf (ρ 4).d) (machV (ρ 0).i k6.d k7.d k2.i k3.i k4.i k5.i k8.d c5.i false) k6.d k7.d k8.d k5.i c9.d c11.i k1.i k9.d k10.h k5.i (k8.d.take k5.i.toNat) :=
      ⟨h44, ⟨l6, l7, t4, t5, by omega⟩, t1, ⟨hL1, hL2, hL3⟩, t2, by rw [t1]; exact t7, prbs_take _ _, by rw [List.length_take]; omega⟩
    obtain ⟨a0, a1, a2, a3, a4, a5, a6, a7, a8, a9, a10, a11, a12, a13, a14⟩ := HM.facts hHM n2 n16 f1 f2 hv ht hd1
    rw [hwm a8 (by omega)]
    refine ⟨by omega, a9, fun _ => ⟨a8, fun _ => ⟨by omega, by omega, by omega, a10, fun _ => ⟨⟨t4, t5, by omega⟩, fun pn _ pd _ hpd hpn1 hpn2 => ?_⟩⟩⟩⟩
    rw [hpd, hpn1]
    refine ⟨by omega, by omega, fun _ => ⟨by omega, by omega, a5, fun _ => ⟨by omega, by omega, a6, fun _ => ⟨⟨hHM, by omega, cntL_zero.symm⟩, ?_⟩⟩⟩⟩
    intro d1 _ d2 _ d3 _ d4 _ d5 _ d6 _ d7 _ d8 _ d9 _ d10 _ d11 _ d12 _ d13 _ d14 _ d15 _ d16 _ d17 _ d18 _ x j0 j1 jc
    obtain ⟨b0, b1, b2, b3, b4, b5, b6, b7, b8, b9, b10, b11, b12, b13, b14⟩ := HM.facts x n2 n16 f1 f2 hv ht hd1
    have bL := x.2.2.2.1.2
    have bl := cntL_le (me := (ρ 0).i) (n := (ρ 2).i) (dL := d9.d) j0
    rw [hwt j0 (by omega), hwm b8 (by omega), hwt (x := d17.i) (by omega) (by omega), b4]
    refine ⟨by omega, fun hj => ?_, fun hj => ?_⟩
    · have hs := cntL_succ (me := (ρ 0).i) (n := (ρ 2).i) (dL := d9.d) j0 (by omega)
      refine ⟨j0, by omega, fun hne => ⟨by omega, by omega, fun hne2 => ⟨⟨x, by omega, by omega, ?_⟩, mx2 hj rfl⟩, fun he => ⟨⟨x, by omega, by omega, ?_⟩, mx2 hj rfl⟩⟩, fun he => ⟨⟨x, by omega, by omega, ?_⟩, mx2 hj rfl⟩⟩
      · rw [hs, if_pos ⟨hne, hne2⟩, jc]
      · rw [hs, if_neg (fun h => h.2 he), jc]; omega
      · rw [hs, if_neg (fun h => h.1 he), jc]; omega
    · have hje : d18.i = d11.i := by omega
      rw [hje] at jc
      rw [jc]
      refine ⟨by omega, b11, fun _ => ⟨fun h3 => ⟨by omega, by omega, by omega, by omega, b13 h3, fun _ => ⟨⟨x, b8⟩, ?_⟩⟩, fun h3 => ⟨⟨x, b8⟩, ?_⟩⟩⟩
      all_goals
        clear b0 b1 b2 b3 b4 b5 b6 b7 b8 b9 b10 b11 b12 b13 b14 bL bl j0 j1 jc hje hj x a0 a1 a2 a3 a4 a5 a6 a7 a8 a9 a10 a11 a12 a13 a14 hHM h3
        intro e1 _ e2 _ e3 _ e4 _ e5 _ e6 _ e7 _ e8 _ e9 _ e10 _ e11 _ e12 _ e13 _ e14 _ e15 _ e16 _ e17 _ x j0 j1
        obtain ⟨b0, b1, b2, b3, b4, b5, b6, b7, b8, b9, b10, b11, b12, b13, b14⟩ := HM.facts x n2 n16 f1 f2 hv ht hd1
        have bi := x.1
        have bL := x.2.2.2.1.2
        rw [hwm b8 (by omega), hwt (x := e10.i) (by omega) (by omega)]
        refine ⟨by omega, fun hj => ⟨⟨x, j0, by omega, by omega, anyL_zero⟩, ?_⟩, fun hj => ⟨HM.next x, mx2 (by omega) (by omega)⟩⟩
        intro g1 _ g2 _ g3 _ g4 _ g5 _ g6 _ g7 _ g8 _ g9 _ g10 _ g11 _ g12 _ g13 _ g14 _ g15 _ g16 _ g17 _ g18 _ g19 _ y s0 s1 s2 s3 s4 s5
        obtain ⟨w0, w1, w2, w3, w4, w5, w6, w7, w8, w9, w10, w11, w12, w13, w14⟩ := HM.facts y n2 n16 f1 f2 hv ht hd1
        have wL := y.2.2.2.1.2
        rw [hwt s2 (by omega), hwt s0 (by omega)]
        refine ⟨by omega, fun hk => ?_, fun hk => ?_⟩
        · have hs := anyL_succ (dL := g9.d) (dM := g13.d) (j := g17.i) s2 (by omega)
          refine ⟨fun hin => ⟨⟨y, s0, s1, by omega, by omega, ?_, s5⟩, mx2 hk rfl⟩, fun hin => ⟨s2, by omega, s0, by omega, by omega, ⟨y, s0, s1, by omega, by omega, ?_, s5⟩, mx2 hk rfl⟩⟩
          · rw [hs, ← s4, hin]; rfl
          · rw [hs, ← s4, hin, Bool.false_or]; simp only [cmpOf]
        · have hke : g19.i = g11.i := by omega
          obtain ⟨z0, z1, z2, z3, z4, z5⟩ := w14 g17.i s0 s1
          rw [hke, z5] at s4
          rw [w3, w4]
          exact ⟨s4, fun _ => ⟨s0, by omega, by omega, z0, fun _ => ⟨z1, fun _ => ⟨by omega, by omega, z2, fun _ => ⟨z3, fun _ => ⟨z4, fun _ => ⟨⟨y, by omega, by omega⟩, by rw [w0, ← b0, s5]; exact mx2 (by omega) rfl⟩⟩⟩⟩⟩⟩⟩
end Go.Proofs
