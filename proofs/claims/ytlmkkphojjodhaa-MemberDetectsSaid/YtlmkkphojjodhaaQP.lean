/- The law Detects: it returns true. -/
import Derived.Test.YtlmkkphojjodhaaQT
import Derived.Test.YtlmkkphojjodhaaRB
import Derived.Test.YtlmkkphojjodhaaBP
set_option linter.unusedSimpArgs false
set_option linter.unusedVariables false
namespace Go.Proofs
open Go Go.Eng

theorem forMe_heard {me n inc : Int} : forMe (newM me n inc).self ⟨2, Int.tmod (me + 1) n, me, 0, me, 0⟩ = true := by simp [forMe, newM]
theorem mx2 {L a c : Int} (h : a < L) (e : a = c) : max (L - (a + 1)) 0 < L - c := by subst e; omega
theorem wrapi_id {x : Int} (h1 : -1000000 ≤ x) (h2 : x ≤ 1000000) : IntKind.i64.wrap x = x := by simp [IntKind.wrap, IntKind.bits, IntKind.signed]; omega
set_option maxRecDepth 20000 in
set_option maxHeartbeats 4000000 in
theorem lawDetects_ok : lawDetectsC.ok Try.prog := lawDetects_of (by simp [known_ok, own21_ok, valid20_ok, new22_ok, receive23_ok, table28_ok, wait_ok, tick29_ok, live30_ok]) fun ρ hg hp => by
  obtain ⟨h1, h2, hd1, hd2⟩ := hp
  simp [o_lawDetects, lawDetectsC, lawDetectsI, lawDetectsJ, knownC, own21C, valid20C, contains59C, index84C, new22C, receive23C, recv58C, table28C, waitC, tick29C, live30C, lawWaitsC, arithOf, mPre, m0, msgV, lM, lOk]
  refine ⟨by omega, fun n2 n16 => ⟨⟨h1, h2⟩, fun u _ hu => ⟨⟨by rw [hu]; exact h1, h2⟩, fun w _ hw1 hw2 f1 f2 => ?_⟩⟩⟩
  have hv : validT (tabOf (ρ 4).d) = true := by rw [← hu, ← hw1]; exact hw2
  have hwr : IntKind.i64.wrap ((ρ 0).i + 1) = (ρ 0).i + 1 := wrapAdd f1 (show (ρ 0).i < (ρ 2).i by omega) h2
  have ht : ((tabOf (ρ 4).d).length : Int) = (ρ 2).i := by rw [tab_len]; omega
  rw [hwr]
  refine ⟨by simp [newBad]; omega, fun uT _ uS _ uP _ uD _ _ e1 e2 e3 e4 => ?_⟩
  rw [e1, ← heardM]
  obtain ⟨hE, hH⟩ := heard_eq (inc := 1) n2 n16 f1 f2 hv ht
  obtain ⟨r0, f0, hown⟩ := heard_runs (inc := 1) n2 n16 f1 f2 hv ht
  have hall := fun k hk => runs_all (draw := (ρ 6).i) r0 f0 n2 n16 f1 f2 k hk
  have hwf0 : machWf (newM (ρ 0).i (ρ 2).i 1) := by
    refine ⟨?_, ?_, ?_, f1, ?_, f1, ?_, fun p hp => by simp [newM] at hp⟩ <;> simp [newM] <;> omega
  have hA : ∀ {x : Msg}, recvAns (newM (ρ 0).i (ρ 2).i 1) ⟨2, Int.tmod ((ρ 0).i + 1) (ρ 2).i, (ρ 0).i, 0, (ρ 0).i, 0⟩ (tabOf (ρ 4).d) = [x] → False := fun {x} h => by
    rw [recvAns, forMe_heard] at h; simp at h
  refine ⟨by omega, ⟨⟨hwf0, by omega, by omega, by omega, by omega⟩, h1, h2⟩, ?_, ?_⟩
  · intro v5 _ v6 _ v7 _ v8 _ v9 _ v10 _ g1 _ g3 g4 g5 g6
    have hL := congrArg Mach.left g3
    have hL : v6.i = (heardM (ρ 0).i (ρ 2).i 1 (tabOf (ρ 4).d)).chal := congrArg Mach.chal g3
    have l8 : (v8.d.length : Int) = (ρ 2).i := by have := congrArg (fun m => m.tab.length) g3; have h' : (tabOf v8.d).length = (heardM (ρ 0).i (ρ 2).i 1 (tabOf (ρ 4).d)).tab.length := this; rw [tab_len] at h'; have := r0.tl; omega
    have l9 : (v9.d.length : Int) = (ρ 2).i := by have := congrArg (fun m => m.since.length) g3; have h' : (intsOf v9.d).length = (heardM (ρ 0).i (ρ 2).i 1 (tabOf (ρ 4).d)).since.length := this; rw [ints_len] at h'; have := r0.sl; omega
    have hw16 : waitOf (tabOf (ρ 4).d).length ≤ 58 := by unfold waitOf; omega
    refine ⟨⟨by omega, by omega, h2⟩, ?_⟩
    intro uB _ hB
    refine ⟨⟨by unfold waitOf; omega, ⟨l8, l9, g4, g5, by omega⟩, g3, by rw [hB, ← g3]; rfl⟩, ?_⟩
    intro c1 _ c2 _ c3 _ c4 _ c5 _ c6 _ c7 _ c8 _ c9 _ c10 _ k1 k2 k3 k4 k5 k6 k7 k8 k9 cw _ hcw
    have hwW : waitOf (tabOf (ρ 4).d).length = cw.i := by rw [hcw, waitOf, ht]
    have hlim : IntKind.i64.wrap (IntKind.i64.wrap (IntKind.i64.wrap ((ρ 2).i - 1) + 10) + cw.i) = (ρ 2).i - 1 + 10 + cw.i := by
      rw [wrapi_id (x := (ρ 2).i - 1) (by omega) (by omega), wrapi_id (x := (ρ 2).i - 1 + 10) (by omega) (by omega), wrapi_id (by omega) (by omega)]
    rw [hlim]
    have hc58 : cw.i ≤ 58 := by omega
    clear hcw hlim
    obtain ⟨r, f⟩ := hall c10.i.toNat (by omega)
    refine ⟨fun hlt => ⟨⟨⟨by rw [k8]; exact r.wf n2 n16 f1 f2, by omega, k5, k6, by omega⟩, hd1, hd2⟩, ?_⟩, fun hge => ⟨⟨by omega, h2⟩, fun uL _ uR _ q1 q2 q3 => ?_⟩⟩
    · intro m0 _ m1 _ m2 _ m3 _ m4 _ m5 _ m6 _ m7 _ m8 _ m9 _ t1 t2 t3 t4 t5 t6 t7
      have hS : tickN (ρ 6).i (c10.i.toNat + 1) (heardM (ρ 0).i (ρ 2).i 1 (tabOf (ρ 4).d)) = tickM (tickN (ρ 6).i c10.i.toNat (heardM (ρ 0).i (ρ 2).i 1 (tabOf (ρ 4).d))) (ρ 6).i := rfl
      rw [k8, ← hS] at t1
      obtain ⟨r', f'⟩ := hall (c10.i.toNat + 1) (by omega)
      have hT' : tabOf m5.d = (tickN (ρ 6).i (c10.i.toNat + 1) (heardM (ρ 0).i (ρ 2).i 1 (tabOf (ρ 4).d))).tab := by rw [← t1]; rfl
      have l6 : (m6.d.length : Int) = (ρ 2).i := by have := congrArg (fun m => m.since.length) t1; have h' : (intsOf m6.d).length = (tickN (ρ 6).i (c10.i.toNat + 1) (heardM (ρ 0).i (ρ 2).i 1 (tabOf (ρ 4).d))).since.length := this; rw [ints_len] at h'; have := r'.sl; omega
      refine ⟨⟨by omega, by omega, h2⟩, fun uN _ hN => ⟨⟨k1, by omega, ⟨by omega, l6, t4, t5, by omega⟩, t1, k9, by rw [hN, hT'], by omega⟩, ?_⟩⟩
      intro b0 _ b1 _ b2 _ b3 _ b4 _ b5 _ b6 _ b7 _ b8 _ b9 _ b10 _ b11 _ p1 p2 p3 p4 p5 p6 p7 p8 p9 p10 p11 p12 p13
      have hi1 : IntKind.i64.wrap (b9.i + 1) = b9.i + 1 := wrapi_id (by omega) (by omega)
      have hj1 : IntKind.i64.wrap (b11.i + 1) = b11.i + 1 := wrapi_id (by omega) (by omega)
      rw [hi1, hj1]
      have hnat : (b9.i + 1).toNat = b9.i.toNat + 1 := by omega
      rw [hnat]
      have hb8 : (b8.d.length : Int) = (ρ 2).i := by have := congrArg List.length p9; rw [tab_len] at this; have := r0.tl; omega
      obtain ⟨r'', f''⟩ := hall (b9.i.toNat + 1) (by omega)
      have hb10 : (b10.d.length : Int) = (ρ 2).i := by have := congrArg List.length p10; rw [tab_len] at this; have := r''.tl; omega
      have fin : (0 ≤ b9.i + 1 ∧ b9.i + 1 ≤ (ρ 2).i - 1 + 10 + waitOf (tabOf (ρ 4).d).length ∧ ((b5.d.length : Int) = (ρ 2).i ∧ (b6.d.length : Int) = (ρ 2).i ∧ 0 ≤ b3.i ∧ b3.i ≤ (b7.d.length : Int) ∧ b3.i ≤ b9.i + 1) ∧ machV (ρ 0).i b5.d b6.d b0.i b1.i b2.i b3.i b7.d b4.i false = tickN (ρ 6).i (b9.i.toNat + 1) (heardM (ρ 0).i (ρ 2).i 1 (tabOf (ρ 4).d)) ∧ tabOf b8.d = (heardM (ρ 0).i (ρ 2).i 1 (tabOf (ρ 4).d)).tab) ∧ max ((ρ 2).i - 1 + 10 + waitOf (tabOf (ρ 4).d).length - (b9.i + 1)) 0 < (ρ 2).i - 1 + 10 + waitOf (tabOf (ρ 4).d).length - c10.i :=
        ⟨⟨by omega, by omega, ⟨p3, p4, p5, p6, p7⟩, p8, p9⟩, mx2 p2 p13⟩
      refine ⟨fun hlj => ⟨fun hl10 => ⟨p11, by omega, fun hal => ?_, fun _ => ⟨⟨p1, p2, ⟨p3, p4, p5, p6, p7⟩, p8, p9, p10, by omega, by omega, p13⟩, mx2 hlj rfl⟩⟩, fun _ => fin⟩, fun _ => fin⟩
      have hx := cellI_tab (d := b8.d) (i := b11.i) p11 (by omega)
      rw [p9] at hx
      obtain ⟨y, hy, hy1⟩ := f''.early (by omega) b11.i.toNat _ hx hal
      have hz := cellI_tab (d := b10.d) (i := b11.i) p11 (by omega)
      rw [p10, hy] at hz
      have hz1 : cellI b10.d b11.i 1 = 1 := by have := Option.some.inj hz; rw [this] at hy1; exact hy1
      exact ⟨by omega, hz1, fun _ => ⟨⟨p1, p2, ⟨p3, p4, p5, p6, p7⟩, p8, p9, p10, by omega, by omega, p13⟩, mx2 hlj rfl⟩⟩
    · have hend := detect_end (draw := (ρ 6).i) n2 n16 f1 f2 hv ht (k := c10.i.toNat) (by rw [show (ρ 2).i.toNat = (tabOf (ρ 4).d).length by omega]; omega)
      have hT : tabOf c6.d = (tickN (ρ 6).i c10.i.toNat (heardM (ρ 0).i (ρ 2).i 1 (tabOf (ρ 4).d))).tab := by rw [← k8]; rfl
      rw [hT, hend] at q1
      have ql : (intsOf uR.d).length = 1 := by rw [q1]; rfl
      rw [ints_len] at ql
      have qc := cellI_ints (d := uR.d) (i := 0) (by omega) (by omega)
      rw [q1] at qc
      exact ⟨by omega, fun _ => ⟨by omega, by omega, (Option.some.inj qc).symm⟩, by omega⟩
  · intro v5 _ v6 _ v7 _ v8 _ v9 _ g1 g2
    exact (hA g2).elim
end Go.Proofs
