/- The law Leaves: it returns true. -/
import Derived.Test.YtlmkkphojjodhaaST
import Derived.Test.YtlmkkphojjodhaaSB
set_option linter.unusedSimpArgs false
set_option linter.unusedVariables false
namespace Go.Proofs
open Go Go.Eng

theorem fault64L_ok : fault64L.ok Try.prog := fault64L_of (by simp) fun ρ hg hp => by simp [o_fault64L, fault64L]
theorem tick29L_ok : tick29L.ok Try.prog := tick29L_of (by simp [fault64L_ok]) fun ρ hg hp => by simp [o_tick29L, tick29L, fault64L]
theorem recv58L_ok : recv58L.ok Try.prog := recv58L_of (by simp [fault64L_ok]) fun ρ hg hp => by simp [o_recv58L, recv58L, fault64L]
theorem leave44L_ok : leave44L.ok Try.prog := leave44L_of (by simp [fault64L_ok]) fun ρ hg hp => by simp [o_leave44L, leave44L, fault64L]
theorem reinc43L_ok : reinc43L.ok Try.prog := reinc43L_of (by simp [fault64L_ok]) fun ρ hg hp => by simp [o_reinc43L, reinc43L, fault64L]
theorem receive23L_ok : receive23L.ok Try.prog := receive23L_of (by simp [own21_ok, recv58L_ok]) fun ρ hg hp => by
  obtain ⟨h1, h2⟩ := hp
  simp [o_receive23L, receive23L, receive23K, recv58L, own21C]
  refine ⟨⟨h1, h2⟩, fun u _ hu => ⟨⟨by omega, by rw [hu]; omega⟩, fun a _ b _ a0 a1 hb => ⟨by omega, fun hlt => ?_⟩⟩⟩
  have hw : arithOf BinOp.add IntKind.i64 a.i 1 = a.i + 1 := wrapAdd a0 hlt h2
  rw [hw, putD_len]
  exact ⟨a0, by omega, ⟨by omega, by omega, hb⟩, by omega⟩
set_option maxRecDepth 20000 in
set_option maxHeartbeats 4000000 in
theorem lawLeaves_ok : lawLeavesC.ok Try.prog := lawLeaves_of (by simp [known_ok, newA_ok, tick29L_ok, tickA_ok, receive23L_ok, receive23_ok, leave44L_ok, leaveA_ok, live30_ok, table28_ok, reinc43L_ok, clock45_ok]) fun ρ hg hp => by
  obtain ⟨hd1, hd2⟩ := hp
  simp (config := { maxSteps := 2000000 }) [o_lawLeaves, lawLeavesC, lawLeavesI, knownC, newAC, new22C, tick29L, tickAC, tick29C, receive23L, receive23C, recv58C, leave44L, leaveAC, leave44C, live30C, table28C, reinc43L, clock45C, lawWaitsC, arithOf, mPre, m0, m1, mOk, msgV, lM]
  intro n2 n16 f1 f2
  have hbg : (ρ 1).i ≤ big := by have : (16 : Int) ≤ big := by decide
                                 omega
  have hwr : IntKind.i64.wrap ((ρ 0).i + 1) = (ρ 0).i + 1 := wrapAdd f1 f2 hbg
  rw [hwr, show Int.tmod ((ρ 0).i + 1) (ρ 1).i = otherP (ρ 0).i (ρ 1).i from rfl]
  obtain ⟨p0, p1, p2⟩ := otherP_ok n2 f1 f2
  refine ⟨by simp [newBad]; omega, fun a1 _ a2 _ a3 _ aT _ aS _ a6 _ aN _ a8 _ aP _ _ e1 e2 e3 e4 => ⟨by omega, by simp [newBad]; omega, fun b1 _ b2 _ b3 _ bT _ bS _ b6 _ bN _ b8 _ bP _ _ d1 d2 d3 d4 => ?_⟩⟩
  rw [d1]
  obtain ⟨hc1, hm1⟩ := first_tick (me := otherP (ρ 0).i (ρ 1).i) (inc := 4) (draw := (ρ 2).i) n2
  refine ⟨⟨⟨newM_wf n2 n16 p0 p1, by omega, by omega, by omega, by omega⟩, hd1, hd2⟩, ?_⟩
  intro c1 _ cN _ c3 _ cC _ cQ _ cG _ cP _ c8 _ c9 _ cT _ cS _ cD _ cM _ cH _ t1 t2 t3 t4 t5 t6 t7
  rw [hm1] at t7
  have hTT : (tickM (newM (otherP (ρ 0).i (ρ 1).i) (ρ 1).i 4) (ρ 2).i).tab = (newM (otherP (ρ 0).i (ρ 1).i) (ρ 1).i 4).tab := hc1.tab
  rw [hTT] at t7
  obtain ⟨xv, hrow, hrd⟩ := stamped_one t7
  have lS : (cS.d.length : Int) = (ρ 1).i := by have := congrArg (fun m => m.since.length) t1; have h' : (intsOf cS.d).length = (tickM (newM (otherP (ρ 0).i (ρ 1).i) (ρ 1).i 4) (ρ 2).i).since.length := this; rw [ints_len] at h'; have := hc1.runs.sl; omega
  refine ⟨⟨by omega, by omega, by rw [t2, hrow]; rfl, rfl, ⟨by omega, by omega, by omega, by omega, by omega⟩, by rw [e1]; rfl, ⟨by omega, lS, t4, t5, by omega⟩, t1, xv, hrow, hrd⟩, ?_⟩
  clear t1 t2 t3 t4 t5 t6 t7 hrow hrd xv e1 e2 e3 e4 d1 d2 d3 d4 lS
  intro g0 _ g1 _ g2 _ g3 _ g4 _ g5 _ g6 _ g7 _ g8 _ g9 _ g10 _ g11 _ g12 _ g13 _ g14 _ g15 _ g16 _ g17 _ g18 _ g19 _ g20 _ g21 _ g22 _ g23 _ g24 _ g25 _ g26 _ g27 _ g28 _ g29 _ g30 _ g31 _ g32 _ x
  obtain ⟨i0, i1, hnm, hot, ⟨o1, o2, o3, o4, o5⟩, hm, ⟨q1, q2, q3, q4, q5⟩, ho, xv, hrow, tR, hRd, hRt⟩ := x
  have hr1 := lvM_rest n2 n16 f1 f2
  have htR : (tR.length : Int) ≤ big := by have := congrArg List.length hRt; rw [tab_len, newM_len] at this; omega
  refine ⟨by omega, fun hlt => ?_, fun hge => ?_⟩
  · have hi : g32.i = 0 := by omega
    have hput : putD (putD g30.d g32.i 2 [.int .i64 (ρ 0).i]) g32.i 0 [.int .u8 1] = [msgRow (pingTo (otherP (ρ 0).i (ρ 1).i) (ρ 0).i) xv] := by rw [hrow, hi, lvPing, if_pos rfl]; rfl
    have hput1 : putD g30.d g32.i 2 [.int .i64 (ρ 0).i] = [msgRow (pingTo (otherP (ρ 0).i (ρ 1).i) (ρ 0).i) xv] := by rw [hrow, hi, lvPing, if_pos rfl]; rfl
    rw [hput]
    rw [hi] at hm ⊢
    have hm0 : lvM (ρ 0).i (ρ 1).i 0 = newM (ρ 0).i (ρ 1).i 2 := if_pos rfl
    rw [hm0] at hm
    rw [hm]
    have hl1 : lvM (ρ 0).i (ρ 1).i 1 = recvS (newM (ρ 0).i (ρ 1).i 2) (pingTo (otherP (ρ 0).i (ρ 1).i) (ρ 0).i) (tabOf tR) := by rw [hRt, lvM, if_neg (by omega)]
    have hwz : IntKind.i64.wrap (0 + 1) = 1 := rfl
    have hp1 : lvPing (ρ 0).i (ρ 1).i 1 = pingTo (otherP (ρ 0).i (ρ 1).i) (ρ 0).i := if_neg (by omega)
    rw [hwz]
    refine ⟨by omega, by rw [hrow]; simp, tR, hRd, fun _ _ _ _ => ⟨⟨⟨newM_wf n2 n16 f1 f2, by omega, o3, o4, by omega⟩, htR⟩, ?_, ?_⟩⟩
    · intro v1 _ v2 _ v3 _ v4 _ v5 _ v6 _ r1 r2 r3 r4 r5 r6
      have r3 : machV (ρ 0).i v4.d v5.d g4.i g5.i g6.i v3.i v6.d v2.i false = lvM (ρ 0).i (ρ 1).i 1 := by rw [hl1]; exact r3
      have lT : (v4.d.length : Int) = (ρ 1).i := by have := congrArg (fun m => m.tab.length) r3; have h' : (tabOf v4.d).length = (lvM (ρ 0).i (ρ 1).i 1).tab.length := this; rw [tab_len, lvM_len n2 n16 f1 f2] at h'; omega
      have lS : (v5.d.length : Int) = (ρ 1).i := by have := congrArg (fun m => m.since.length) r3; have h' : (intsOf v5.d).length = (lvM (ρ 0).i (ρ 1).i 1).since.length := this; rw [ints_len, hr1.1] at h'; omega
      exact ⟨⟨by omega, by omega, hnm, hot, ⟨lT, lS, r4, r5, by omega⟩, r3, ⟨q1, q2, q3, q4, q5⟩, ho, xv, by rw [hp1], tR, hRd, hRt⟩, by omega⟩
    · intro v1 _ v2 _ v3 _ v4 _ v5 _ v6 _ v7 _ r1 r2 r3 r4 v8 _ hst
      obtain ⟨hb, lb, db⟩ := star_mem_abs hst (n := 66) (t := 2) (by simp)
      have hle : Hp.le g31.h v8.h := fun y o hy => lb y o (db y o (by simpa using hy))
      have r3 : machV (ρ 0).i v5.d v6.d g4.i g5.i g6.i g7.i g12.d v7.i false = lvM (ρ 0).i (ρ 1).i 1 := by rw [hl1]; exact r3
      have lT : (v5.d.length : Int) = (ρ 1).i := by have := congrArg (fun m => m.tab.length) r3; have h' : (tabOf v5.d).length = (lvM (ρ 0).i (ρ 1).i 1).tab.length := this; rw [tab_len, lvM_len n2 n16 f1 f2] at h'; omega
      have lS : (v6.d.length : Int) = (ρ 1).i := by have := congrArg (fun m => m.since.length) r3; have h' : (intsOf v6.d).length = (lvM (ρ 0).i (ρ 1).i 1).since.length := this; rw [ints_len, hr1.1] at h'; omega
      exact ⟨⟨by omega, by omega, hnm, hot, ⟨lT, lS, o3, o4, o5⟩, r3, ⟨q1, q2, q3, q4, q5⟩, ho, xv, by rw [hp1], tR, Rd_mono hRd hle, hRt⟩, by omega⟩
  · have hi : g32.i = 1 := by omega
    rw [hi] at hm
    have hT : tabOf g10.d = (lvM (ρ 0).i (ρ 1).i 1).tab := by rw [← hm]; rfl
    have hG : g6.i = (ρ 0).i := by rw [← hr1.2.1, ← hm]; rfl
    have hC : g4.i = 0 := by rw [← hr1.2.2.1, ← hm]; rfl
    have hB : leaveTab (tabOf g10.d) (ρ 0).i = byeT (ρ 0).i (ρ 1).i := by rw [hT]; rfl
    have hst : (statAt (tabOf g10.d) (ρ 0).i).2 ≠ 0 := by
      rw [hT, statAt, List.getD_eq_getElem?_getD, lvM_get n2 n16 f1 f2 (by omega), if_pos (by omega)]; decide
    rw [hB, bye_msgs n2 n16 f1 f2]
    refine ⟨⟨⟨by omega, n2, n16, f1, f2, by omega, by omega⟩, hst⟩, ?_⟩
    intro y1 _ y2 _ y3 _ y4 _ s1 s2 s3 s4
    obtain ⟨yv, yrow, tB, hBd, hBt⟩ := stamped_one s4
    have yrow : y3.d = [msgRow (byeMsg (ρ 0).i (ρ 1).i) yv] := yrow
    rw [yrow] at s3
    have s3 : y1.i = 1 := s3
    rw [yrow, hot]
    refine ⟨by omega, s3, fun _ => ⟨by omega, by simp, rfl, fun _ => ⟨rfl, fun _ => ⟨rfl, fun _ => ⟨rfl, fun _ => ?_⟩⟩⟩⟩⟩
    rw [hot] at ho
    rw [ho]
    obtain ⟨k1, k2, k3, k4, k5⟩ := hears (v := (ρ 2).i) n2 n16 f1 f2
    have htB : (tB.length : Int) ≤ big := by have := congrArg List.length hBt; rw [tab_len, bye_len n2 n16 f1 f2] at this; omega
    have hmsg : (⟨cellI [msgRow (byeMsg (ρ 0).i (ρ 1).i) yv] 0 0, cellI [msgRow (byeMsg (ρ 0).i (ρ 1).i) yv] 0 1, cellI [msgRow (byeMsg (ρ 0).i (ρ 1).i) yv] 0 2, cellI [msgRow (byeMsg (ρ 0).i (ρ 1).i) yv] 0 3, cellI [msgRow (byeMsg (ρ 0).i (ρ 1).i) yv] 0 4, cellI [msgRow (byeMsg (ρ 0).i (ρ 1).i) yv] 0 5⟩ : Msg) = byeMsg (ρ 0).i (ρ 1).i := rfl
    rw [hmsg]
    refine ⟨tB, .inl hBd, ⟨⟨hc1.runs.wf n2 n16 p0 p1, by omega, q3, q4, by omega⟩, htB⟩, ?_, ?_⟩
    · rw [hBt]
      intro w1 _ w2 _ w3 _ w4 _ w5 _ w6 _ r1 r2 r3 r4 r5 r6
      have hT4 : tabOf w4.d = (recvS (lvO (ρ 0).i (ρ 1).i (ρ 2).i) (byeMsg (ρ 0).i (ρ 1).i) (byeT (ρ 0).i (ρ 1).i)).tab := by rw [← r3]; rfl
      have l4 : (w4.d.length : Int) = (ρ 1).i := by have := congrArg List.length hT4; rw [tab_len, k5] at this; omega
      refine ⟨by rw [r1]; exact k1, fun _ => ⟨⟨by omega, hbg⟩, fun z1 _ z2 _ l1 l2 l3 => ?_⟩⟩
      rw [hT4, k3] at l1
      have lz : z2.d.length = 1 := by have := congrArg List.length l1; rw [ints_len] at this; exact this
      refine ⟨by omega, by omega, fun _ => ⟨⟨by omega, by omega, hbg⟩, fun z3 _ hz3 => ?_⟩⟩
      have hcell := cellI_tab (d := z3.d) (i := (ρ 0).i) f1 (by rw [hz3]; omega)
      rw [hz3, hT4, k4] at hcell
      have hcell := Option.some.inj hcell
      simp only [Prod.mk.injEq] at hcell
      rw [hz3]
      exact ⟨f1, f2, by omega, ⟨hcell.1.symm, hcell.2.symm⟩, fun _ _ => ⟨by omega, by rw [hrow]; simp, tR, .inr (by rw [hrow]; exact hRd), htR, hC⟩⟩
    · rw [hBt]
      intro w1 _ w2 _ w3 _ w4 _ w5 _ r1 r2
      rw [k2] at r2; cases r2
end Go.Proofs
