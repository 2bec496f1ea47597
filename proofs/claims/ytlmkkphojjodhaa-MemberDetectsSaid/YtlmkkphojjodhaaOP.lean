/- New, Table, the law MemberAnswers: what they compute. -/
import Derived.Test.YtlmkkphojjodhaaOT
import Derived.Test.YtlmkkphojjodhaaNQ
set_option linter.unusedSimpArgs false
set_option linter.unusedVariables false
namespace Go.Proofs
open Go Go.Eng

theorem new22_ok : new22C.ok Try.prog := new22_of (by simp) fun ρ hg hp => by
  have hrep : tabOf (List.replicate (ρ 1).i.toNat [.int .u64 0, .int .u8 0]) = List.replicate (ρ 1).i.toNat (0, 0) := by simp [tabOf, rowI, vInt]
  have hrepi : intsOf (List.replicate (ρ 1).i.toNat [.int .u64 0]) = List.replicate (ρ 1).i.toNat 0 := by simp [intsOf, rowI, vInt]
  have htab : ∀ h0 : 0 ≤ (ρ 0).i, ∀ h : (ρ 0).i < (ρ 1).i, tabOf (putD (List.replicate (ρ 1).i.toNat [.int .u64 0, .int .u8 0]) (ρ 0).i 0 [.int .u64 (ρ 2).i, .int .u8 1]) = (List.replicate (ρ 1).i.toNat (0, 0)).set (ρ 0).i.toNat ((ρ 2).i, 1) := fun h0 h => by
    rw [tab_put' h0 (by simp; omega), hrep, setTab]
  simp [o_new22, new22C, newBad, newM, machV, prbsOf, hrepi, putD_len]
  refine ⟨fun h1 => by omega, fun h1 => ⟨fun h2 => by omega, fun h2 => ⟨fun h3 => by omega, fun h3 => ⟨fun h4 => by omega, fun h4 => ⟨fun h5 => by omega, fun h5 => ⟨⟨by omega, by omega, by omega, by omega, by omega, by omega, ⟨by omega, h5⟩, htab h3 h4, by omega⟩, by omega, by omega, by omega, by omega, by omega, by omega, ⟨by omega, h5⟩, htab h3 h4, by omega⟩⟩⟩⟩⟩⟩
theorem table28_ok : table28C.ok Try.prog := table28_of (by simp [clone63_ok]) fun ρ hg hp => by
  obtain ⟨h1, h2, h3⟩ := hp
  simp [o_table28, table28C, clone63C]
  exact ⟨h1, h2, h3⟩
theorem stamped_one {h : Hp} {g : Msg} {self : Int} {t : List Ent} {d : List (List Value)} (hs : stamped h [g] self t 1 d) : ∃ v, d = [msgRow { g with src := self } v] ∧ RdT h v t := by
  obtain ⟨vs, h1, h2, h3⟩ := hs
  match vs, h1 with
  | [v], _ => exact ⟨v, by simpa [rowsOf] using h2, h3 v (by simp)⟩
theorem star_mem_abs {ρ : Env} {l : List SH} {H : Hp} (hs : star ρ l H) {n t : Nat} (hm : SH.abs n t ∈ l) : ∃ hb, Hp.le hb H ∧ Hp.le (ρ n).h hb := by
  obtain ⟨hb, lb, db⟩ := star_mem hs hm
  exact ⟨hb, lb, by simpa [SH.den] using db⟩
set_option maxRecDepth 20000 in
set_option maxHeartbeats 4000000 in
theorem lawAnswers_ok : lawAnswersC.ok Try.prog := lawAnswers_of (by simp [known_ok, own21_ok, valid20_ok, new22_ok, receive23_ok, newer_ok]) fun ρ hg hp => by
  obtain ⟨h1, h2⟩ := hp
  simp [o_lawAnswers, lawAnswersC, lawAnswersI, knownC, own21C, valid20C, contains59C, index84C, new22C, receive23C, recv58C, newerD, newerC, lawWaitsC, arithOf, mPre, m0, msgV]
  intro ua _
  refine ⟨by omega, fun h3 h4 => ⟨⟨h1, h2⟩, fun ub _ uc _ ud _ hd => ?_⟩⟩
  rw [hd]
  refine ⟨⟨h1, h2⟩, fun ue _ ke kb f1 f2 f3 f4 f5 f6 f7 => ?_⟩
  have hv : validT (tabOf (ρ 11).d) = true := by rw [← ke, kb]
  have hnb : newBad (ρ 0).i (ρ 9).i 7 = false := by
    rw [Bool.eq_false_iff]; simp [newBad]; omega
  refine ⟨hnb, fun v1 _ v2 _ v3 _ vT _ vS _ v6 _ vn _ v8 _ vP _ _ q1 q2 q3 q4 => ?_⟩
  rw [q1]
  generalize hG : (⟨1, (ρ 1).i, (ρ 0).i, (ρ 5).i, (ρ 6).i, (ρ 7).i⟩ : Msg) = G
  have hself : (newM (ρ 0).i (ρ 9).i 7).self = (ρ 0).i := rfl
  have hlen : (newM (ρ 0).i (ρ 9).i 7).tab.length = (ρ 9).i.toNat := by simp [newM]
  have hE : recvE (newM (ρ 0).i (ρ 9).i 7) G (tabOf (ρ 11).d) = 0 := by
    rw [recvE, if_neg (by simp [newM]), if_pos]
    rw [hself, hlen]
    subst hG
    simp only [acceptsP, peerP, hv, tab_len, Bool.and_eq_true, Bool.not_eq_true', decide_eq_true_eq, beq_iff_eq, beq_eq_false_iff_ne, ne_eq]
    simp
    omega
  have hfm : forMe (newM (ρ 0).i (ρ 9).i 7).self G = false := by subst hG; simp [forMe]
  have hA : recvAns (newM (ρ 0).i (ρ 9).i 7) G (tabOf (ρ 11).d) = [recvMsg (ρ 0).i G] := by rw [recvAns, if_pos ⟨hE, hfm⟩, hself]
  have hS : (recvS (newM (ρ 0).i (ρ 9).i 7) G (tabOf (ρ 11).d)).tab = recvTab (ρ 0).i (newM (ρ 0).i (ρ 9).i 7).tab (tabOf (ρ 11).d) := by rw [recvS, if_pos hE]; rfl
  have hR : recvMsg (ρ 0).i G = ⟨2, 0, (ρ 1).i, (ρ 5).i, (ρ 6).i, 0⟩ := by subst hG; simp [recvMsg]
  rw [hE, hA, hS, hR]
  refine ⟨⟨⟨⟨by rw [hlen]; omega, by rw [hlen]; omega, by simp [newM], f1, by rw [hself, hlen]; omega, f1, by rw [hlen]; show (ρ 0).i < _; omega, by simp [newM]⟩, by omega, by omega, by omega, by omega⟩, h1, h2⟩, ?_, ?_⟩
  · intro _ _ _ _ _ _ _ _ _ _ _ _ _ hbad
    cases hbad
  intro w1 _ w2 _ wD _ wH _ w5 _ w6 _ w7 _ _ _ _ hst
  obtain ⟨v, e1, e2⟩ := stamped_one hst
  obtain ⟨d, r1, r2⟩ := e2
  have hdl : d.length = (ρ 9).i.toNat := by rw [← tab_len, r2, recvTab_len, hlen]
  rw [e1]
  have hst' := hst
  rw [e1] at hst'
  refine ⟨by simp, by simp [cellI, cellV, msgRow, vInt], fun _ => ⟨by simp [cellI, cellV, msgRow, vInt], fun _ => ⟨by simp [cellI, cellV, msgRow, vInt], fun _ => ⟨by simp [cellI, cellV, msgRow, vInt], fun _ => ⟨by simp [cellI, cellV, msgRow, vInt], fun _ => ⟨d, by simpa [cellV, msgRow, kMem] using r1, fun _ _ _ _ => ⟨by omega, fun _ wF _ kF => ?_⟩⟩⟩⟩⟩⟩⟩
  obtain ⟨hb, lb, db⟩ := star_mem_abs kF (n := 139) (t := 2) (by simp)
  refine ⟨⟨by omega, stamped_mono hst' (Hp.le_trans (by simpa using db) lb)⟩, ?_⟩
  intro xi _ xD _ xH _ g0 g1 hsx
  obtain ⟨v', e1', e2'⟩ := stamped_one hsx
  obtain ⟨d', r1', r2'⟩ := e2'
  have hdl' : d'.length = (ρ 9).i.toNat := by rw [← tab_len, r2', recvTab_len, hlen]
  have hrd : Rd xH.h [CK.int .u64, CK.int .u8] (cellV xD.d 0 6) d' := by rw [e1']; simpa [cellV, msgRow, kMem] using r1'
  have hpos : 0 < xD.d.length := by rw [e1']; simp
  have hget : ∀ i : Int, 0 ≤ i → i < (ρ 9).i → (newM (ρ 0).i (ρ 9).i 7).tab[i.toNat]? = some (if i = (ρ 0).i then (7, 1) else (0, 0)) := fun i i0 i1 => by
    simp only [newM, List.getElem?_set, List.length_replicate, List.getElem?_replicate]
    by_cases hi : i = (ρ 0).i
    · subst hi; simp; omega
    · rw [if_neg (by omega), if_pos (by omega), if_neg hi]
  have hcell : ∀ i : Int, 0 ≤ i → i < (ρ 9).i → (cellI d' i 0, cellI d' i 1) = if i = (ρ 0).i then (7, 1) else joinE (0, 0) (cellI (ρ 11).d i 0, cellI (ρ 11).d i 1) := fun i i0 i1 => by
    have a1 := cellI_tab (d := d') i0 (by omega)
    have a2 := recvTab_get (self := (ρ 0).i) (hget i i0 i1) (cellI_tab (d := (ρ 11).d) i0 (by omega))
    rw [r2', a2, Int.toNat_of_nonneg i0] at a1
    have a3 := Option.some.inj a1
    rw [← a3]
    split <;> rfl
  refine ⟨fun hi => ⟨fun hne => ⟨g0, by omega, hpos, d', hrd, by omega, ?_, fun _ _ => ⟨⟨?_, ?_, hsx⟩, ?_⟩⟩, fun heq => ⟨⟨?_, ?_, hsx⟩, ?_⟩⟩, fun hi => ⟨hpos, d', hrd, f1, by omega, ?_⟩⟩
  · have hc := hcell xi.i g0 hi
    rw [if_neg hne] at hc
    rcases Bool.eq_false_or_eq_true (newerE (cellI (ρ 11).d xi.i 0, cellI (ρ 11).d xi.i 1) (0, 0)) with hn | hn
    · rw [joinE, if_pos hn] at hc
      simp only [Prod.mk.injEq] at hc; omega
    · rw [joinE, if_neg (by simp [hn])] at hc
      simp only [Prod.mk.injEq] at hc
      simp [newerE, newerB] at hn
      omega
  · rw [wrapAdd g0 hi h2]; omega
  · rw [wrapAdd g0 hi h2]; omega
  · rw [wrapAdd g0 hi h2]; omega
  · rw [wrapAdd g0 hi h2]; omega
  · rw [wrapAdd g0 hi h2]; omega
  · rw [wrapAdd g0 hi h2]; omega
  · have hc := hcell (ρ 0).i f1 f2
    rw [if_pos rfl] at hc
    simpa using hc
end Go.Proofs
