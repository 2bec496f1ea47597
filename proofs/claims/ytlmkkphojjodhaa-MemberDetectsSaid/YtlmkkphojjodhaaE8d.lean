/- Appending in place; clearing. -/
import Derived.Test.YtlmkkphojjodhaaE8c
set_option linter.unusedSimpArgs false
set_option linter.unusedVariables false
namespace Go.Eng
open Go
variable {P : Program} {ρ : Env} {hF : Fr} {s : S} {a : Act} {w : World} {o : Oper} {r : R1}

theorem inNx0_eq (n : Nat) (x : SH) : SH.inNx0 n x = SH.inB n x := by cases x <;> rfl
theorem inNx0_all {n : Nat} {l : List SH} (h : l.all (SH.inNx0 n) = true) : l.all (SH.inB n) = true := by
  rw [List.all_eq_true] at *
  intro x hx; rw [← inNx0_eq]; exact h x hx

/-- A block is written. -/
theorem HeapOk.wrote {heap : List SH} {k : Nat} {x x' : SH} {b : Nat} {c0 c1 : Array Value} {ty : TypeId} {w w' : World} {hO t1 t2 : Hp} (hd : Hp.disj hF hO) (hsub : (Hp.union hF hO).sub w) (hwi : hF.wi w)
    (hk : heap[k]? = some x) (td : Hp.disj t1 t2) (tu : hO = Hp.union t1 t2) (ts : star ρ (heap.eraseIdx k) t2) (g2 : t1 b = some (.cells c0 ty (0, 0))) (g4 : x'.den ρ (Hp.upd t1 b (.cells c1 ty (0, 0))))
    (hw1 : w'.heap[b]? = some (.cells c1 ty (0, 0))) (hw2 : ∀ b', b' ≠ b → w'.heap[b']? = w.heap[b']?) (hos : w'.os = w.os ∧ w'.output = w.output) : HeapOk ρ hF (heap.set k x') w' := by
  have hdisj : Hp.disj (Hp.upd t1 b (.cells c1 ty (0, 0))) t2 := fun y => by
    rcases td y with h | h
    · unfold Hp.upd
      split
      · rename_i he; subst he; rw [g2] at h; cases h
      · exact .inl h
    · exact .inr h
  refine ⟨Hp.union (Hp.upd t1 b (.cells c1 ty (0, 0))) t2, ?_, star_set hk ts hdisj g4, ?_, ⟨hos.1.trans hwi.1, hos.2.trans hwi.2⟩⟩
  · intro y
    rcases hd y with h | h
    · exact .inl h
    · right
      rw [tu] at h
      simp only [Hp.union, Option.or_eq_none_iff] at h ⊢
      refine ⟨?_, h.2⟩
      unfold Hp.upd
      split
      · rename_i he; subst he; rw [g2] at h; cases h.1
      · exact h.1
  · intro y ob hy
    by_cases hyb : y = b
    · subst hyb
      have hFn : hF y = none := (hd y).resolve_right (by rw [tu]; simp [Hp.union, g2])
      simp only [Hp.union, hFn, Hp.upd, if_true, Option.none_or, Option.some_or, Option.some.injEq] at hy
      rw [hw1, hy]
    · rw [hw2 y hyb]
      refine hsub y ob ?_
      rw [tu]
      simp only [Hp.union, Hp.upd, hyb, if_false] at hy ⊢
      exact hy

theorem HeapOk.congr {ρ' : Env} {heap : List SH} {n : Nat} (h : HeapOk ρ hF heap w) (hsc : heap.all (SH.inB n) = true) (hag : ∀ m, m < n → ρ m = ρ' m) : HeapOk ρ' hF heap w := by
  obtain ⟨hO, hd, hst, hsub, hwi⟩ := h
  exact ⟨hO, hd, star_congr hag _ hsc _ hst, hsub, hwi⟩

theorem step_inpl {args : Array Operand} {tys : Array TypeId} {x y : Operand} {t : TypeId} {xa ya : SV} (hs : Holds ρ hF s a w) (hop : o.op = .call { callee := .builtin .append, args, argTypes := tys }) (hargs : args = #[x, y]) (htys : tys = #[t, t])
    (hx : opd s x = some xa) (hy : opd s y = some ya) (h : stepInpl P s t xa ya = some r) (hn : ∀ c ∈ r.needs, (c.den ρ).b = true) : StepOk P ρ hF s a w o r := by
  unfold stepInpl at h
  split at h
  · rename_i el rg p off len cap hu
    split at h
    · rename_i z n bz hz hsz hbz
      split at h
      · rename_i hc
        simp only [Bool.and_eq_true, Nat.blt_eq] at hc
        obtain ⟨⟨hzl, hpos⟩, hnp⟩ := hc
        have hzl := Nat.eq_of_beq_eq_true hzl
        have hnp := Nat.eq_of_beq_eq_true hnp
        subst hnp
        split at h
        · rename_i k rr ty pat d capA src hoff hat hsrc
          split at h
          · rename_i ts hsl hrow
            split at h
            · rename_i hc2
              simp only [Bool.and_eq_true, decide_eq_true_eq] at hc2
              obtain ⟨htsl, hpat⟩ := hc2
              have htsl := Nat.eq_of_beq_eq_true htsl
              split at h
              · rename_i x' ns hwr
                split at h
                · rename_i hin
                  simp only [Bool.and_eq_true, Nat.blt_eq] at hin
                  obtain ⟨⟨⟨hin1, hin2⟩, hin3⟩, hin4⟩ := hin
                  simp only [Option.some.injEq] at h; subst h
                  have hev := hs.opd hx
                  have hey := hs.opd hy
                  simp only [List.cons_append, List.mem_cons, List.mem_append, forall_eq_or_imp] at hn
                  obtain ⟨hn1, hn2, hn3⟩ := hn
                  have hroom := leq_den hn1
                  have hone := eql_den hn2
                  rw [mkPlus_den] at hroom
                  simp only [T.den, O0.den] at hroom hone
                  have hplen : 0 < (z.map kindOf).length := by simp [hzl, hpos]
                  obtain ⟨_, hS⟩ := srcOf_sound (P := P) hplen hs hsrc (fun c hc => hn3 c (.inr hc))
                  obtain ⟨hk, hreg⟩ := heapAt_spec hat
                  obtain ⟨hO, hd, hst, hsub, hwi⟩ := hs.hp
                  obtain ⟨t1, t2, td, tu, tx, tss⟩ := star_take hst hk
                  obtain ⟨b, c0, ty0, g1, g2, g3, g4⟩ := writeH_sound hwr tx hreg (fun c hc => hn3 c (.inl hc))
                  have hle : Hp.le t1 (Hp.union hF hO) := Hp.le_trans (tu ▸ Hp.le_left t1 t2) (Hp.le_right hd)
                  have hlen0 : 0 ≤ (len.den ρ).i := by
                    simp only [writeH] at hwr
                    split at hwr
                    · simp only [Option.some.injEq, Prod.mk.injEq] at hwr
                      obtain ⟨_, rfl⟩ := hwr
                      exact mkLe0_den (hn3 _ (.inl (by simp)))
                    · simp at hwr
                  have hrows : (src.d.den ρ).d = [denVs ρ ts] := by
                    have l1 := slen_den (ρ := ρ) hsl
                    have l2 := rowAt_den (ρ := ρ) hrow
                    match hx : (src.d.den ρ).d, l1 with
                    | [q], _ => rw [hx] at l2; simpa using l2
                  have hm : (src.len.den ρ).i.toNat = 1 := by omega
                  obtain ⟨yb, yc, hyv⟩ := hS.shape
                  have hcells := hS.cells w.heap w.drawn rfl
                  rw [hm] at hcells hyv
                  have hfl : flat (src.d.den ρ).d = denVs ρ ts := by rw [hrows]; simp [flat]
                  rw [hfl] at hcells
                  have hpn : (z.map kindOf).length = n := by simp [hzl]
                  rw [hpn] at hcells
                  obtain ⟨i, hi, hib⟩ := bytesP_info hbz
                  obtain ⟨i', hi', his⟩ := sizeP_info hsz
                  have : i' = i := Option.some.inj (hi'.symm.trans hi)
                  subst this
                  obtain ⟨w', c1, hrun, hw1, hw2, hwrote, hos⟩ := run_storeCells (P := P) (b := b) (off := (len.den ρ).i.toNat * n) (denVs ρ ts) 0 c0 w (hsub _ _ (hle _ _ g2)) (denVs_good hs.gd ts) (by simpa [denVs] using g3)
                  have hbase := HeapOk.wrote hd hsub hwi hk td tu tss g2 (g4 c1 (by simpa using hwrote)) hw1 hw2 hos
                  have hag : ∀ m, m < s.nx → ρ m = (ρ.set s.nx {}) m := fun m hm => (Env.set_ne ρ _ (by omega)).symm
                  refine ⟨[{}], w', rfl, by simp [U.good, Value.oneCell'], HeapOk.congr hbase (inNx0_all hin1) hag, ?_, fun h => by cases h⟩
                  have hoff0 := isLit_den (ρ := ρ) hoff
                  have hv : SV.den (ρ.set s.nx {}) (.one (.vslice rg (.lit 0) (mkPlus len (.lit 1)) cap n)) = .slice (some ⟨b, 0, none⟩) ((len.den ρ).i.toNat + 1) (cap.den ρ).i.toNat := by
                    simp only [SV.den, T.den, O0.den, O3.den, addrOf]
                    rw [← hag rg hin4, g1, ← T.den_congr hag _ hin2, ← T.den_congr hag _ hin3, mkPlus_den]
                    simp [T.den, O0.den]; omega
                  have hev' : a.eval x = .slice (some ⟨b, 0, none⟩) (len.den ρ).i.toNat (cap.den ρ).i.toNat := by
                    rw [hev]; simp [SV.den, T.den, O3.den, addrOf, g1, hoff0]
                  have hroom' : (len.den ρ).i.toNat + 1 ≤ (cap.den ρ).i.toNat := by omega
                  simp only [Ran, setL, hv]
                  rw [hyv] at hey hcells
                  have hlenOf : ∀ w' : World, (Builtin.lenOf (.slice yb 1 yc)).run P w' = .ok ((1 : Nat) : Int).toNat w' := fun _ => rfl
                  simp [execOp, hop, resolve, invoke, builtin, hargs, htys, hev', hey, Builtin.append_, run_underlying hu, sizeOf, typeInfo, hi, his, Builtin.lenOf, hroom', hcells, Addr.add_lit, hrun]
                · simp at h
              · simp at h
            · simp at h
          · simp at h
        · simp at h
      · simp at h
    · simp at h
  · simp at h
theorem zeroP_each {t : TypeId} {cs : List T} (h : zeroP P t = some cs) (w : World) : ∃ v, (zeroValue t).run P w = .ok v w ∧ v.cells.size = cs.length ∧ ∀ x ∈ v.cells.toList, x.oneCell' = true := by
  obtain ⟨v, h1, h2⟩ := zeroP_run (ρ := fun _ => {}) h w
  refine ⟨v, h1, by rw [h2]; simp [denVs], fun x hx => ?_⟩
  rw [h2] at hx
  exact denVs_good (ρ := fun _ => {}) (fun n => by simp [U.good, Value.oneCell']) cs x (by simpa using hx)

theorem zeroCells_good {z : Array Value} (hz : ∀ x ∈ z.toList, x.oneCell' = true) (n : Nat) : ∀ x ∈ (Builtin.zeroCells z n).toList, x.oneCell' = true := by
  intro x hx
  simp only [Builtin.zeroCells, Array.toList_map, List.mem_map] at hx
  obtain ⟨i, hi, rfl⟩ := hx
  by_cases hlt : i % z.size < z.size
  · rw [getElem!_pos z _ hlt]; exact hz _ (by simp)
  · rw [getElem!_neg z _ hlt]; rfl

theorem step_clear {args : Array Operand} {tys : Array TypeId} {x : Operand} {t : TypeId} {xa : SV} (hs : Holds ρ hF s a w) (hop : o.op = .call { callee := .builtin .clear, args, argTypes := tys }) (hargs : args = #[x]) (htys : tys = #[t])
    (hx : opd s x = some xa) (h : stepClear P s t xa = some r) (hn : ∀ c ∈ r.needs, (c.den ρ).b = true) : StepOk P ρ hF s a w o r := by
  unfold stepClear at h
  split at h
  · rename_i el rg p off len cap hu
    split at h
    · rename_i z n hz hsz
      split at h
      · rename_i hc
        simp only [Bool.and_eq_true, Nat.blt_eq] at hc
        obtain ⟨⟨hzl, hpos⟩, hnp⟩ := hc
        have hzl := Nat.eq_of_beq_eq_true hzl
        have hnp := Nat.eq_of_beq_eq_true hnp
        subst hnp
        split at h
        · rename_i k rr ty pat d capA hat
          split at h
          · rename_i hc2
            simp only [Bool.and_eq_true] at hc2
            obtain ⟨hpl, hin⟩ := hc2
            have hpl := Nat.eq_of_beq_eq_true hpl
            simp only [Option.some.injEq] at h; subst h
            have hev := hs.opd hx
            have hoff := mkLe0_den (hn _ (by simp) : ((mkLe0 off).den ρ).b = true)
            have hlen := mkLe0_den (hn _ (by simp) : ((mkLe0 len).den ρ).b = true)
            have hle := leq_den (hn _ (by simp) : ((mkCmp .leq (mkPlus off len) (mkDlen d)).den ρ).b = true)
            rw [mkPlus_den, mkDlen_den] at hle
            obtain ⟨hk, hreg⟩ := heapAt_spec hat
            simp only [SH.reg, Option.some.injEq] at hreg; subst hreg
            obtain ⟨hO, hd, hst, hsub, hwi⟩ := hs.hp
            obtain ⟨t1, t2, td, tu, tx, tss⟩ := star_take hst hk
            have hag : ∀ m, m < s.nx → ρ m = (ρ.set s.nx {}) m := fun m hm => (Env.set_ne ρ _ (by omega)).symm
            obtain ⟨zv, hz1, hz2, hz3⟩ := zeroP_each hz w
            have htake0 : ((T.dtake d (mkIfe len (.lit 0) (mkDlen d) off)).den ρ).d = (d.den ρ).d.take ((mkIfe len (.lit 0) (mkDlen d) off).den ρ).i.toNat := rfl
            have hife : ((mkIfe len (.lit 0) (mkDlen d) off).den ρ).i = if (len.den ρ).i = 0 then ((d.den ρ).d.length : Int) else (off.den ρ).i := by rw [mkIfe_den, mkDlen_den]; rfl
            by_cases hempty : (len.den ρ).i.toNat = 0
            · -- nothing is written
              have htake : ((T.dtake d (mkIfe len (.lit 0) (mkDlen d) off)).den ρ).d = (d.den ρ).d := by
                rw [htake0, hife, if_pos (by omega)]; simp
              have hx' : SH.den ρ (.arr rr ty pat (.dtake d (mkIfe len (.lit 0) (mkDlen d) off)) capA) t1 := by
                rcases tx with ⟨h1, h2, h3⟩ | ⟨b, c, h1, h2, h3, h4, h5⟩
                · exact .inl ⟨h1, by rw [htake, h2], h3⟩
                · exact .inr ⟨b, c, h1, h2, h3, by rw [htake]; exact h4, by rw [htake]; exact h5⟩
              refine ⟨[{}], w, rfl, by simp [U.good, Value.oneCell'], HeapOk.congr ⟨hO, hd, by rw [tu]; exact star_set hk tss td hx', hsub, hwi⟩ (inNx0_all hin) hag, ?_, fun h => by cases h⟩
              have hev' : a.eval x = .slice (addrOf (ρ rr).r ((off.den ρ).i.toNat * n)) 0 (cap.den ρ).i.toNat := by
                rw [hev]; simp [SV.den, T.den, O3.den, hempty]
              simp only [Ran, setL, SV.den, List.map_nil]
              cases hadr : addrOf (ρ rr).r ((off.den ρ).i.toNat * n) <;> simp [execOp, hop, resolve, invoke, builtin, hargs, htys, hev', hadr, Builtin.clear_, run_underlying hu]
            · have htake : ((T.dtake d (mkIfe len (.lit 0) (mkDlen d) off)).den ρ).d = (d.den ρ).d.take (off.den ρ).i.toNat := by
                rw [htake0, hife, if_neg (by omega)]
              rcases tx with ⟨h1, h2, h3⟩ | ⟨b, c, h1, h2, h3, h4, h5⟩
              · rw [h2] at hle; simp at hle; omega
              · have hw : w.heap[b]? = some (.cells c ty (0, 0)) := hsub b _ (Hp.le_right hd _ _ (tu ▸ Hp.le_left t1 t2 _ _ h2))
                have hzc : (Builtin.zeroCells zv.cells (len.den ρ).i.toNat).toList.length = (len.den ρ).i.toNat * n := by
                  rw [Array.length_toList, size_zeroCells, hz2, hzl]
                have hsz2 : (off.den ρ).i.toNat * n + (len.den ρ).i.toNat * n ≤ c.size := by
                  rw [h3, hpl, ← Nat.add_mul]
                  exact Nat.mul_le_mul_right _ (by omega)
                obtain ⟨w', c1, hrun, hw1, hw2, ⟨hws, hwg⟩, hos⟩ := run_storeCells (P := P) (b := b) (off := (off.den ρ).i.toNat * n) (Builtin.zeroCells zv.cells (len.den ρ).i.toNat).toList 0 c w hw (zeroCells_good hz3 _) (by rw [hzc]; simpa using hsz2)
                have hx' : SH.den ρ (.arr rr ty pat (.dtake d (mkIfe len (.lit 0) (mkDlen d) off)) capA) (Hp.upd t1 b (.cells c1 ty (0, 0))) := by
                  refine .inr ⟨b, c1, h1, by simp [Hp.upd], by rw [hws]; exact h3, ?_, fun i row hi => ?_⟩
                  · rw [htake, List.length_take]; omega
                  · rw [htake, List.getElem?_take] at hi
                    split at hi
                    · rename_i hlt
                      obtain ⟨g1, g2⟩ := h5 i row hi
                      refine ⟨g1, fun kk v hv => ?_⟩
                      rw [hwg, if_neg]
                      · exact g2 kk v hv
                      · have hkl : kk < pat.length := by
                          rw [← g1.1]; exact (List.getElem?_eq_some_iff.1 hv).1
                        have : (i + 1) * pat.length ≤ (off.den ρ).i.toNat * pat.length := Nat.mul_le_mul_right _ hlt
                        rw [Nat.add_mul] at this
                        rw [hpl] at this hkl ⊢
                        omega
                    · cases hi
                refine ⟨[{}], w', rfl, by simp [U.good, Value.oneCell'], HeapOk.congr (HeapOk.wrote hd hsub hwi hk td tu tss h2 hx' hw1 hw2 hos) (inNx0_all hin) hag, ?_, fun h => by cases h⟩
                obtain ⟨m, hm⟩ : ∃ m, (len.den ρ).i.toNat = m + 1 := ⟨(len.den ρ).i.toNat - 1, by omega⟩
                have hev' : a.eval x = .slice (some ⟨b, (off.den ρ).i.toNat * n, none⟩) (m + 1) (cap.den ρ).i.toNat := by
                  rw [hev]; simp [SV.den, T.den, O3.den, hm, h1, addrOf]
                rw [hm] at hrun
                simp only [Ran, setL, SV.den, List.map_nil]
                simp [execOp, hop, resolve, invoke, builtin, hargs, htys, hev', Builtin.clear_, run_underlying hu, hz1, hrun]
          · simp at h
        · simp at h
      · simp at h
    · simp at h
  · simp at h

theorem toList_two {α : Type} {l : Array α} {x y : α} (h : l.toList = [x, y]) : l = #[x, y] := by cases l; simp_all
theorem toList_one {α : Type} {l : Array α} {x : α} (h : l.toList = [x]) : l = #[x] := by cases l; simp_all

theorem stepX_sound {ip : List (Nat × Nat)} (hs : Holds ρ hF s a w) (h : stepX P ip s o = some r) (hn : ∀ c ∈ r.needs, (c.den ρ).b = true) (hsc : r.fresh = 0 ∨ s.scopedEH = true) : StepOk P ρ hF s a w o r := by
  unfold stepX at h
  split at h
  · rename_i args tys hop
    split at h
    · split at h
      · rename_i x y t t2 hargs htys
        split at h
        · rename_i ht
          have ht := Nat.eq_of_beq_eq_true ht
          subst ht
          split at h
          · rename_i xa ya hx hy
            exact step_inpl hs hop (toList_two hargs) (toList_two htys) hx hy h hn
          · simp at h
        · simp at h
      · simp at h
    · exact stepOp_sound hs h hn hsc
  · rename_i args tys hop
    split at h
    · rename_i x t hargs htys
      split at h
      · rename_i xa hx
        exact step_clear hs hop (toList_one hargs) (toList_one htys) hx h hn
      · simp at h
    · simp at h
  · exact stepOp_sound hs h hn hsc

theorem shrinkS_holds (ip : List (Nat × Nat)) (o : Oper) (hs : Holds ρ hF s a w) : Holds ρ hF (shrinkS ip s o) a w ∧ (shrinkS ip s o).nx = s.nx ∧ (shrinkS ip s o).ro = s.ro ∧ (shrinkS ip s o).nt = s.nt := by
  unfold shrinkS
  repeat' split
  all_goals first | exact ⟨hs, rfl, rfl, rfl⟩ | skip
  rename_i rg p off len cap hx _ k rr ty pat d cap' hat
  obtain ⟨hk, hreg⟩ := heapAt_spec hat
  obtain ⟨hO, hd, hst, hsub, hwi⟩ := hs.hp
  obtain ⟨t1, t2, td, tu, tx, tss⟩ := star_take hst hk
  refine ⟨⟨hs.gd, hs.nt, hs.df, hs.env, hs.ro, ⟨hO, hd, ?_, hsub, hwi⟩, hs.pc, hs.vw⟩, rfl, rfl, rfl⟩
  rw [tu]
  refine star_set hk tss td ?_
  have htake : ((T.dtake d len).den ρ).d = (d.den ρ).d.take (len.den ρ).i.toNat := rfl
  rcases tx with ⟨h1, h2, h3⟩ | ⟨b, c, h1, h2, h3, h4, h5⟩
  · exact .inl ⟨h1, by rw [htake, h2]; simp, h3⟩
  · refine .inr ⟨b, c, h1, h2, h3, ?_, fun i row hi => h5 i row ?_⟩
    · rw [htake, List.length_take]; omega
    · rw [htake, List.getElem?_take] at hi; split at hi
      · exact hi
      · cases hi
end Go.Eng
