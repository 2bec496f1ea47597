/- Texts E8d, E9, E10, E10b. -/
import Derived.Test.YtelcnkclppkicaaDoorG3
import Derived.Laws.CopyRow
import Derived.Laws.IdiomCopy
import Derived.OrdersHeld
set_option linter.unusedSimpArgs false
set_option linter.unusedVariables false
namespace Go.Eng
open Go
variable {P : Program} {ρ : Env} {hF : Fr} {s : S} {a : Act} {w : World} {o : Oper} {r : R1}

theorem inNx0_eq (n : Nat) (x : SH) : SH.inNx0 n x = SH.inB n x := by cases x <;> rfl
theorem inNx0_all {n : Nat} {l : List SH} (h : l.all (SH.inNx0 n) = true) : l.all (SH.inB n) = true := by
  rw [List.all_eq_true] at *
  intro x hx; rw [← inNx0_eq]; exact h x hx

/-- A block is written. -/
theorem HeapOk.wrote {heap : List SH} {k : Nat} {x x' : SH} {b : Nat} {c0 c1 : Array Value} {ty : TypeId} {w w' : World} {hO t1 t2 : Hp} (hd : Hp.disj hF hO) (hsub : (Hp.union hF hO).sub w) (hwi : hF.wi w)
    (hk : heap[k]? = some x) (td : Hp.disj t1 t2) (tu : hO = Hp.union t1 t2) (ts : star ρ (heap.eraseIdx k) t2) (g2 : t1 b = some (.cells c0 ty (0, 0))) (g4 : x'.den ρ (Hp.upd t1 b (.cells c1 ty (0, 0))))
    (hw1 : w'.heap[b]? = some (.cells c1 ty (0, 0))) (hw2 : ∀ b', b' ≠ b → w'.heap[b']? = w.heap[b']?) (hos : w'.os = w.os ∧ w'.output = w.output) : HeapOk ρ hF (heap.set k x') w' := by
  have hdisj : Hp.disj (Hp.upd t1 b (.cells c1 ty (0, 0))) t2 := fun y => by
    rcases td y with h | h
    · unfold Hp.upd
      split
      · rename_i he; subst he; rw [g2] at h; cases h
      · exact .inl h
    · exact .inr h
  refine ⟨Hp.union (Hp.upd t1 b (.cells c1 ty (0, 0))) t2, ?_, star_set hk ts hdisj g4, ?_, ⟨hos.1.trans hwi.1, hos.2.trans hwi.2⟩⟩
  · intro y
    rcases hd y with h | h
    · exact .inl h
    · right
      rw [tu] at h
      simp only [Hp.union, Option.or_eq_none_iff] at h ⊢
      refine ⟨?_, h.2⟩
      unfold Hp.upd
      split
      · rename_i he; subst he; rw [g2] at h; cases h.1
      · exact h.1
  · intro y ob hy
    by_cases hyb : y = b
    · subst hyb
      have hFn : hF y = none := (hd y).resolve_right (by rw [tu]; simp [Hp.union, g2])
      simp only [Hp.union, hFn, Hp.upd, if_true, Option.none_or, Option.some_or, Option.some.injEq] at hy
      rw [hw1, hy]
    · rw [hw2 y hyb]
      refine hsub y ob ?_
      rw [tu]
      simp only [Hp.union, Hp.upd, hyb, if_false] at hy ⊢
      exact hy

theorem HeapOk.congr {ρ' : Env} {heap : List SH} {n : Nat} (h : HeapOk ρ hF heap w) (hsc : heap.all (SH.inB n) = true) (hag : ∀ m, m < n → ρ m = ρ' m) : HeapOk ρ' hF heap w := by
  obtain ⟨hO, hd, hst, hsub, hwi⟩ := h
  exact ⟨hO, hd, star_congr hag _ hsc _ hst, hsub, hwi⟩

theorem step_inpl {args : Array Operand} {tys : Array TypeId} {x y : Operand} {t : TypeId} {xa ya : SV} (hs : Holds ρ hF s a w) (hop : o.op = .call { callee := .builtin .append, args, argTypes := tys }) (hargs : args = #[x, y]) (htys : tys = #[t, t])
    (hx : opd s x = some xa) (hy : opd s y = some ya) (h : stepInpl P s t xa ya = some r) (hn : ∀ c ∈ r.needs, (c.den ρ).b = true) : StepOk P ρ hF s a w o r := by
  unfold stepInpl at h
  split at h
  · rename_i el rg p off len cap hu
    split at h
    · rename_i z n bz hz hsz hbz
      split at h
      · rename_i hc
        simp only [Bool.and_eq_true, Nat.blt_eq] at hc
        obtain ⟨⟨hzl, hpos⟩, hnp⟩ := hc
        have hzl := Nat.eq_of_beq_eq_true hzl
        have hnp := Nat.eq_of_beq_eq_true hnp
        subst hnp
        split at h
        · rename_i k rr ty pat d capA src hoff hat hsrc
          split at h
          · rename_i ts hsl hrow
            split at h
            · rename_i hc2
              simp only [Bool.and_eq_true, decide_eq_true_eq] at hc2
              obtain ⟨htsl, hpat⟩ := hc2
              have htsl := Nat.eq_of_beq_eq_true htsl
              split at h
              · rename_i x' ns hwr
                split at h
                · rename_i hin
                  simp only [Bool.and_eq_true, Nat.blt_eq] at hin
                  obtain ⟨⟨⟨hin1, hin2⟩, hin3⟩, hin4⟩ := hin
                  simp only [Option.some.injEq] at h; subst h
                  have hev := hs.opd hx
                  have hey := hs.opd hy
                  simp only [List.cons_append, List.mem_cons, List.mem_append, forall_eq_or_imp] at hn
                  obtain ⟨hn1, hn2, hn3⟩ := hn
                  have hroom := leq_den hn1
                  have hone := eql_den hn2
                  rw [mkPlus_den] at hroom
                  simp only [T.den, O0.den] at hroom hone
                  have hplen : 0 < (z.map kindOf).length := by simp [hzl, hpos]
                  obtain ⟨_, hS⟩ := srcOf_sound (P := P) hplen hs hsrc (fun c hc => hn3 c (.inr hc))
                  obtain ⟨hk, hreg⟩ := heapAt_spec hat
                  obtain ⟨hO, hd, hst, hsub, hwi⟩ := hs.hp
                  obtain ⟨t1, t2, td, tu, tx, tss⟩ := star_take hst hk
                  obtain ⟨b, c0, ty0, g1, g2, g3, g4⟩ := writeH_sound hs.gd hwr tx hreg (fun c hc => hn3 c (.inl hc))
                  have hle : Hp.le t1 (Hp.union hF hO) := Hp.le_trans (tu ▸ Hp.le_left t1 t2) (Hp.le_right hd)
                  have hlen0 : 0 ≤ (len.den ρ).i := by
                    simp only [writeH] at hwr
                    split at hwr
                    · simp only [Option.some.injEq, Prod.mk.injEq] at hwr
                      obtain ⟨_, rfl⟩ := hwr
                      exact mkLe0_den (hn3 _ (.inl (by simp)))
                    · split at hwr
                      · split at hwr
                        · split at hwr
                          · simp only [Option.some.injEq, Prod.mk.injEq] at hwr
                            obtain ⟨_, rfl⟩ := hwr
                            exact mkLe0_den (hn3 _ (.inl (by simp)))
                          · simp at hwr
                        · split at hwr
                          · simp only [Option.some.injEq, Prod.mk.injEq] at hwr
                            obtain ⟨_, rfl⟩ := hwr
                            exact mkLe0_den (hn3 _ (.inl (by simp)))
                          · simp at hwr
                        · simp at hwr
                      · simp at hwr
                  have hrows : (src.d.den ρ).d = [denVs ρ ts] := by
                    have l1 := slen_den (ρ := ρ) hsl
                    have l2 := rowAt_den (ρ := ρ) hrow
                    match hx : (src.d.den ρ).d, l1 with
                    | [q], _ => rw [hx] at l2; simpa using l2
                  have hm : (src.len.den ρ).i.toNat = 1 := by omega
                  obtain ⟨yb, yc, hyv⟩ := hS.shape
                  have hcells := hS.cells w.heap w.drawn rfl
                  rw [hm] at hcells hyv
                  have hfl : flat (src.d.den ρ).d = denVs ρ ts := by rw [hrows]; simp [flat]
                  rw [hfl] at hcells
                  have hpn : (z.map kindOf).length = n := by simp [hzl]
                  rw [hpn] at hcells
                  obtain ⟨i, hi, hib⟩ := bytesP_info hbz
                  obtain ⟨i', hi', his⟩ := sizeP_info hsz
                  have : i' = i := Option.some.inj (hi'.symm.trans hi)
                  subst this
                  obtain ⟨w', c1, hrun, hw1, hw2, hwrote, hos⟩ := run_storeCells (P := P) (b := b) (off := (len.den ρ).i.toNat * n) (denVs ρ ts) 0 c0 w (hsub _ _ (hle _ _ g2)) (denVs_good hs.gd ts) (by simpa [denVs] using g3)
                  have hbase := HeapOk.wrote hd hsub hwi hk td tu tss g2 (g4 c1 (by simpa using hwrote)) hw1 hw2 hos
                  have hag : ∀ m, m < s.nx → ρ m = (ρ.set s.nx {}) m := fun m hm => (Env.set_ne ρ _ (by omega)).symm
                  refine ⟨[{}], w', rfl, by simp [U.good, Value.oneCell'], HeapOk.congr hbase (inNx0_all hin1) hag, ?_, fun h => by cases h⟩
                  have hoff0 := isLit_den (ρ := ρ) hoff
                  have hv : SV.den (ρ.set s.nx {}) (.one (.vslice rg (.lit 0) (mkPlus len (.lit 1)) cap n)) = .slice (some ⟨b, 0, none⟩) ((len.den ρ).i.toNat + 1) (cap.den ρ).i.toNat := by
                    simp only [SV.den, T.den, O0.den, O3.den, addrOf]
                    rw [← hag rg hin4, g1, ← T.den_congr hag _ hin2, ← T.den_congr hag _ hin3, mkPlus_den]
                    simp [T.den, O0.den]; omega
                  have hev' : a.eval x = .slice (some ⟨b, 0, none⟩) (len.den ρ).i.toNat (cap.den ρ).i.toNat := by
                    rw [hev]; simp [SV.den, T.den, O3.den, addrOf, g1, hoff0]
                  have hroom' : (len.den ρ).i.toNat + 1 ≤ (cap.den ρ).i.toNat := by omega
                  simp only [Ran, setL, hv]
                  rw [hyv] at hey hcells
                  have hlenOf : ∀ w' : World, (Builtin.lenOf (.slice yb 1 yc)).run P w' = .ok ((1 : Nat) : Int).toNat w' := fun _ => rfl
                  simp [execOp, hop, resolve, invoke, builtin, hargs, htys, hev', hey, Builtin.append_, run_underlying hu, sizeOf, typeInfo, hi, his, Builtin.lenOf, hroom', hcells, Addr.add_lit, hrun]
                · simp at h
              · simp at h
            · simp at h
          · simp at h
        · simp at h
      · simp at h
    · simp at h
  · simp at h
theorem zeroP_each {t : TypeId} {cs : List T} (h : zeroP P t = some cs) (w : World) : ∃ v, (zeroValue t).run P w = .ok v w ∧ v.cells.size = cs.length ∧ ∀ x ∈ v.cells.toList, x.oneCell' = true := by
  obtain ⟨v, h1, h2⟩ := zeroP_run (ρ := fun _ => {}) h w
  refine ⟨v, h1, by rw [h2]; simp [denVs], fun x hx => ?_⟩
  rw [h2] at hx
  exact denVs_good (ρ := fun _ => {}) (fun n => by simp [U.good, Value.oneCell']) cs x (by simpa using hx)

theorem zeroCells_good {z : Array Value} (hz : ∀ x ∈ z.toList, x.oneCell' = true) (n : Nat) : ∀ x ∈ (Builtin.zeroCells z n).toList, x.oneCell' = true := by
  intro x hx
  simp only [Builtin.zeroCells, Array.toList_map, List.mem_map] at hx
  obtain ⟨i, hi, rfl⟩ := hx
  by_cases hlt : i % z.size < z.size
  · rw [getElem!_pos z _ hlt]; exact hz _ (by simp)
  · rw [getElem!_neg z _ hlt]; rfl

theorem step_clear {args : Array Operand} {tys : Array TypeId} {x : Operand} {t : TypeId} {xa : SV} (hs : Holds ρ hF s a w) (hop : o.op = .call { callee := .builtin .clear, args, argTypes := tys }) (hargs : args = #[x]) (htys : tys = #[t])
    (hx : opd s x = some xa) (h : stepClear P s t xa = some r) (hn : ∀ c ∈ r.needs, (c.den ρ).b = true) : StepOk P ρ hF s a w o r := by
  unfold stepClear at h
  split at h
  · rename_i el rg p off len cap hu
    split at h
    · rename_i z n hz hsz
      split at h
      · rename_i hc
        simp only [Bool.and_eq_true, Nat.blt_eq] at hc
        obtain ⟨⟨hzl, hpos⟩, hnp⟩ := hc
        have hzl := Nat.eq_of_beq_eq_true hzl
        have hnp := Nat.eq_of_beq_eq_true hnp
        subst hnp
        split at h
        · rename_i k rr ty pat d capA hat
          split at h
          · rename_i hc2
            simp only [Bool.and_eq_true] at hc2
            obtain ⟨hpl, hin⟩ := hc2
            have hpl := Nat.eq_of_beq_eq_true hpl
            simp only [Option.some.injEq] at h; subst h
            have hev := hs.opd hx
            have hoff := mkLe0_den (hn _ (by simp) : ((mkLe0 off).den ρ).b = true)
            have hlen := mkLe0_den (hn _ (by simp) : ((mkLe0 len).den ρ).b = true)
            have hle := leq_den (hn _ (by simp) : ((mkCmp .leq (mkPlus off len) (mkDlen d)).den ρ).b = true)
            rw [mkPlus_den, mkDlen_den] at hle
            obtain ⟨hk, hreg⟩ := heapAt_spec hat
            simp only [SH.reg, Option.some.injEq] at hreg; subst hreg
            obtain ⟨hO, hd, hst, hsub, hwi⟩ := hs.hp
            obtain ⟨t1, t2, td, tu, tx, tss⟩ := star_take hst hk
            have hag : ∀ m, m < s.nx → ρ m = (ρ.set s.nx {}) m := fun m hm => (Env.set_ne ρ _ (by omega)).symm
            obtain ⟨zv, hz1, hz2, hz3⟩ := zeroP_each hz w
            have htake0 : ((T.dtake d (mkIfe len (.lit 0) (mkDlen d) off)).den ρ).d = (d.den ρ).d.take ((mkIfe len (.lit 0) (mkDlen d) off).den ρ).i.toNat := rfl
            have hife : ((mkIfe len (.lit 0) (mkDlen d) off).den ρ).i = if (len.den ρ).i = 0 then ((d.den ρ).d.length : Int) else (off.den ρ).i := by rw [mkIfe_den, mkDlen_den]; rfl
            by_cases hempty : (len.den ρ).i.toNat = 0
            · -- nothing is written
              have htake : ((T.dtake d (mkIfe len (.lit 0) (mkDlen d) off)).den ρ).d = (d.den ρ).d := by
                rw [htake0, hife, if_pos (by omega)]; simp
              have hx' : SH.den ρ (.arr rr ty pat (.dtake d (mkIfe len (.lit 0) (mkDlen d) off)) capA) t1 := by
                rcases tx with ⟨h1, h2, h3⟩ | ⟨b, c, h1, h2, h3, h4, h5⟩
                · exact .inl ⟨h1, by rw [htake, h2], h3⟩
                · exact .inr ⟨b, c, h1, h2, h3, by rw [htake]; exact h4, by rw [htake]; exact h5⟩
              refine ⟨[{}], w, rfl, by simp [U.good, Value.oneCell'], HeapOk.congr ⟨hO, hd, by rw [tu]; exact star_set hk tss td hx', hsub, hwi⟩ (inNx0_all hin) hag, ?_, fun h => by cases h⟩
              have hev' : a.eval x = .slice (addrOf (ρ rr).r ((off.den ρ).i.toNat * n)) 0 (cap.den ρ).i.toNat := by
                rw [hev]; simp [SV.den, T.den, O3.den, hempty]
              simp only [Ran, setL, SV.den, List.map_nil]
              cases hadr : addrOf (ρ rr).r ((off.den ρ).i.toNat * n) <;> simp [execOp, hop, resolve, invoke, builtin, hargs, htys, hev', hadr, Builtin.clear_, run_underlying hu]
            · have htake : ((T.dtake d (mkIfe len (.lit 0) (mkDlen d) off)).den ρ).d = (d.den ρ).d.take (off.den ρ).i.toNat := by
                rw [htake0, hife, if_neg (by omega)]
              rcases tx with ⟨h1, h2, h3⟩ | ⟨b, c, h1, h2, h3, h4, h5⟩
              · rw [h2] at hle; simp at hle; omega
              · have hw : w.heap[b]? = some (.cells c ty (0, 0)) := hsub b _ (Hp.le_right hd _ _ (tu ▸ Hp.le_left t1 t2 _ _ h2))
                have hzc : (Builtin.zeroCells zv.cells (len.den ρ).i.toNat).toList.length = (len.den ρ).i.toNat * n := by
                  rw [Array.length_toList, size_zeroCells, hz2, hzl]
                have hsz2 : (off.den ρ).i.toNat * n + (len.den ρ).i.toNat * n ≤ c.size := by
                  rw [h3, hpl, ← Nat.add_mul]
                  exact Nat.mul_le_mul_right _ (by omega)
                obtain ⟨w', c1, hrun, hw1, hw2, ⟨hws, hwg⟩, hos⟩ := run_storeCells (P := P) (b := b) (off := (off.den ρ).i.toNat * n) (Builtin.zeroCells zv.cells (len.den ρ).i.toNat).toList 0 c w hw (zeroCells_good hz3 _) (by rw [hzc]; simpa using hsz2)
                have hx' : SH.den ρ (.arr rr ty pat (.dtake d (mkIfe len (.lit 0) (mkDlen d) off)) capA) (Hp.upd t1 b (.cells c1 ty (0, 0))) := by
                  refine .inr ⟨b, c1, h1, by simp [Hp.upd], by rw [hws]; exact h3, ?_, fun i row hi => ?_⟩
                  · rw [htake, List.length_take]; omega
                  · rw [htake, List.getElem?_take] at hi
                    split at hi
                    · rename_i hlt
                      obtain ⟨g1, g2⟩ := h5 i row hi
                      refine ⟨g1, fun kk v hv => ?_⟩
                      rw [hwg, if_neg]
                      · exact g2 kk v hv
                      · have hkl : kk < pat.length := by
                          rw [← g1.1]; exact (List.getElem?_eq_some_iff.1 hv).1
                        have : (i + 1) * pat.length ≤ (off.den ρ).i.toNat * pat.length := Nat.mul_le_mul_right _ hlt
                        rw [Nat.add_mul] at this
                        rw [hpl] at this hkl ⊢
                        omega
                    · cases hi
                refine ⟨[{}], w', rfl, by simp [U.good, Value.oneCell'], HeapOk.congr (HeapOk.wrote hd hsub hwi hk td tu tss h2 hx' hw1 hw2 hos) (inNx0_all hin) hag, ?_, fun h => by cases h⟩
                obtain ⟨m, hm⟩ : ∃ m, (len.den ρ).i.toNat = m + 1 := ⟨(len.den ρ).i.toNat - 1, by omega⟩
                have hev' : a.eval x = .slice (some ⟨b, (off.den ρ).i.toNat * n, none⟩) (m + 1) (cap.den ρ).i.toNat := by
                  rw [hev]; simp [SV.den, T.den, O3.den, hm, h1, addrOf]
                rw [hm] at hrun
                simp only [Ran, setL, SV.den, List.map_nil]
                simp [execOp, hop, resolve, invoke, builtin, hargs, htys, hev', Builtin.clear_, run_underlying hu, hz1, hrun]
          · simp at h
        · simp at h
      · simp at h
    · simp at h
  · simp at h

theorem flat_one {d : List (List Value)} {pat : List CK} (hp : pat.length = 1) (h : ∀ row ∈ d, fitsRow pat row) : (flat d).length = d.length ∧ ∀ i : Nat, (flat d)[i]? = (d[i]?).bind (·[0]?) := by
  induction d with
  | nil => exact ⟨rfl, fun i => by simp [flat]⟩
  | cons row d ih =>
    have hr := (h row (List.mem_cons_self ..)).1
    rw [hp] at hr
    obtain ⟨v, rfl⟩ : ∃ v, row = [v] := List.length_eq_one_iff.1 hr
    obtain ⟨i1, i2⟩ := ih fun r hr => h r (List.mem_cons_of_mem _ hr)
    simp only [flat, List.flatten_cons] at i1 i2 ⊢
    refine ⟨by simp [i1], fun i => ?_⟩
    cases i with
    | zero => rfl
    | succ i => simpa using i2 i
theorem spliceD_len {d x : List (List Value)} {k : Nat} (h : k + x.length ≤ d.length) : (spliceD d k x).length = d.length := by
  simp [spliceD]; omega
theorem spliceD_get {d x : List (List Value)} {k : Nat} (h : k + x.length ≤ d.length) (i : Nat) : (spliceD d k x)[i]? = if i < k then d[i]? else if i < k + x.length then x[i - k]? else d[i]? := by
  unfold spliceD
  by_cases h1 : i < k
  · rw [if_pos h1, List.append_assoc, List.getElem?_append_left (by simp; omega), List.getElem?_take_of_lt h1]
  · rw [if_neg h1]
    by_cases h2 : i < k + x.length
    · rw [if_pos h2, List.append_assoc, List.getElem?_append_right (by simp; omega)]
      simp only [List.length_take]
      rw [Nat.min_eq_left (by omega), List.getElem?_append_left (by omega)]
    · rw [if_neg h2, List.append_assoc, List.getElem?_append_right (by simp; omega)]
      simp only [List.length_take]
      rw [Nat.min_eq_left (by omega), List.getElem?_append_right (by omega), List.getElem?_drop]
      congr 1; omega
/-- What a copy leaves. -/
theorem rowsAt_splice {c0 c1 : Array Value} {pat : List CK} {d x : List (List Value)} {k : Nat} (hp : pat.length = 1) (h : rowsAt c0 0 pat d) (hx : ∀ row ∈ x, fitsRow pat row) (hk : k + x.length ≤ d.length)
    (hw : Wrote c0 c1 k (flat x)) : rowsAt c1 0 pat (spliceD d k x) := by
  obtain ⟨f1, f2⟩ := flat_one hp hx
  intro i row hi
  rw [spliceD_get hk] at hi
  have hw2 := hw.2
  have old : d[i]? = some row → ¬ (k ≤ i ∧ i < k + x.length) → fitsRow pat row ∧ ∀ (j : Nat) (v : Value), row[j]? = some v → c1[0 + i * pat.length + j]? = some v := fun hi hne => by
    obtain ⟨g1, g2⟩ := h i row hi
    refine ⟨g1, fun j v hv => ?_⟩
    have hj : j < 1 := by rw [← hp, ← g1.1]; exact (List.getElem?_eq_some_iff.1 hv).1
    rw [hw2, f1, if_neg (by rw [hp]; omega)]
    exact g2 j v hv
  split at hi
  · exact old hi (by omega)
  · split at hi
    · have hfit := hx row (List.mem_of_getElem? hi)
      refine ⟨hfit, fun j v hv => ?_⟩
      have hj : j < 1 := by rw [← hp, ← hfit.1]; exact (List.getElem?_eq_some_iff.1 hv).1
      have hj0 : j = 0 := by omega
      subst hj0
      rw [hw2, f1, hp, if_pos (by omega), show 0 + i * 1 + 0 - k = i - k by omega, f2, hi]
      exact hv
    · exact old hi (by omega)
theorem step_copy {t t2 : TypeId} {xa ya : SV} {args : Array Operand} {tys : Array TypeId} {x y : Operand} (hs : Holds ρ hF s a w) (hop : o.op = .call { callee := .builtin .copy, args := args, argTypes := tys }) (hargs : args = #[x, y]) (htys : tys = #[t, t2])
    (hx : opd s x = some xa) (hy : opd s y = some ya) (h : stepCopy P s t xa ya = some r) (hn : ∀ c ∈ r.needs, (c.den ρ).b = true) : StepOk P ρ hF s a w o r := by
  unfold stepCopy at h
  split at h
  · rename_i el rg p off len cap hu
    split at h
    · rename_i z n hz hsz
      split at h
      · rename_i hc
        simp only [Bool.and_eq_true] at hc
        have c1 := Nat.eq_of_beq_eq_true hc.1.1
        have c2 := Nat.eq_of_beq_eq_true hc.1.2
        have c3 := Nat.eq_of_beq_eq_true hc.2
        subst c3; subst c2
        split at h
        · rename_i k rr ty pat d capA src hat hsrc
          split at h
          · rename_i hin
            simp only [Bool.and_eq_true, decide_eq_true_eq] at hin
            obtain ⟨⟨hpat, hin1⟩, hin2⟩ := hin
            simp only [Option.some.injEq] at h; subst h
            subst hpat
            have hpl : (z.map kindOf).length = 1 := by simp [c1]
            have hev := hs.opd hx
            have hey := hs.opd hy
            simp only [List.cons_append, List.nil_append, List.mem_cons, forall_eq_or_imp] at hn
            obtain ⟨n1, n2, n3, n4⟩ := hn
            have o0 := mkLe0_den n1
            have l0 := mkLe0_den n2
            have hfit := leq_den n3
            rw [mkPlus_den, mkDlen_den] at hfit
            obtain ⟨hs0, hS⟩ := srcOf_sound (P := P) (by omega) hs hsrc n4
            obtain ⟨yb, yc, hyv⟩ := hS.shape
            have hcells := hS.cells w.heap w.drawn rfl
            rw [hyv] at hey hcells
            have hag : ∀ m, m < s.nx → ρ m = (ρ.set s.nx {}) m := fun m hm => (Env.set_ne ρ _ (by omega)).symm
            -- how many go over, and which
            obtain ⟨X, hX, hXl, hXt, hm⟩ : ∃ X, ((copyX len src).den ρ).d = X ∧ X.length = Nat.min (src.len.den ρ).i.toNat (len.den ρ).i.toNat ∧
                X = (src.d.den ρ).d.take X.length ∧ ((copyM len src).den ρ).i = (X.length : Int) := by
              have hmx : ∀ a b : Nat, Nat.min a b = min a b := fun _ _ => rfl
              by_cases hsame : len.same src.len = true
              · have he := T.same_eq hsame
                refine ⟨(src.d.den ρ).d, by simp only [copyX, hsame, if_true], by rw [hS.len, he]; exact (Nat.min_self _).symm, by rw [List.take_length], ?_⟩
                simp only [copyM, hsame, if_true]; rw [hS.len, he]; omega
              · have hmin : (T.den ρ (.imin len src.len)).i.toNat = Nat.min (src.len.den ρ).i.toNat (len.den ρ).i.toNat := by
                  simp only [T.den, O2.den]
                  rw [hmx]; split <;> omega
                have hl : ((src.d.den ρ).d.take (T.den ρ (.imin len src.len)).i.toNat).length = Nat.min (src.len.den ρ).i.toNat (len.den ρ).i.toNat := by
                  rw [List.length_take, hmin, hS.len, hmx]; omega
                have hns : len.same src.len = false := by simpa using hsame
                refine ⟨(src.d.den ρ).d.take (T.den ρ (.imin len src.len)).i.toNat, by simp only [copyX, hns, Bool.false_eq_true, if_false]; rfl, hl, by rw [hl, hmin], ?_⟩
                simp only [copyM, hns, Bool.false_eq_true, if_false]
                rw [hl, ← hmin]
                have : 0 ≤ (T.den ρ (.imin len src.len)).i := by simp only [T.den, O2.den]; split <;> omega
                omega
            have hXfit : ∀ row ∈ X, fitsRow (z.map kindOf) row := fun row hr => hS.fits row (by rw [hXt] at hr; exact List.mem_of_mem_take hr)
            obtain ⟨hk, hreg⟩ := heapAt_spec hat
            simp only [SH.reg, Option.some.injEq] at hreg; subst hreg
            obtain ⟨hO, hd, hst, hsub, hwi⟩ := hs.hp
            obtain ⟨t1, t2', td, tu, tx, tss⟩ := star_take hst hk
            have hXle : (off.den ρ).i.toNat + X.length ≤ (d.den ρ).d.length := by
              have : X.length ≤ (len.den ρ).i.toNat := by rw [hXl]; exact Nat.min_le_right _ _
              omega
            have hdn : (T.den ρ (.c3 .dsplice d off (copyX len src))).d = spliceD (d.den ρ).d (off.den ρ).i.toNat X := by
              rw [← hX]; rfl
            have hsz1 : (P.info? el).map (·.size) = some 1 := by
              obtain ⟨i, hi, his⟩ := sizeP_info hsz
              rw [hi]; simp [his]
            have hret : SV.den (ρ.set s.nx {}) (.one (.vint .i64 (copyM len src))) = .int .i64 (X.length : Int) := by
              simp only [SV.den, T.den, O1.den]
              rw [← T.den_congr hag _ hin2, hm]
            by_cases h0 : X.length = 0
            · have hXn : X = [] := List.eq_nil_of_length_eq_zero h0
              have hdd : spliceD (d.den ρ).d (off.den ρ).i.toNat X = (d.den ρ).d := by rw [hXn]; simp [spliceD]
              have hx' : SH.den ρ (.arr rr ty (z.map kindOf) (.c3 .dsplice d off (copyX len src)) capA) t1 := by
                simp only [SH.den, hdn, hdd] at tx ⊢
                exact tx
              refine ⟨[{}], w, rfl, by simp [U.good, Value.oneCell'], HeapOk.congr ⟨hO, hd, by rw [tu]; exact star_set hk tss td hx', hsub, hwi⟩ (inNx0_all hin1) hag, ?_, fun h => by cases h⟩
              simp only [Ran, setL, hret, h0]
              have hrun := run_copy_none (P := P) w t t2 o.type el (addrOf (ρ rr).r (off.den ρ).i.toNat) yb (len.den ρ).i.toNat (cap.den ρ).i.toNat (src.len.den ρ).i.toNat yc hu hsz1 (by rw [← hXl, h0])
              have hev' : a.eval x = .slice (addrOf (ρ rr).r (off.den ρ).i.toNat) (len.den ρ).i.toNat (cap.den ρ).i.toNat := by rw [hev]; simp [SV.den, T.den, O3.den]
              simp [execOp, hop, resolve, invoke, builtin, hargs, htys, hev', hey, hrun, goInt]
            · -- both are there
              rcases tx with ⟨_, hd0, _⟩ | ⟨b, c0, g1, g2, g3, g4, g5⟩
              · rw [hd0, List.length_nil] at hXle; omega
              have hM : X.length ≤ (src.len.den ρ).i.toNat := by rw [hXl]; exact Nat.min_le_left _ _
              have hsl := flat_one hpl hS.fits
              cases yb with
              | none =>
                exfalso
                have hfl0 : flat (src.d.den ρ).d = [] := by
                  simp [Builtin.firstCells] at hcells
                  first | exact hcells | exact hcells.symm
                have := hsl.1
                rw [hfl0, hS.len, List.length_nil] at this
                omega
              | some ad =>
                have hfX := flat_one hpl hXfit
                have hsrcc : ∀ j v, (flat X)[j]? = some v → w.cell? (ad.add j) = some v := fun j v hv => by
                  refine hS.read ad yc hyv j v ?_
                  rw [← hv, hsl.2, hfX.2, hXt, List.getElem?_take]
                  have : j < X.length := by rw [← hfX.1]; exact (List.getElem?_eq_some_iff.1 hv).1
                  simp [this]
                have hle : Hp.le t1 (Hp.union hF hO) := Hp.le_trans (tu ▸ Hp.le_left t1 t2') (Hp.le_right hd)
                have hwb := hsub _ _ (hle _ _ g2)
                have hc0 : (d.den ρ).d.length ≤ c0.size := by rw [g3, hpl]; omega
                have hgoodX : ∀ v ∈ flat X, v.oneCell' = true := fun v hv => by
                  have hg := T.den_good hs.gd (copyX len src)
                  rw [U.good, hX] at hg
                  obtain ⟨row, hr, hv⟩ := List.mem_flatten.1 hv
                  exact hg.2 row hr v hv
                have hrun := run_copy_row (P := P) w t t2 o.type el b (off.den ρ).i.toNat (len.den ρ).i.toNat (cap.den ρ).i.toNat ad (src.len.den ρ).i.toNat yc c0 ty (flat X) hu hsz1 hwb (by rw [hfX.1, hXl]) hsrcc (by rw [hfX.1]; omega) hgoodX
                have hwr : Wrote c0 (c0.toList.take (off.den ρ).i.toNat ++ flat X ++ c0.toList.drop ((off.den ρ).i.toNat + (flat X).length)).toArray (off.den ρ).i.toNat (flat X) := by
                  have hb : (off.den ρ).i.toNat + (flat X).length ≤ c0.size := by rw [hfX.1]; omega
                  refine ⟨by simp; omega, fun j => ?_⟩
                  have := splice_get (row := c0.toList) (c := (off.den ρ).i.toNat) (vs := flat X) (by simpa using hb) j
                  simp only [splice] at this
                  rw [List.getElem?_toArray, this]
                  simp
                generalize hc1 : (c0.toList.take (off.den ρ).i.toNat ++ flat X ++ c0.toList.drop ((off.den ρ).i.toNat + (flat X).length)).toArray = c1 at hrun hwr
                have hset : (w.setRow b c1).heap[b]? = some (.cells c1 ty (0, 0)) := setRow_heap w b c0 _ ty (0, 0) hwb
                have hoth : ∀ b', b' ≠ b → (w.setRow b c1).heap[b']? = w.heap[b']? := fun b' hne => by
                  simp only [World.setRow, Array.getElem?_modify]
                  rw [if_neg (fun h => hne h.symm)]
                have hx' : SH.den ρ (.arr rr ty (z.map kindOf) (.c3 .dsplice d off (copyX len src)) capA) (Hp.upd t1 b (.cells c1 ty (0, 0))) := by
                  refine .inr ⟨b, c1, g1, by simp [Hp.upd], by rw [hwr.1, g3], ?_, ?_⟩
                  · rw [hdn, spliceD_len hXle]; exact g4
                  · rw [hdn]; exact rowsAt_splice hpl g5 hXfit hXle hwr
                have hbase := HeapOk.wrote hd hsub hwi hk td tu tss g2 hx' hset hoth ⟨rfl, rfl⟩
                refine ⟨[{}], _, rfl, by simp [U.good, Value.oneCell'], HeapOk.congr hbase (inNx0_all hin1) hag, ?_, fun h => by cases h⟩
                simp only [Ran, setL, hret]
                have hev' : a.eval x = .slice (some ⟨b, (off.den ρ).i.toNat, none⟩) (len.den ρ).i.toNat (cap.den ρ).i.toNat := by rw [hev]; simp [SV.den, T.den, O3.den, g1, addrOf]
                rw [hfX.1] at hrun
                simp [execOp, hop, resolve, invoke, builtin, hargs, htys, hev', hey, hrun, goInt, hfX.1]
          · simp at h
        · simp at h
      · simp at h
    · simp at h
  · simp at h

theorem copyMX {hs : Holds ρ hF s a w} {len : T} {src : Src} {pat : List CK} {v : Value} (l0 : 0 ≤ (len.den ρ).i) (hs0 : 0 ≤ (src.len.den ρ).i) (hS : SrcOk (P := P) w pat v (src.d.den ρ).d (src.len.den ρ).i.toNat) :
    ∃ X, ((copyX len src).den ρ).d = X ∧ X.length = Nat.min (src.len.den ρ).i.toNat (len.den ρ).i.toNat ∧ X = (src.d.den ρ).d.take X.length ∧ ((copyM len src).den ρ).i = (X.length : Int) := by
  have hmx : ∀ a b : Nat, Nat.min a b = min a b := fun _ _ => rfl
  by_cases hsame : len.same src.len = true
  · have he := T.same_eq hsame
    refine ⟨(src.d.den ρ).d, by simp only [copyX, hsame, if_true], by rw [hS.len, he]; exact (Nat.min_self _).symm, by rw [List.take_length], ?_⟩
    simp only [copyM, hsame, if_true]; rw [hS.len, he]; omega
  · have hmin : (T.den ρ (.imin len src.len)).i.toNat = Nat.min (src.len.den ρ).i.toNat (len.den ρ).i.toNat := by
      simp only [T.den, O2.den]
      rw [hmx]; split <;> omega
    have hl : ((src.d.den ρ).d.take (T.den ρ (.imin len src.len)).i.toNat).length = Nat.min (src.len.den ρ).i.toNat (len.den ρ).i.toNat := by
      rw [List.length_take, hmin, hS.len, hmx]; omega
    have hns : len.same src.len = false := by simpa using hsame
    refine ⟨(src.d.den ρ).d.take (T.den ρ (.imin len src.len)).i.toNat, by simp only [copyX, hns, Bool.false_eq_true, if_false]; rfl, hl, by rw [hl, hmin], ?_⟩
    simp only [copyM, hns, Bool.false_eq_true, if_false]
    rw [hl, ← hmin]
    have : 0 ≤ (T.den ρ (.imin len src.len)).i := by simp only [T.den, O2.den]; split <;> omega
    omega
/-- What a copy into a row leaves. -/
theorem rowsAt_xcopy {c0 c1 : Array Value} {pat : List CK} {d x : List (List Value)} {k : Nat} {ck : CK} (h : rowsAt c0 0 pat d) (hx : ∀ row ∈ x, fitsRow [ck] row) (hk : k + x.length ≤ pat.length) (hp : ∀ i, i < x.length → pat[k + i]? = some ck)
    (hw : Wrote c0 c1 k (flat x)) : rowsAt c1 0 pat (xcopyD d k x) := by
  obtain ⟨f1, f2⟩ := flat_one (pat := [ck]) rfl hx
  have hw2 := hw.2
  cases d with
  | nil => intro i row hi; simp [xcopyD] at hi
  | cons row0 rest =>
    obtain ⟨⟨hl0, hf0⟩, hc0⟩ := h 0 row0 rfl
    have hml : (x.map fun r => r.headD .nilFunc).length = x.length := List.length_map ..
    have hmg : ∀ i, i < x.length → (x.map fun r => r.headD .nilFunc)[i]? = (flat x)[i]? := fun i hi => by
      rw [f2, List.getElem?_map, List.getElem?_eq_getElem hi]
      have hr := (hx _ (List.getElem_mem hi)).1
      match hx1 : x[i], hr with
      | [v], _ => simp
    intro i row hi
    match i, hi with
    | 0, hi =>
      simp only [xcopyD, List.getElem?_cons_zero, Option.some.injEq] at hi
      subst hi
      have hsl : (splice row0 k (x.map fun r => r.headD .nilFunc)).length = row0.length := by simp [splice]; omega
      have hget := splice_get (row := row0) (c := k) (vs := x.map fun r => r.headD .nilFunc) (by rw [hml]; omega)
      refine ⟨⟨by rw [hsl, hl0], fun q kq v h1 h2 => ?_⟩, fun q v hv => ?_⟩
      · rw [hget q] at h2
        split at h2
        · rename_i hin
          rw [hml] at hin
          rw [hmg _ (by omega), f2] at h2
          have hpq := hp (q - k) (by omega)
          rw [show k + (q - k) = q by omega, h1] at hpq
          simp only [Option.some.injEq] at hpq
          subst hpq
          simp only [Option.bind_eq_some_iff] at h2
          obtain ⟨r, hr, hv⟩ := h2
          exact (hx r (List.mem_of_getElem? hr)).2 0 kq v rfl hv
        · exact hf0 q kq v h1 h2
      · rw [hget q] at hv
        rw [show 0 + 0 * pat.length + q = q by omega, hw2]
        split at hv
        · rename_i hin
          rw [hml] at hin
          rw [if_pos (by rw [f1]; omega), ← hmg _ (by omega)]
          exact hv
        · rename_i hin
          rw [hml] at hin
          rw [if_neg (by rw [f1]; omega)]
          have := hc0 q v hv
          rwa [show 0 + 0 * pat.length + q = q by omega] at this
    | i + 1, hi =>
      have hi' : (row0 :: rest)[i + 1]? = some row := hi
      obtain ⟨g1, g2⟩ := h (i + 1) row hi'
      refine ⟨g1, fun q v hv => ?_⟩
      have hge : pat.length ≤ (i + 1) * pat.length := by
        have := Nat.mul_le_mul_right pat.length (show 1 ≤ i + 1 by omega)
        omega
      rw [hw2, if_neg (by rw [f1]; omega)]
      exact g2 q v hv
theorem xcopyD_len {d x : List (List Value)} {k : Nat} : (xcopyD d k x).length = d.length := by cases d <;> rfl
/-- The row that a region is, as it is owned. -/
theorem rowOf_own (hg : ρ.good) {y : SH} {pat : List CK} {d : T} {r : Nat} {ty : TypeId} {cap : T} {H : Hp} (h : rowOf y = some (pat, d)) (hr : y.reg = some r) (hy : (∃ cs, y = .cells r ty cs ∧ cap = .lit 1) ∨ y = .arr r ty pat d cap) (hro : y.den ρ H) (hd : 0 < (d.den ρ).d.length) :
    ∃ b c, (ρ r).r = some ⟨b, 0, none⟩ ∧ H b = some (.cells c ty (0, 0)) ∧ c.size = (cap.den ρ).i.toNat * pat.length ∧ ((d.den ρ).d.length : Int) ≤ (cap.den ρ).i ∧ rowsAt c 0 pat (d.den ρ).d := by
  rcases hy with ⟨cs, rfl, rfl⟩ | rfl
  · simp only [rowOf, Option.some.injEq, Prod.mk.injEq] at h
    obtain ⟨rfl, rfl⟩ := h
    obtain ⟨b, h1, h2⟩ := hro
    refine ⟨b, _, h1, h2, by simp [T.den, O0.den, denVs], by rw [row_full]; simp [T.den, O0.den], fun i row hi => ?_⟩
    rw [row_full] at hi
    match i, hi with
    | 0, hi =>
      simp only [List.getElem?_cons_zero, Option.some.injEq] at hi
      subst hi
      exact ⟨zero_fits hg cs, fun k v hv => by simpa using hv⟩
    | i + 1, hi => simp at hi
  · rcases hro with ⟨_, h2, _⟩ | hro
    · rw [h2] at hd; simp at hd
    · exact hro
theorem step_copyRow {t t2 : TypeId} {args : Array Operand} {tys : Array TypeId} {x y : Operand} {el ty : TypeId} {rr : Nat} {off len cap capA d l : T} {kk : IntKind} {k zz : Nat} {pat : List CK} {src : Src} {ns : List T} {ya : SV} {xh : SH} (hs : Holds ρ hF s a w) (hop : o.op = .call { callee := .builtin .copy, args := args, argTypes := tys }) (hargs : args = #[x, y]) (htys : tys = #[t, t2])
    (hx : opd s x = some (.one (.c3 (.vslice rr 1) off len cap))) (hy : opd s y = some ya) (hu : P.underlying t = some (.slice el)) (hsz : sizeP P el = some 1) (hat : heapAt rr s.heap = some (k, xh)) (hsrc : srcOf s [.int kk] ya = some src) (hoff : rowOff off = some (zz, l, ns))
    (hrow : rowOf xh = some (pat, d)) (hxh : (∃ cs, xh = .cells rr ty cs ∧ capA = .lit 1) ∨ xh = .arr rr ty pat d capA) (hzp : zz ≤ pat.length)
    (hin1 : (s.heap.set k (.arr rr ty pat (.c3 .xcopy d off (copyX len src)) capA)).all (SH.inNx0 s.nx) = true) (hin2 : (copyM len src).inB s.nx = true)
    (hr : r = { needs := rowNeeds (.int kk) pat zz l len d ns ++ src.needs, fresh := 1, heap := s.heap.set k (.arr rr ty pat (.c3 .xcopy d off (copyX len src)) capA), val := some (.one (.vint .i64 (copyM len src))) })
    (hn : ∀ c ∈ r.needs, (c.den ρ).b = true) : StepOk P ρ hF s a w o r := by
  subst hr
  have hev := hs.opd hx
  have hey := hs.opd hy
  have hnA : ∀ c ∈ rowNeeds (.int kk) pat zz l len d ns, (c.den ρ).b = true := fun c hc => hn c (List.mem_append_left _ hc)
  have n4 : ∀ c ∈ src.needs, (c.den ρ).b = true := fun c hc => hn c (List.mem_append_right _ hc)
  obtain ⟨o0, l0, hdl, hfit, hpk⟩ := rowNeeds_den hzp hoff hnA
  obtain ⟨hs0, hS⟩ := srcOf_sound (P := P) (pat := [.int kk]) (by simp) hs hsrc n4
  obtain ⟨yb, yc, hyv⟩ := hS.shape
  have hcells := hS.cells w.heap w.drawn rfl
  rw [hyv] at hey hcells
  have hag : ∀ m, m < s.nx → ρ m = (ρ.set s.nx {}) m := fun m hm => (Env.set_ne ρ _ (by omega)).symm
  obtain ⟨X, hX, hXl, hXt, hm⟩ := copyMX (hs := hs) l0 hs0 hS
  have hXfit : ∀ row ∈ X, fitsRow [.int kk] row := fun row hr => hS.fits row (by rw [hXt] at hr; exact List.mem_of_mem_take hr)
  obtain ⟨hk, hreg⟩ := heapAt_spec hat
  obtain ⟨hO, hd, hst, hsub, hwi⟩ := hs.hp
  obtain ⟨t1, t2', td, tu, tx, tss⟩ := star_take hst hk
  obtain ⟨b, c0, g1, g2, g3, g4, g5⟩ := rowOf_own hs.gd hrow hreg hxh tx hdl
  have hXL : X.length ≤ (len.den ρ).i.toNat := by rw [hXl]; exact Nat.min_le_right _ _
  have hdn : (T.den ρ (.c3 .xcopy d off (copyX len src))).d = xcopyD (d.den ρ).d (off.den ρ).i.toNat X := by
    rw [← hX]; rfl
  have hsz1 : (P.info? el).map (·.size) = some 1 := by
    obtain ⟨i, hi, his⟩ := sizeP_info hsz
    rw [hi]; simp [his]
  have hret : SV.den (ρ.set s.nx {}) (.one (.vint .i64 (copyM len src))) = .int .i64 (X.length : Int) := by
    simp only [SV.den, T.den, O1.den]
    rw [← T.den_congr hag _ hin2, hm]
  have hle : Hp.le t1 (Hp.union hF hO) := Hp.le_trans (tu ▸ Hp.le_left t1 t2') (Hp.le_right hd)
  have hwb := hsub _ _ (hle _ _ g2)
  by_cases h0 : X.length = 0
  · have hXn : X = [] := List.eq_nil_of_length_eq_zero h0
    have hdd : xcopyD (d.den ρ).d (off.den ρ).i.toNat X = (d.den ρ).d := by
      rw [hXn]
      cases (d.den ρ).d with
      | nil => rfl
      | cons r0 rest => simp [xcopyD, splice]
    have hx' : SH.den ρ (.arr rr ty pat (.c3 .xcopy d off (copyX len src)) capA) t1 := by
      refine .inr ⟨b, c0, g1, g2, g3, ?_, ?_⟩
      · rw [hdn, hdd]; exact g4
      · rw [hdn, hdd]; exact g5
    refine ⟨[{}], w, rfl, by simp [U.good, Value.oneCell'], HeapOk.congr ⟨hO, hd, by rw [tu]; exact star_set hk tss td hx', hsub, hwi⟩ (inNx0_all hin1) hag, ?_, fun h => by cases h⟩
    simp only [Ran, setL, hret, h0]
    have hrun := run_copy_none (P := P) w t t2 o.type el (addrOf (ρ rr).r (off.den ρ).i.toNat) yb (len.den ρ).i.toNat (cap.den ρ).i.toNat (src.len.den ρ).i.toNat yc hu hsz1 (by rw [← hXl, h0])
    have hev' : a.eval x = .slice (addrOf (ρ rr).r (off.den ρ).i.toNat) (len.den ρ).i.toNat (cap.den ρ).i.toNat := by rw [hev]; simp [SV.den, T.den, O3.den]
    simp [execOp, hop, resolve, invoke, builtin, hargs, htys, hev', hey, hrun, goInt]
  · have hM : X.length ≤ (src.len.den ρ).i.toNat := by rw [hXl]; exact Nat.min_le_left _ _
    have hsl := flat_one (pat := [CK.int kk]) rfl hS.fits
    cases yb with
    | none =>
      exfalso
      have hfl0 : flat (src.d.den ρ).d = [] := by
        simp [Builtin.firstCells] at hcells
        first | exact hcells | exact hcells.symm
      have := hsl.1
      rw [hfl0, hS.len, List.length_nil] at this
      omega
    | some ad =>
      have hfX := flat_one (pat := [CK.int kk]) rfl hXfit
      have hsrcc : ∀ j v, (flat X)[j]? = some v → w.cell? (ad.add j) = some v := fun j v hv => by
        refine hS.read ad yc hyv j v ?_
        rw [← hv, hsl.2, hfX.2, hXt, List.getElem?_take]
        have : j < X.length := by rw [← hfX.1]; exact (List.getElem?_eq_some_iff.1 hv).1
        simp [this]
      have hc0 : pat.length ≤ c0.size := by
        rw [g3]
        have h1 : 1 ≤ (capA.den ρ).i.toNat := by omega
        have := Nat.mul_le_mul_right pat.length h1
        omega
      have hgoodX : ∀ v ∈ flat X, v.oneCell' = true := fun v hv => by
        have hg := T.den_good hs.gd (copyX len src)
        rw [U.good, hX] at hg
        obtain ⟨row, hr, hv⟩ := List.mem_flatten.1 hv
        exact hg.2 row hr v hv
      have hrun := run_copy_row (P := P) w t t2 o.type el b (off.den ρ).i.toNat (len.den ρ).i.toNat (cap.den ρ).i.toNat ad (src.len.den ρ).i.toNat yc c0 ty (flat X) hu hsz1 hwb (by rw [hfX.1, hXl]) hsrcc (by rw [hfX.1]; omega) hgoodX
      have hwr : Wrote c0 (c0.toList.take (off.den ρ).i.toNat ++ flat X ++ c0.toList.drop ((off.den ρ).i.toNat + (flat X).length)).toArray (off.den ρ).i.toNat (flat X) := by
        have hb : (off.den ρ).i.toNat + (flat X).length ≤ c0.size := by rw [hfX.1]; omega
        refine ⟨by simp; omega, fun j => ?_⟩
        have := splice_get (row := c0.toList) (c := (off.den ρ).i.toNat) (vs := flat X) (by simpa using hb) j
        simp only [splice] at this
        rw [List.getElem?_toArray, this]
        simp
      generalize hc1 : (c0.toList.take (off.den ρ).i.toNat ++ flat X ++ c0.toList.drop ((off.den ρ).i.toNat + (flat X).length)).toArray = c1 at hrun hwr
      have hset : (w.setRow b c1).heap[b]? = some (.cells c1 ty (0, 0)) := setRow_heap w b c0 _ ty (0, 0) hwb
      have hoth : ∀ b', b' ≠ b → (w.setRow b c1).heap[b']? = w.heap[b']? := fun b' hne => by
        simp only [World.setRow, Array.getElem?_modify]
        rw [if_neg (fun h => hne h.symm)]
      have hx' : SH.den ρ (.arr rr ty pat (.c3 .xcopy d off (copyX len src)) capA) (Hp.upd t1 b (.cells c1 ty (0, 0))) := by
        refine .inr ⟨b, c1, g1, by simp [Hp.upd], by rw [hwr.1, g3], ?_, ?_⟩
        · rw [hdn, xcopyD_len]; exact g4
        · rw [hdn]; exact rowsAt_xcopy g5 hXfit (by omega) (fun i hi => hpk i (by omega)) hwr
      have hbase := HeapOk.wrote hd hsub hwi hk td tu tss g2 hx' hset hoth ⟨rfl, rfl⟩
      refine ⟨[{}], _, rfl, by simp [U.good, Value.oneCell'], HeapOk.congr hbase (inNx0_all hin1) hag, ?_, fun h => by cases h⟩
      simp only [Ran, setL, hret]
      have hev' : a.eval x = .slice (some ⟨b, (off.den ρ).i.toNat, none⟩) (len.den ρ).i.toNat (cap.den ρ).i.toNat := by rw [hev]; simp [SV.den, T.den, O3.den, g1, addrOf]
      rw [hfX.1] at hrun
      simp [execOp, hop, resolve, invoke, builtin, hargs, htys, hev', hey, hrun, goInt, hfX.1]
theorem step_copyR {t t2 : TypeId} {xa ya : SV} {args : Array Operand} {tys : Array TypeId} {x y : Operand} (hs : Holds ρ hF s a w) (hop : o.op = .call { callee := .builtin .copy, args := args, argTypes := tys }) (hargs : args = #[x, y]) (htys : tys = #[t, t2])
    (hx : opd s x = some xa) (hy : opd s y = some ya) (h : stepCopyR P s t xa ya = some r) (hn : ∀ c ∈ r.needs, (c.den ρ).b = true) : StepOk P ρ hF s a w o r := by
  unfold stepCopyR at h
  split at h
  · rename_i el rg p off len cap hu
    split at h
    · rename_i z hz hsz
      split at h
      · rename_i kk k xh src zz l ns hkz hat hsrc hoff
        rw [hkz] at hsrc
        obtain ⟨_, hreg⟩ := heapAt_spec hat
        split at h
        · rename_i pat d rr ty cs _ hrow
          split at h
          · rename_i hc
            simp only [Bool.and_eq_true] at hc
            obtain ⟨⟨⟨⟨hp1, hzp⟩, _⟩, hin1⟩, hin2⟩ := hc
            have hp1 := Nat.eq_of_beq_eq_true hp1
            subst hp1
            simp only [SH.reg, Option.some.injEq] at hreg; subst hreg
            simp only [Option.some.injEq] at h
            exact step_copyRow hs hop hargs htys hx hy hu hsz hat hsrc hoff hrow (.inl ⟨cs, rfl, rfl⟩) (Nat.le_of_ble_eq_true hzp) hin1 hin2 h.symm hn
          · cases h
        · rename_i pat d rr ty pat' d' cap' _ hrow
          split at h
          · rename_i hc
            simp only [Bool.and_eq_true] at hc
            obtain ⟨⟨⟨⟨hp1, hzp⟩, _⟩, hin1⟩, hin2⟩ := hc
            have hp1 := Nat.eq_of_beq_eq_true hp1
            subst hp1
            simp only [SH.reg, Option.some.injEq] at hreg; subst hreg
            have hrow' := hrow
            simp only [rowOf, Option.some.injEq, Prod.mk.injEq] at hrow'
            obtain ⟨rfl, rfl⟩ := hrow'
            simp only [Option.some.injEq] at h
            exact step_copyRow hs hop hargs htys hx hy hu hsz hat hsrc hoff hrow (.inr rfl) (Nat.le_of_ble_eq_true hzp) hin1 hin2 h.symm hn
          · cases h
        · cases h
      · cases h
    · cases h
  · cases h

theorem toList_two {α : Type} {l : Array α} {x y : α} (h : l.toList = [x, y]) : l = #[x, y] := by cases l; simp_all
theorem toList_one {α : Type} {l : Array α} {x : α} (h : l.toList = [x]) : l = #[x] := by cases l; simp_all

theorem isg_den {g R : Nat} (h : ((T.c1 (.isg g) (.var R)).den ρ).b = true) : (ρ R).r = some ⟨g, 0, none⟩ := of_decide_eq_true h
theorem stepG_sound {ip : List (Nat × Nat)} (hs : Holds ρ hF s a w) (h : stepG P ip s o = some r) (hn : ∀ c ∈ r.needs, (c.den ρ).b = true) (hsc : r.fresh = 0 ∨ s.scopedEH = true) : StepOk P ρ hF s a w o r := by
  unfold stepG at h
  split at h
  · rename_i t g hop
    have hev : a.eval (.global g) = .pointer (some ⟨g, 0, none⟩) := rfl
    split at h
    · rename_i R ag n hR hag hsz
      split at h
      · rename_i k y hf
        obtain ⟨H, hsub, hro, hreg⟩ := hs.found hf
        split at h
        · rename_i cs needs hrd
          split at h
          · rename_i hagt
            simp only [Option.some.injEq] at h; subst h; subst hagt
            have hg := isg_den (hn _ (List.mem_cons_self ..))
            obtain ⟨hl, b, off, c', ty, fr, h1, h2, h3⟩ := readH_sound hrd hro hreg fun c hc => hn c (List.mem_cons_of_mem _ hc)
            rw [hg] at h1
            simp only [Option.some.injEq, Addr.mk.injEq] at h1
            obtain ⟨rfl, rfl, _⟩ := h1
            refine StepOk.quiet hs ?_
            have hrun := run_loadVar (P := P) (w := w) hag hsz (hsub _ _ h2) (by simp [denVs, hl]) h3 (by simp)
            simp [T.den, O0.den] at hrun
            simp [execOp, hop, hev, Instr.loadAt, Instr.sureAddr, hrun, SV.den]
          · rename_i hagf
            split at h
            · rename_i t' _
              simp only [Option.some.injEq] at h; subst h
              have hg := isg_den (hn _ (List.mem_cons_self ..))
              obtain ⟨hl, b, off, c', ty, fr, h1, h2, h3⟩ := readH_sound hrd hro hreg fun c hc => hn c (List.mem_cons_of_mem _ hc)
              rw [hg] at h1
              simp only [Option.some.injEq, Addr.mk.injEq] at h1
              obtain ⟨rfl, rfl, _⟩ := h1
              refine StepOk.quiet hs ?_
              have hagf' : ag = false := by simpa using hagf
              have hrun := run_loadVar (P := P) (w := w) hag hsz (hsub _ _ h2) (by rw [← hl]; simp [denVs]) h3 (fun _ => by rw [← hl]; rfl)
              subst hagf'
              simp [T.den, O0.den] at hrun
              simp [execOp, hop, hev, Instr.loadAt, Instr.sureAddr, hrun, denVs, SV.den]
            · simp at h
        · simp at h
      · simp at h
    · simp at h
  · rename_i t g i hop
    have hev : a.eval (.global g) = .pointer (some ⟨g, 0, none⟩) := rfl
    split at h
    · rename_i R m el k j hR hu hi
      have hei := hs.opd hi
      split at h
      · rename_i n hsz
        simp only [Option.some.injEq] at h; subst h
        have hg := isg_den (hn _ (List.mem_cons_self ..))
        have h0 := mkLe0_den (hn _ (List.mem_cons_of_mem _ (List.mem_cons_self ..)))
        have h1 := hn _ (List.mem_cons_of_mem _ (List.mem_cons_of_mem _ (List.mem_cons_self ..)))
        rw [mkCmp_den _ _ _ (by simp)] at h1
        have h1 : (j.den ρ).i < (m : Int) := of_decide_eq_true h1
        refine StepOk.quiet hs ?_
        simp only [SV.den, T.den, O1.den] at hei ⊢
        have hcond : 0 ≤ (j.den ρ).i ∧ (j.den ρ).i < (m : Int) := ⟨h0, h1⟩
        simp [execOp, hop, hev, hei, Instr.indexAt, Instr.sureAddr, asIntOf, underlying_run hu, sizeP_run hsz, hcond, hg, addrOf, Addr.add]
        exact fun h => h.symm
      · simp at h
    · simp at h
  · exact stepOp_sound hs h hn hsc

theorem stepX_sound {ip : List (Nat × Nat)} (hs : Holds ρ hF s a w) (h : stepX P ip s o = some r) (hn : ∀ c ∈ r.needs, (c.den ρ).b = true) (hsc : r.fresh = 0 ∨ s.scopedEH = true) : StepOk P ρ hF s a w o r := by
  unfold stepX at h
  split at h
  · rename_i args tys hop
    split at h
    · split at h
      · rename_i x y t t2 hargs htys
        split at h
        · rename_i ht
          have ht := Nat.eq_of_beq_eq_true ht
          subst ht
          split at h
          · rename_i xa ya hx hy
            exact step_inpl hs hop (toList_two hargs) (toList_two htys) hx hy h hn
          · simp at h
        · simp at h
      · simp at h
    · exact stepG_sound hs h hn hsc
  · rename_i args tys hop
    split at h
    · rename_i x t hargs htys
      split at h
      · rename_i xa hx
        exact step_clear hs hop (toList_one hargs) (toList_one htys) hx h hn
      · simp at h
    · simp at h
  · rename_i args tys hop
    split at h
    · rename_i x y t t2 hargs htys
      split at h
      · rename_i xa ya hx hy
        split at h
        · rename_i r' hr'
          simp only [Option.some.injEq] at h; subst h
          exact step_copy hs hop (toList_two hargs) (toList_two htys) hx hy hr' hn
        · exact step_copyR hs hop (toList_two hargs) (toList_two htys) hx hy h hn
      · simp at h
    · simp at h
  · exact stepG_sound hs h hn hsc

theorem shrinkS_holds (ip : List (Nat × Nat)) (o : Oper) (hs : Holds ρ hF s a w) : Holds ρ hF (shrinkS ip s o) a w ∧ (shrinkS ip s o).nx = s.nx ∧ (shrinkS ip s o).ro = s.ro ∧ (shrinkS ip s o).nt = s.nt := by
  unfold shrinkS
  repeat' split
  all_goals first | exact ⟨hs, rfl, rfl, rfl⟩ | skip
  rename_i rg p off len cap hx _ k rr ty pat d cap' hat
  obtain ⟨hk, hreg⟩ := heapAt_spec hat
  obtain ⟨hO, hd, hst, hsub, hwi⟩ := hs.hp
  obtain ⟨t1, t2, td, tu, tx, tss⟩ := star_take hst hk
  refine ⟨⟨hs.gd, hs.nt, hs.df, hs.env, hs.ro, ⟨hO, hd, ?_, hsub, hwi⟩, hs.pc, hs.vw⟩, rfl, rfl, rfl⟩
  rw [tu]
  refine star_set hk tss td ?_
  have htake : ((T.dtake d len).den ρ).d = (d.den ρ).d.take (len.den ρ).i.toNat := rfl
  rcases tx with ⟨h1, h2, h3⟩ | ⟨b, c, h1, h2, h3, h4, h5⟩
  · exact .inl ⟨h1, by rw [htake, h2]; simp, h3⟩
  · refine .inr ⟨b, c, h1, h2, h3, ?_, fun i row hi => h5 i row ?_⟩
    · rw [htake, List.length_take]; omega
    · rw [htake, List.getElem?_take] at hi; split at hi
      · exact hi
      · cases hi
end Go.Eng

set_option linter.unusedSimpArgs false
set_option linter.unusedVariables false
namespace Go.Eng
open Go
variable {P : Program} {ρ : Env} {hF : Fr} {s : S} {a : Act} {w : World}

/-! ### Scopes by a predicate -/

theorem T.den_congrS {p : Nat → Bool} {ρ ρ' : Env} (h : ∀ m, p m = true → ρ m = ρ' m) : ∀ (t : T), t.inS p = true → t.den ρ = t.den ρ'
  | .var m, hb => by simp [T.inS] at hb; simpa [T.den] using h m hb
  | .c0 o, hb => by
    cases o <;> simp_all [T.inS, T.den, O0.den]
  | .c1 o a, hb => by
    cases o <;> (simp only [T.inS, Bool.and_eq_true] at hb) <;>
      first
        | (simp only [T.den]; rw [T.den_congrS h a hb]; rfl)
        | (simp only [T.den]; rw [T.den_congrS h a hb.2]; simp [O1.den, h _ hb.1])
  | .c2 o a b, hb => by
    simp only [T.inS, Bool.and_eq_true] at hb
    simp only [T.den]; rw [T.den_congrS h a hb.1, T.den_congrS h b hb.2]
  | .c3 o a b c, hb => by
    cases o <;> (simp only [T.inS, Bool.and_eq_true] at hb)
    · simp only [T.den]; rw [T.den_congrS h a hb.1.1.2, T.den_congrS h b hb.1.2, T.den_congrS h c hb.2]; simp [O3.den, h _ hb.1.1.1]
    all_goals (simp only [T.den]; rw [T.den_congrS h a hb.1.1, T.den_congrS h b hb.1.2, T.den_congrS h c hb.2]; rfl)
  | .ife a b x y, hb => by
    simp only [T.inS, Bool.and_eq_true] at hb
    simp only [T.den]; rw [T.den_congrS h a hb.1.1.1, T.den_congrS h b hb.1.1.2, T.den_congrS h x hb.1.2, T.den_congrS h y hb.2]

theorem denVs_congrS {p : Nat → Bool} {ρ ρ' : Env} (h : ∀ m, p m = true → ρ m = ρ' m) (ts : List T) (hb : ts.all (T.inS p) = true) : denVs ρ ts = denVs ρ' ts := by
  unfold denVs
  refine List.map_congr_left fun t ht => ?_
  rw [T.den_congrS h t (List.all_eq_true.1 hb t ht)]

theorem SV.den_congrS {p : Nat → Bool} {ρ ρ' : Env} (h : ∀ m, p m = true → ρ m = ρ' m) (v : SV) (hb : v.inS p = true) : v.den ρ = v.den ρ' := by
  cases v with
  | one t => simp only [SV.inS] at hb; simp only [SV.den]; rw [T.den_congrS h t hb]
  | agg ts => simp only [SV.inS] at hb; simp only [SV.den]; rw [denVs_congrS h ts hb]
  | tup vs =>
    simp only [SV.inS] at hb; simp only [SV.den]
    congr 2
    refine List.map_congr_left fun x hx => ?_
    have := List.all_eq_true.1 hb x hx
    obtain ⟨g, ts⟩ := x
    cases g <;> simp only [den1] <;> rw [denVs_congrS h ts this]
  | fn f a b =>
    simp only [SV.inS, Bool.and_eq_true] at hb; simp only [SV.den]
    rw [denVs_congrS h a hb.1, denVs_congrS h b hb.2]

theorem SH.den_congrS {p : Nat → Bool} {ρ ρ' : Env} (h : ∀ m, p m = true → ρ m = ρ' m) (x : SH) (hb : x.inS p = true) (hp : Hp) : x.den ρ hp ↔ x.den ρ' hp := by
  cases x with
  | cells r ty cs => simp only [SH.inS, Bool.and_eq_true] at hb; simp only [SH.den]; rw [denVs_congrS h cs hb.2, h r hb.1]
  | arr r ty pat d cap =>
    simp only [SH.inS, Bool.and_eq_true] at hb; simp only [SH.den]
    rw [T.den_congrS h d hb.1.2, T.den_congrS h cap hb.2, h r hb.1.1]
  | abs m t => simp only [SH.inS] at hb; simp only [SH.den]; rw [h m hb]

theorem star_congrS {p : Nat → Bool} {ρ ρ' : Env} (h : ∀ m, p m = true → ρ m = ρ' m) : ∀ (l : List SH), l.all (SH.inS p) = true → ∀ hp, star ρ l hp → star ρ' l hp
  | [], _, _, _ => trivial
  | x :: xs, hb, hp, ⟨h1, h2, hd, hu, hx, hs⟩ => by
    simp only [List.all_cons, Bool.and_eq_true] at hb
    exact ⟨h1, h2, hd, hu, (SH.den_congrS h x hb.1 h1).1 hx, star_congrS h xs hb.2 h2 hs⟩

/-! ### What a tree says -/

def mixE (nv k base : Nat) (ρ1 ρ : Env) : Env := fun n => if n < nv then ρ1 n else if n < nv + k then ρ (base + (n - nv)) else {}
def Env.upto (n : Nat) (ρ : Env) : Env := fun m => if m < n then ρ m else {}
def cutE (base nv : Nat) (ρ : Env) : Env := fun n => if n < 1000 then (if n < base then ρ n else {}) else if n < 1000 + nv then ρ n else {}
def relE (base nv : Nat) (ρ : Env) : Env := fun n => if n < 1000 then (if n < base then ρ n else {}) else if n < 1000 + nv then ρ (base + (n - 1000)) else {}

def Out.den (E : Ctx) : Out → Env → Prop
  | .stuck _ _ _, _ => False
  | .need c o, ρ => (c.den ρ).b = true ∧ o.den E ρ
  | .br c x y, ρ => ((c.den ρ).b = true → x.den E ρ) ∧ ((c.den ρ).b = false → y.den E ρ)
  | .fresh n o, ρ => ∀ u : U, u.good → o.den E (ρ.set n u)
  | .both x y, ρ => x.den E ρ ∧ y.den E ρ
  | .top, _ => True
  | .pre ci σ o, ρ => (match E.ctrs[ci]? with | some c => c.pre (σ.env ρ) | none => False) ∧ o.den E ρ
  | .post ci ai σ base o, ρ => (match E.ctrs[ci]? with | some c => (match c.alts[ai]? with | some al => al.post (mixE c.nv al.k base (σ.env ρ) ρ) | none => False) | none => False) → o.den E ρ
  | .inv li base σ o, ρ => (match E.invs[li]? with | some I => I.inv (cutE base I.nv (σ.env ρ)) | none => False) ∧ o.den E ρ
  | .hyp li base o, ρ => (match E.invs[li]? with | some I => I.inv (relE base I.nv ρ) | none => False) → o.den E ρ
  | .back li base σ, ρ => match E.invs[li]? with | some I => I.inv (cutE base I.nv (σ.env ρ)) ∧ I.mu (cutE base I.nv (σ.env ρ)) < I.mu (relE base I.nv ρ) | none => False
  | .pack l n o, ρ => ∀ u : U, u.good → star ρ l u.h → o.den E (ρ.set n u)
  | .view x pat ms base o, ρ => ∃ d : List (List Value), (∃ m ∈ ms, Rd (ρ m).h pat (x.den ρ).v d) ∧ ∀ u0 : U, u0.good → ∀ u1 : U, u1.good → o.den E (((ρ.set base u0).set (base + 1) u1).set (base + 2) { d := d })
  | .viewL x pat ms base o, ρ => ∃ d : List (List Value), (∃ m ∈ ms, Rd (ρ m).h pat (x.den ρ).v d) ∧ ∀ u0 : U, u0.good → ∀ u1 : U, u1.good → (x.den ρ).v = .slice (addrOf u0.r 0) d.length u1.i.toNat → (d.length : Int) ≤ u1.i → o.den E (((ρ.set base u0).set (base + 1) u1).set (base + 2) { d := d })
  | .know c o, ρ => (c.den ρ).b = true → o.den E ρ
  | .put m rg pat d e c vs base o, ρ => ∀ u : U, u.good → Put (ρ m).h u.h (ρ rg).r pat (d.den ρ).d ((e.den ρ).i.toNat * pat.length + c) (denVs ρ vs) → o.den E (ρ.set base u)
  | .ret ai σ, ρ => match E.me.alts[ai]? with | some al => al.post ((σ.env ρ).upto (E.me.nv + al.k)) | none => False

/-- A contract holds. -/
def Ctr.ok (P : Program) (c : Ctr) : Prop :=
  (∀ (args : Array Value) (w : World), (callFunc c.fn args).run P w = .ok (.enter c.fn args) w) ∧
  ∀ (ρ : Env) (w : World) (hF : Fr) (hO : Hp), ρ.good → Hp.disj hF hO → ((Hp.union hF hO).sub w ∧ hF.wi w) → star ρ c.heap hO → (∀ x ∈ c.ro, x.roden ρ hF) → c.pre ρ →
    Calls P c.fn (c.args.map (SV.den ρ)).toArray w fun e w' =>
      ∃ (ai : Nat) (al : Alt) (ρ' : Env), c.alts[ai]? = some al ∧ ρ'.good ∧ (∀ n, n < c.nv → ρ' n = ρ n) ∧ e = .returned (al.ret.den ρ') ∧ al.post (ρ'.upto (c.nv + al.k)) ∧ HeapOk ρ' hF al.heap w'

/-! ### The tree's small steps -/

variable {E : Ctx}

theorem Holds.withPc (hs : Holds ρ hF s a w) (pc : List (T × Bool)) (h : ∀ c b, (c, b) ∈ pc → (c.den ρ).b = b) : Holds ρ hF { s with pc := pc } a w :=
  ⟨hs.gd, hs.nt, hs.df, hs.env, hs.ro, hs.hp, h, hs.vw⟩

theorem liven_sound (hs : Holds ρ hF s a w) {c : T} (h : ((liven s c).den ρ).b = true) : (c.den ρ).b = true := by
  unfold liven at h
  split at h
  · rename_i r
    split at h
    · rename_i r' ty cs hf
      obtain ⟨H, _, hro, hreg⟩ := hs.found hf
      simp only [SH.reg, Option.some.injEq] at hreg; subst hreg
      obtain ⟨b, o, c, ty', fr, h1, _⟩ := hro
      simp [T.den, O0.den, O1.den, h1]
    · rename_i r' ty pat d cap hf
      obtain ⟨H, _, hro, hreg⟩ := hs.found hf
      simp only [SH.reg, Option.some.injEq] at hreg; subst hreg
      rw [mkCmp_den _ _ _ (by simp), mkDlen_den] at h
      rcases hro with h2 | ⟨b, o, c, ty', fr, h1, _⟩
      · simp [T.den, O0.den, h2, cmpOf] at h
      · simp [T.den, O0.den, O1.den, h1]
    · exact h
  · exact h

theorem needs_den : ∀ {cs : List T} {s : S} {k : S → Out}, Holds ρ hF s a w → (needs s cs k).den E ρ →
    (∀ c ∈ cs, (c.den ρ).b = true) ∧ ∃ pc, Holds ρ hF { s with pc := pc } a w ∧ (k { s with pc := pc }).den E ρ
  | [], s, k, hs, h => ⟨fun _ h => (by cases h), s.pc, hs, h⟩
  | c :: cs, s, k, hs, h => by
    simp only [needs] at h
    split at h
    · rename_i hk
      have hk := known_sound hs hk
      obtain ⟨h1, h2⟩ := needs_den hs h
      exact ⟨fun c' hc' => by
        cases hc' with
        | head => exact liven_sound hs hk
        | tail _ hc' => exact h1 c' hc', h2⟩
    · exact h.elim
    · obtain ⟨hc, h⟩ := h
      obtain ⟨h1, pc, h2⟩ := needs_den (s := { s with pc := (liven s c, true) :: s.pc })
        (hs.withPc _ fun c' b hm => by
          cases hm with
          | head => exact hc
          | tail _ hm => exact hs.pc c' b hm) h
      exact ⟨fun c' hc' => by
        cases hc' with
        | head => exact liven_sound hs hc
        | tail _ hc' => exact h1 c' hc', pc, h2⟩

theorem pcOf_den {c c' : T} {b b' : Bool} (h : (c.den ρ).b = b) (he : pcOf c b = (c', b')) : (c'.den ρ).b = b' := by
  unfold pcOf at he
  split at he
  · simp only [Prod.mk.injEq] at he
    obtain ⟨rfl, rfl⟩ := he
    rw [← h]; simp [T.den, O1.den]
  · simp only [Prod.mk.injEq] at he
    obtain ⟨rfl, rfl⟩ := he
    exact h

theorem branch_den {c : T} {k : Bool → S → Out} (hs : Holds ρ hF s a w) (h : (branch s c k).den E ρ) :
    ∃ b pc, (c.den ρ).b = b ∧ Holds ρ hF { s with pc := pc } a w ∧ (k b { s with pc := pc }).den E ρ := by
  unfold branch at h
  split at h
  · rename_i b hk
    exact ⟨b, s.pc, known_sound hs hk, hs, h⟩
  · obtain ⟨h1, h2⟩ := h
    cases hb : (c.den ρ).b with
    | true =>
      exact ⟨true, pcOf c true :: s.pc, rfl, hs.withPc _ (fun c' b hm => by
        rcases List.mem_cons.1 hm with hm | hm
        · exact pcOf_den hb hm.symm
        · exact hs.pc c' b hm), h1 hb⟩
    | false =>
      exact ⟨false, pcOf c false :: s.pc, rfl, hs.withPc _ (fun c' b hm => by
        rcases List.mem_cons.1 hm with hm | hm
        · exact pcOf_den hb hm.symm
        · exact hs.pc c' b hm), h2 hb⟩

theorem scoped_parts (h : s.inNx = true) : s.env.all (fun x => x.2.inB s.nx) = true ∧ s.heap.all (SH.inB s.nx) = true ∧ s.ro.all (SH.inB s.nx) = true ∧ s.pc.all (fun x => x.1.inB s.nx) = true := by
  simp only [S.inNx, Bool.and_eq_true] at h
  exact ⟨h.1.1.1.1, h.1.1.1.2, h.1.1.2, h.1.2⟩
theorem inNx_vw (h : s.inNx = true) : ∀ x ∈ s.vw, (∀ m ∈ x.1, m < s.nx) ∧ x.2.inB s.nx = true := by
  simp only [S.inNx, Bool.and_eq_true] at h
  intro x hx
  have := List.all_eq_true.1 h.2 x hx
  simp only [Bool.and_eq_true, List.all_eq_true, Nat.blt_eq] at this
  exact ⟨this.1, this.2⟩

/-- The state under another valuation that agrees where the state looks. -/
theorem Holds.congr {ρ' : Env} (hs : Holds ρ hF s a w) (hsc : s.inNx = true) (hg : ρ'.good) (h : ∀ m, m < s.nx → ρ m = ρ' m) : Holds ρ' hF s a w := by
  obtain ⟨h1, h2, h3, h4⟩ := scoped_parts hsc
  refine ⟨hg, hs.nt, hs.df, fun t v hv => ?_, fun x hx => ?_, ?_, fun c b hc => ?_, fun x hx => ?_⟩
  · rw [hs.env t v hv]; exact SV.den_congr h v (lookE_in h1 hv)
  · exact (SH.roden_congr h x (List.all_eq_true.1 h3 x hx) hF).1 (hs.ro x hx)
  · obtain ⟨hO, hd, hst, hsub, hwi⟩ := hs.hp
    exact ⟨hO, hd, star_congr h _ h2 hO hst, hsub, hwi⟩
  · rw [← hs.pc c b hc]; exact congrArg U.b (T.den_congr h c (List.all_eq_true.1 h4 (c, b) hc)).symm
  · obtain ⟨m, hm, hr⟩ := hs.vw x hx
    obtain ⟨g1, g2⟩ := inNx_vw hsc x hx
    refine ⟨m, hm, ?_⟩
    rw [← h m (g1 m hm)]
    exact (SH.roden_congr h x.2 g2 _).1 hr

theorem setL_lt : ∀ (us : List U) (ρ : Env) (n m : Nat), m < n → setL ρ n us m = ρ m
  | [], ρ, n, m, _ => rfl
  | u :: us, ρ, n, m, h => by
    simp only [setL]
    rw [setL_lt us _ (n + 1) m (by omega), Env.set_ne ρ u (by omega)]
theorem setL_good : ∀ (us : List U) (ρ : Env) (n : Nat), ρ.good → (∀ u ∈ us, u.good) → (setL ρ n us).good
  | [], ρ, n, h, _ => h
  | u :: us, ρ, n, h, hu => by
    simp only [setL]
    refine setL_good us _ _ (fun m => ?_) (fun v hv => hu v (List.mem_cons_of_mem _ hv))
    by_cases hm : m = n
    · subst hm; rw [Env.set_same]; exact hu u (List.mem_cons_self ..)
    · rw [Env.set_ne ρ u hm]; exact h m
theorem setL_get : ∀ (us : List U) (ρ : Env) (n j : Nat) (u : U), us[j]? = some u → setL ρ n us (n + j) = u
  | [], ρ, n, j, u, h => by simp at h
  | u' :: us, ρ, n, 0, u, h => by
    simp only [List.getElem?_cons_zero, Option.some.injEq] at h
    simp only [setL, Nat.add_zero]
    rw [setL_lt us _ (n + 1) n (by omega), Env.set_same, h]
  | u' :: us, ρ, n, j + 1, u, h => by
    simp only [List.getElem?_cons_succ] at h
    simp only [setL]
    have := setL_get us (ρ.set n u') (n + 1) j u h
    rwa [show n + 1 + j = n + (j + 1) from by omega] at this

theorem freshes_den : ∀ {us : List U} {ρ : Env} {s : S} {k : S → Out}, (∀ u ∈ us, u.good) → (freshes s us.length k).den E ρ →
    (us = [] ∨ s.inNx = true) ∧ (k { s with nx := s.nx + us.length }).den E (setL ρ s.nx us)
  | [], ρ, s, k, _, h => ⟨.inl rfl, h⟩
  | u :: us, ρ, s, k, hu, h => by
    simp only [List.length_cons, freshes] at h
    split at h
    · rename_i hsc
      have := freshes_den (us := us) (s := { s with nx := s.nx + 1 }) (fun v hv => hu v (List.mem_cons_of_mem _ hv)) (h u (hu u (List.mem_cons_self ..)))
      refine ⟨.inr hsc, ?_⟩
      have h2 := this.2
      simp only [List.length_cons, setL]
      rwa [show s.nx + (us.length + 1) = s.nx + 1 + us.length from by omega]
    · exact h.elim

theorem Holds.fresh {us : List U} (hs : Holds ρ hF s a w) (hsc : us = [] ∨ s.inNx = true) (hu : ∀ u ∈ us, u.good) (n : Nat) : Holds (setL ρ s.nx us) hF { s with nx := n } a w := by
  rcases hsc with rfl | hsc
  · exact ⟨hs.gd, hs.nt, hs.df, hs.env, hs.ro, hs.hp, hs.pc, hs.vw⟩
  · have := hs.congr hsc (setL_good us ρ s.nx hs.gd hu) (fun m hm => (setL_lt us ρ s.nx m hm).symm)
    exact ⟨this.gd, this.nt, this.df, this.env, this.ro, this.hp, this.pc, this.vw⟩

theorem lookE_putE (d : Nat) (v : SV) : ∀ (l : List (Nat × SV)) (t : Nat) (u : SV), lookE t (putE d v l) = some u → (t = d ∧ u = v) ∨ (t ≠ d ∧ lookE t l = some u)
  | [], t, u, h => by
    simp only [putE, lookE] at h
    split at h
    · rename_i ht
      simp only [Option.some.injEq] at h
      exact .inl ⟨Nat.eq_of_beq_eq_true ht, h.symm⟩
    · simp at h
  | (k, x) :: r, t, u, h => by
    simp only [putE] at h
    split at h
    · rename_i hdk
      have hdk := Nat.eq_of_beq_eq_true hdk
      simp only [lookE] at h ⊢
      split at h
      · rename_i ht
        simp only [Option.some.injEq] at h
        exact .inl ⟨Nat.eq_of_beq_eq_true ht, h.symm⟩
      · rename_i ht
        have htd : t ≠ d := fun he => ht (by rw [he]; simp)
        refine .inr ⟨htd, ?_⟩
        rw [if_neg (by rw [← hdk]; exact ht)]
        exact h
    · split at h
      · simp only [lookE] at h ⊢
        split at h
        · rename_i ht
          simp only [Option.some.injEq] at h
          exact .inl ⟨Nat.eq_of_beq_eq_true ht, h.symm⟩
        · rename_i ht
          exact .inr ⟨fun he => ht (by rw [he]; simp), h⟩
      · simp only [lookE] at h ⊢
        split at h
        · rename_i hdk _ ht
          have ht' := Nat.eq_of_beq_eq_true ht
          exact .inr ⟨fun he => hdk (by rw [← he, ht']; simp), by simp [ht, h]⟩
        · rename_i ht
          rcases lookE_putE d v r t u h with h' | h'
          · exact .inl h'
          · exact .inr ⟨h'.1, by rw [if_neg ht]; exact h'.2⟩

/-- A value is put into its temporary. -/
theorem Holds.put {dst : Option Nat} {v : SV} {s' : S} (hs : Holds ρ hF s a w) (h : putDst dst (some v) s = some s') : Holds ρ hF s' (a.put dst (v.den ρ)) w ∧ s'.nx = s.nx ∧ s'.ro = s.ro ∧ s'.nt = s.nt ∧ s'.heap = s.heap := by
  cases dst with
  | none =>
    simp only [putDst, Option.some.injEq] at h; subst h
    exact ⟨hs, rfl, rfl, rfl, rfl⟩
  | some d =>
    simp only [putDst] at h
    split at h
    · rename_i hd
      simp only [Option.some.injEq] at h; subst h
      simp only [Nat.blt_eq] at hd
      have hsz : d < a.tmps.size := Nat.lt_of_lt_of_le hd hs.nt
      refine ⟨⟨hs.gd, by simpa [Act.put] using hs.nt, hs.df, fun t u hu => ?_, hs.ro, hs.hp, hs.pc, hs.vw⟩, rfl, rfl, rfl, rfl⟩
      rcases lookE_putE d v s.env t u hu with ⟨rfl, rfl⟩ | ⟨hne, hl⟩
      · simp [Act.put, Array.getD, hsz]
      · rw [← hs.env t u hl]
        simp only [Act.put, Array.getD_eq_getD_getElem?]
        rw [Array.getElem?_setIfInBounds_ne (fun h => hne h.symm)]
    · simp at h

theorem putDst_none {dst : Option Nat} {s' : S} (h : putDst dst none s = some s') : dst = none ∧ s' = s := by
  cases dst with
  | none => simp only [putDst, Option.some.injEq] at h; exact ⟨rfl, h.symm⟩
  | some d => simp [putDst] at h

/-! ### Pieces put together, slices told of -/

theorem star_filter (sel : SH → Bool) : ∀ {l : List SH} {h : Hp}, star ρ l h → ∃ h1 h2, Hp.disj h1 h2 ∧ h = Hp.union h1 h2 ∧ star ρ (l.filter sel) h1 ∧ star ρ (l.filter fun x => !sel x) h2
  | [], h, _ => ⟨Hp.emp, h, Hp.emp_disj _, (Hp.emp_union _).symm, trivial, trivial⟩
  | x :: l, h, ⟨a1, a2, hd, hu, hx, hs⟩ => by
    obtain ⟨b1, b2, e1, e2, e3, e4⟩ := star_filter sel hs
    subst e2; subst hu
    rw [Hp.disj_union] at hd
    cases hsel : sel x with
    | true =>
      refine ⟨Hp.union a1 b1, b2, Hp.disj_union'.2 ⟨hd.2, e1⟩, (Hp.union_assoc _ _ _).symm, ?_, ?_⟩
      · simp only [List.filter_cons, hsel, if_true]; exact ⟨a1, b1, hd.1, rfl, hx, e3⟩
      · simp only [List.filter_cons, hsel, Bool.not_true, Bool.false_eq_true, if_false]; exact e4
    | false =>
      refine ⟨b1, Hp.union a1 b2, Hp.disj_union.2 ⟨hd.1.symm, e1⟩, ?_, ?_, ?_⟩
      · rw [← Hp.union_assoc, Hp.union_comm hd.1, Hp.union_assoc]
      · simp only [List.filter_cons, hsel, Bool.false_eq_true, if_false]; exact e3
      · simp only [List.filter_cons, hsel, Bool.not_false, if_true]; exact ⟨a1, b2, hd.2, rfl, hx, e4⟩

/-- What a step that only looks anew at the state comes to. -/
def Anew (E : Ctx) (hF : Fr) (ρ : Env) (s : S) (a : Act) (w : World) (k : S → Out) : Prop :=
  ∃ ρ' s', (∀ m, m < s.nx → ρ' m = ρ m) ∧ s.nx ≤ s'.nx ∧ Holds ρ' hF s' a w ∧ s'.ro = s.ro ∧ s'.nt = s.nt ∧ (k s').den E ρ'

theorem Anew.self {k : S → Out} (hs : Holds ρ hF s a w) (h : (k s).den E ρ) : Anew E hF ρ s a w k := ⟨ρ, s, fun _ _ => rfl, Nat.le_refl _, hs, rfl, rfl, h⟩

/-- What is not frozen of it. -/
def Hp.thaw (h : Hp) : Hp := fun b => match h b with
  | some (.cells c ty fr) => if fr = (0, 0) then some (.cells c ty fr) else none
  | _ => none
theorem Hp.thaw_free (h : Hp) : h.thaw.free := fun b o ho => by
  unfold Hp.thaw at ho
  split at ho
  · split at ho
    · rename_i h0; subst h0; exact ⟨_, _, (Option.some.inj ho).symm⟩
    · cases ho
  · cases ho
theorem Hp.thaw_le (h : Hp) : Hp.le h.thaw h := fun b o ho => by
  unfold Hp.thaw at ho
  split at ho
  · rename_i hb
    split at ho
    · rw [hb]; exact ho
    · cases ho
  · cases ho
theorem Hp.thaw_at {h : Hp} {b : Nat} {c : Array Value} {ty : TypeId} (hb : h b = some (.cells c ty (0, 0))) : h.thaw b = some (.cells c ty (0, 0)) := by
  simp [Hp.thaw, hb]
theorem Hp.thaw_none {h : Hp} {b : Nat} (hb : h b = none) : h.thaw b = none := by simp [Hp.thaw, hb]
theorem Hp.thaw_union {h1 h2 : Hp} (hd : Hp.disj h1 h2) : (Hp.union h1 h2).thaw = Hp.union h1.thaw h2.thaw := by
  funext b
  rcases hd b with h | h
  · simp only [Hp.union, Hp.thaw_none h, Option.none_or]
    simp only [Hp.thaw, Hp.union, h, Option.none_or]
  · simp only [Hp.union, Hp.thaw_none h, Option.or_none]
    simp only [Hp.thaw, Hp.union, h, Option.or_none]
theorem SH.den_thaw {ρ : Env} {x : SH} {h : Hp} (ht : isTag 1001 x = false) (hx : x.den ρ h) : x.den ρ h.thaw := by
  cases x with
  | cells r ty cs => obtain ⟨b, h1, h2⟩ := hx; exact ⟨b, h1, Hp.thaw_at h2⟩
  | arr r ty pat d cap =>
    rcases hx with h0 | ⟨b, c, h1, h2, h3⟩
    · exact .inl h0
    · exact .inr ⟨b, c, h1, Hp.thaw_at h2, h3⟩
  | abs n t =>
    have ht' : Nat.beq t 1001 = false := by
      simp only [isTag] at ht
      rw [← ht]; exact Bool.eq_iff_iff.2 (by rw [Nat.beq_eq, Nat.beq_eq]; exact eq_comm)
    refine ⟨fun b o ho => ?_, hx.2⟩
    obtain ⟨c, ty, rfl⟩ := hx.2 ht' b o ho
    exact Hp.thaw_at (hx.1 b _ ho)
theorem star_thaw {ρ : Env} : ∀ {l : List SH} {h : Hp}, l.all (fun x => !(isTag 1001 x)) = true → star ρ l h → star ρ l h.thaw
  | [], _, _, _ => trivial
  | x :: l, h, ha, ⟨h1, h2, hd, hu, hx, hs⟩ => by
    simp only [List.all_cons, Bool.and_eq_true, Bool.not_eq_true'] at ha
    subst hu
    refine ⟨h1.thaw, h2.thaw, fun b => ?_, Hp.thaw_union hd, SH.den_thaw ha.1 hx, star_thaw ha.2 hs⟩
    rcases hd b with h | h
    · exact .inl (Hp.thaw_none h)
    · exact .inr (Hp.thaw_none h)

theorem packOne_den {sel : SH → Bool} {t : Nat} {k : S → Out} (hs : Holds ρ hF s a w) (h : (packOne s sel t k).den E ρ) : Anew E hF ρ s a w k := by
  unfold packOne at h
  split at h
  · exact Anew.self hs h
  · split at h
    · rename_i hsc0
      simp only [Bool.and_eq_true] at hsc0
      obtain ⟨⟨hsc, hfz⟩, htt⟩ := hsc0
      simp only [Out.den] at h
      obtain ⟨hO, hd, hst, hsub, hwi⟩ := hs.hp
      obtain ⟨h1, h2, e1, e2, e3, e4⟩ := star_filter sel hst
      have hu : ({ h := h1.thaw } : U).good := by simp [U.good, Value.oneCell']
      have h := h { h := h1.thaw } hu (star_thaw hfz e3)
      have hag : ∀ m, m < s.nx → (ρ.set s.nx { h := h1.thaw }) m = ρ m := fun m hm => Env.set_ne ρ _ (by omega)
      have hg' : (ρ.set s.nx { h := h1.thaw }).good := fun m => by
        by_cases hm : m = s.nx
        · subst hm; rw [Env.set_same]; exact hu
        · rw [Env.set_ne ρ _ hm]; exact hs.gd m
      have hc := hs.congr hsc hg' (fun m hm => (hag m hm).symm)
      refine ⟨_, { s with heap := .abs s.nx t :: s.heap.filter (fun x => !sel x), nx := s.nx + 1 }, hag, ?_, ⟨hc.gd, hc.nt, hc.df, hc.env, hc.ro, ⟨hO, hd, ?_, hsub, hwi⟩, hc.pc, hc.vw⟩, rfl, rfl, h⟩
      · exact Nat.le_succ _
      · subst e2
        refine ⟨h1, h2, e1, rfl, ?_, ?_⟩
        · simp only [SH.den, Env.set_same]; exact ⟨Hp.thaw_le h1, fun _ => Hp.thaw_free h1⟩
        · refine star_congr (n := s.nx) (fun m hm => (hag m hm).symm) _ ?_ _ e4
          have := (scoped_parts hsc).2.1
          exact List.all_eq_true.2 fun x hx => List.all_eq_true.1 this x (List.mem_filter.1 hx).1
    · exact h.elim

theorem Anew.bind {k k' : S → Out} (h : Anew E hF ρ s a w k) (hk : ∀ ρ' s', s'.ro = s.ro → s'.nt = s.nt → Holds ρ' hF s' a w → (k s').den E ρ' → Anew E hF ρ' s' a w k') : Anew E hF ρ s a w k' := by
  obtain ⟨ρ1, s1, a1, a2, a3, a4, a5, a6⟩ := h
  obtain ⟨ρ2, s2, b1, b2, b3, b4, b5, b6⟩ := hk ρ1 s1 a4 a5 a3 a6
  exact ⟨ρ2, s2, fun m hm => (b1 m (by omega)).trans (a1 m hm), by omega, b3, b4.trans a4, b5.trans a5, b6⟩

theorem packAll_den {left : List SH} : ∀ {ts : List Nat} {s : S} {ρ : Env} {k : S → Out}, Holds ρ hF s a w → (packAll s left ts k).den E ρ → Anew E hF ρ s a w k
  | [], s, ρ, k, hs, h => Anew.self hs h
  | t :: ts, s, ρ, k, hs, h => by
    simp only [packAll] at h
    exact (packOne_den hs h).bind fun ρ' s' _ _ hs' h' => packAll_den hs' h'

theorem packCall_den : ∀ {ts : List Nat} {s : S} {ρ : Env} {k : S → Out}, Holds ρ hF s a w → (packCall s ts k).den E ρ → Anew E hF ρ s a w k
  | [], s, ρ, k, hs, h => Anew.self hs h
  | t :: ts, s, ρ, k, hs, h => by
    simp only [packCall] at h
    split at h
    · exact (packOne_den hs h).bind fun ρ' s' _ _ hs' h' => packCall_den hs' h'
    · exact packCall_den hs h

theorem packFor_den {ctrs : List Ctr} {o : Oper} {s : S} {ρ : Env} {k : S → Out} (hs : Holds ρ hF s a w) (h : (packFor ctrs s o k).den E ρ) : Anew E hF ρ s a w k := by
  unfold packFor at h
  split at h
  · exact packAll_den hs h
  · exact packCall_den hs h

theorem rowsAt_good {c : Array Value} {o : Nat} {pat : List CK} {d : List (List Value)} (h : rowsAt c o pat d) : ∀ row ∈ d, ∀ v ∈ row, v.oneCell' = true := fun row hr v hv =>
  flat_good (rowsAt_fits h) v (List.mem_flatten.2 ⟨row, hr, hv⟩)

theorem view_link {x : T} {pat : List CK} {ms : List Nat} {base : Nat} {o : Out} (h : (Out.view x pat ms base o).den E ρ) : (Out.viewL x pat ms base o).den E ρ := by
  simp only [Out.den] at h ⊢
  obtain ⟨d, hm, h⟩ := h
  exact ⟨d, hm, fun u0 g0 u1 g1 _ _ => h u0 g0 u1 g1⟩
theorem mkView_link {ow : List Nat} {x : T} {pat : List CK} {ms : List Nat} {base : Nat} {o : Out} (h : (mkView ow x pat ms base o).den E ρ) : (Out.viewL x pat ms base o).den E ρ := by
  unfold mkView at h
  split at h
  · exact h
  · exact view_link h
theorem view_core {t el : Nat} {x : T} {pat : List CK} {u sv : SV} {k : S → Out} {ms : List Nat} (hms : ∀ m ∈ ms, m ∈ absVars s.heap ++ absVars s.ro) (hs : Holds ρ hF s a w) (hsc : s.inNx = true) (hl : lookE t s.env = some u)
    (hsv : ∀ ρ' : Env, u.den ρ' = u.den ρ → ((T.vslice s.nx (.lit 0) (.dlen (.var (s.nx + 2))) (.var (s.nx + 1)) pat.length).den ρ').v = (x.den ρ).v → sv.den ρ' = u.den ρ)
    (h : (Out.viewL x pat ms s.nx (k { s with
          env := putE t sv s.env
          vw := (ms, .arr s.nx el pat (.var (s.nx + 2)) (.var (s.nx + 1))) :: s.vw
          nx := s.nx + 3 })).den E ρ) : Anew E hF ρ s a w k := by
  simp only [Out.den] at h
  obtain ⟨d, ⟨m, hm, hrd⟩, h⟩ := h
  have hdg : ({ d := d } : U).good := by
    refine ⟨rfl, ?_⟩
    rcases hrd with ⟨_, _, h2⟩ | ⟨b, o, cap, c, ty, fr, _, _, _, h4⟩
    · rw [h2]; simp
    · exact rowsAt_good h4
  obtain ⟨r, cap, hval, hlc, hro⟩ : ∃ (r : Option Addr) (cap : Nat), (x.den ρ).v = .slice (addrOf r 0) d.length cap ∧ d.length ≤ cap ∧
      (d = [] ∨ ∃ b o c ty fr, r = some ⟨b, o, none⟩ ∧ (ρ m).h b = some (.cells c ty fr) ∧ rowsAt c o pat d) := by
    rcases hrd with ⟨r, h1, h2⟩ | ⟨b, o, cap, c, ty, fr, h1, h2, h3, h4⟩
    · exact ⟨r, 0, by rw [h1, h2, addrOf_zero]; rfl, by rw [h2]; exact Nat.le_refl _, .inl h2⟩
    · exact ⟨some ⟨b, o, none⟩, cap, by rw [h1]; rfl, h2, .inr ⟨b, o, c, ty, fr, rfl, h3, h4⟩⟩
  have hu0 : ({ r := r } : U).good := by simp [U.good, Value.oneCell']
  have hu1 : ({ i := (cap : Int) } : U).good := by simp [U.good, Value.oneCell']
  have h := h { r := r } hu0 { i := (cap : Int) } hu1 (by rw [hval]; rfl) (Int.ofNat_le.2 hlc)
  let ρ' : Env := ((ρ.set s.nx { r := r }).set (s.nx + 1) { i := (cap : Int) }).set (s.nx + 2) { d := d }
  have hag : ∀ m, m < s.nx → ρ' m = ρ m := fun m hm => by
    simp only [ρ']
    rw [Env.set_ne _ _ (by omega), Env.set_ne _ _ (by omega), Env.set_ne _ _ (by omega)]
  have e0 : ρ' s.nx = { r := r } := by
    simp only [ρ']
    rw [Env.set_ne _ _ (by omega), Env.set_ne _ _ (by omega), Env.set_same]
  have e1 : ρ' (s.nx + 1) = { i := (cap : Int) } := by
    simp only [ρ']
    rw [Env.set_ne _ _ (by omega), Env.set_same]
  have e2 : ρ' (s.nx + 2) = { d := d } := by simp only [ρ']; rw [Env.set_same]
  have hg' : ρ'.good := fun n => by
    by_cases h2 : n = s.nx + 2
    · subst h2; rw [e2]; exact hdg
    · by_cases h1 : n = s.nx + 1
      · subst h1; rw [e1]; exact hu1
      · by_cases h0 : n = s.nx
        · subst h0; rw [e0]; exact hu0
        · simp only [ρ']
          rw [Env.set_ne _ _ h2, Env.set_ne _ _ h1, Env.set_ne _ _ h0]; exact hs.gd n
  have hc := hs.congr hsc hg' (fun m hm => (hag m hm).symm)
  have hmlt : m < s.nx := by
    have hin : ∀ {l : List SH}, l.all (SH.inB s.nx) = true → m ∈ absVars l → m < s.nx := by
      intro l
      induction l with
      | nil => intro _ h; simp [absVars] at h
      | cons y l ih =>
        intro hall hmem
        simp only [List.all_cons, Bool.and_eq_true] at hall
        cases y with
        | cells r ty cs => exact ih hall.2 (by simpa [absVars] using hmem)
        | arr r ty pat d cap => exact ih hall.2 (by simpa [absVars] using hmem)
        | abs n t =>
          simp only [absVars, List.mem_cons] at hmem
          rcases hmem with rfl | hmem
          · simpa [SH.inB] using hall.1
          · exact ih hall.2 hmem
    obtain ⟨p1, p2, p3, p4⟩ := scoped_parts hsc
    rcases List.mem_append.1 (hms m hm) with hm | hm
    · exact hin p2 hm
    · exact hin p3 hm
  refine ⟨ρ', { s with
    env := putE t sv s.env
    vw := (ms, .arr s.nx el pat (.var (s.nx + 2)) (.var (s.nx + 1))) :: s.vw
    nx := s.nx + 3 }, hag, ?_, ⟨hc.gd, hc.nt, hc.df, fun t' u' hu => ?_, hc.ro, hc.hp, hc.pc, fun y hy => ?_⟩, rfl, rfl, h⟩
  · exact Nat.le_add_right _ _
  · rcases lookE_putE t _ s.env t' u' hu with ⟨rfl, rfl⟩ | ⟨hne, hl'⟩
    · rw [hs.env t' _ hl]
      refine (hsv ρ' ((hc.env t' _ hl).symm.trans (hs.env t' _ hl)) ?_).symm
      simp only [T.den, O0.den, O1.den, O3.den, e0, e1, e2, hval]
      simp
    · exact hc.env t' u' hl'
  · rcases List.mem_cons.1 hy with rfl | hy
    · refine ⟨m, hm, ?_⟩
      rw [hag m hmlt]
      simp only [SH.roden, T.den, e0, e2]
      exact hro
    · exact hc.vw y hy

theorem viewMs_sub {ow : List Nat} {s : S} {t : Nat} : ∀ m ∈ viewMs ow s t, m ∈ absVars s.heap ++ absVars s.ro := fun m hm => by
  unfold viewMs at hm
  split at hm
  · exact List.mem_append_left _ hm
  · split at hm
    · exact List.mem_append_right _ hm
    · exact hm

theorem viewT_den {ow : List Nat} {t el : Nat} {pat : List CK} {k : S → Out} (hs : Holds ρ hF s a w) (h : (viewT ow s t el pat k).den E ρ) : Anew E hF ρ s a w k := by
  unfold viewT at h
  split at h
  · rename_i x hl
    split at h
    · split at h
      · rename_i hsc
        simp only [Bool.and_eq_true, Nat.blt_eq] at hsc
        exact view_core (ms := viewMs ow s t) viewMs_sub (x := x) (sv := .one (.vslice s.nx (.lit 0) (.dlen (.var (s.nx + 2))) (.var (s.nx + 1)) pat.length)) hs hsc.1 hl (fun ρ' _ h2 => h2) (mkView_link h)
      · exact h.elim
    · exact Anew.self hs h
  · exact Anew.self hs h

theorem denVs_eq (ρ : Env) : ∀ ts : List T, denVs ρ ts = ts.map fun t => (t.den ρ).v
  | [] => rfl
  | t :: ts => by rw [List.map_cons, ← denVs_eq ρ ts]; rfl
theorem viewA_den {t j el : Nat} {pat : List CK} {k : S → Out} (hs : Holds ρ hF s a w) (h : (viewA s t j el pat k).den E ρ) : Anew E hF ρ s a w k := by
  unfold viewA at h
  split at h
  · rename_i cs hl
    split at h
    · rename_i x hx
      split at h
      · split at h
        · rename_i hsc
          simp only [Bool.and_eq_true, Nat.blt_eq] at hsc
          refine view_core (ms := absVars s.heap ++ absVars s.ro) (fun _ h => h) (x := x) (sv := .agg (cs.set j (.vslice s.nx (.lit 0) (.dlen (.var (s.nx + 2))) (.var (s.nx + 1)) pat.length))) hs hsc.1 hl (fun ρ' h1 h2 => ?_) (view_link h)
          simp only [SV.den, Value.agg.injEq, denVs_eq] at h1 ⊢
          have h1 : cs.map (fun t => (t.den ρ').v) = cs.map fun t => (t.den ρ).v := by simpa using h1
          rw [List.map_set, h2, h1]
          congr 1
          apply List.ext_getElem?
          intro i
          rw [List.getElem?_set]
          split
          · rename_i hij
            subst hij
            split
            · rw [List.getElem?_map, hx]; rfl
            · rename_i hlt
              rw [List.getElem?_eq_none (by omega)]
          · rfl
        · exact h.elim
      · exact Anew.self hs h
    · exact Anew.self hs h
  · exact Anew.self hs h

theorem viewsA_den : ∀ {l : List (Nat × Nat × Nat × List CK)} {s : S} {ρ : Env} {k : S → Out}, Holds ρ hF s a w → (viewsA s l k).den E ρ → Anew E hF ρ s a w k
  | [], s, ρ, k, hs, h => Anew.self hs h
  | (t, j, el, pat) :: l, s, ρ, k, hs, h => by
    simp only [viewsA] at h
    exact (viewA_den hs h).bind fun ρ' s' _ _ hs' h' => viewsA_den hs' h'

theorem viewsK_den {ow : List Nat} : ∀ {l : List (Nat × Nat × List CK)} {s : S} {ρ : Env} {k : S → Out}, Holds ρ hF s a w → (viewsK ow s l k).den E ρ → Anew E hF ρ s a w k
  | [], s, ρ, k, hs, h => Anew.self hs h
  | (t, el, pat) :: l, s, ρ, k, hs, h => by
    simp only [viewsK] at h
    exact (viewT_den hs h).bind fun ρ' s' _ _ hs' h' => viewsK_den hs' h'

theorem ownBound_sound {t c : T} (hs : Holds ρ hF s a w) (h : ownBound s t = some c) : (c.den ρ).b = true := by
  unfold ownBound at h
  split at h
  · split at h
    · rename_i k rr ty pat d cap hat
      simp only [Option.some.injEq] at h; subst h
      obtain ⟨hk, hreg⟩ := heapAt_spec hat
      obtain ⟨hO, hd, hst, hsub, hwi⟩ := hs.hp
      obtain ⟨t1, t2, td, tu, tx, ts⟩ := star_take hst hk
      rw [mkCmp_den _ _ _ (by simp), mkDlen_den]
      simp only [cmpOf, decide_eq_true_eq]
      rcases tx with ⟨_, h2, h3⟩ | ⟨b, c, h1, h2, h3, h4, h5⟩
      · rw [h2, h3]; simp
      · exact h4
    · cases h
  · cases h
theorem boundIn_sound {x : Operand} {c : T} (hs : Holds ρ hF s a w) (h : boundIn s x = some c) : (c.den ρ).b = true := by
  unfold boundIn at h
  split at h
  · obtain ⟨t, _, ht⟩ := List.exists_of_findSome?_eq_some h
    exact ownBound_sound hs ht
  · split at h
    · obtain ⟨t, _, ht⟩ := List.exists_of_findSome?_eq_some h
      exact ownBound_sound hs ht
    · cases h
  · cases h
theorem knowOf_sound {ip : List (Nat × Nat)} {o : Oper} {c : T} (hs : Holds ρ hF s a w) (h : knowOf ip s o = some c) : (c.den ρ).b = true := by
  have key : ∀ {x : Operand} {c : T}, (match opd s x with
    | some (.one (.c3 (.vslice r _) _ _ _)) =>
      match heapAt r s.heap with
      | some (_, .arr _ _ _ d cap) => some (mkCmp .leq (mkDlen d) cap)
      | _ => none
    | _ => none) = some c → (c.den ρ).b = true := by
    intro x c h
    split at h
    · split at h
      · rename_i r' p' off len cap' hx _ k rr ty pat d cap hat
        simp only [Option.some.injEq] at h; subst h
        obtain ⟨hk, hreg⟩ := heapAt_spec hat
        obtain ⟨hO, hd, hst, hsub, hwi⟩ := hs.hp
        obtain ⟨t1, t2, td, tu, tx, ts⟩ := star_take hst hk
        rw [mkCmp_den _ _ _ (by simp), mkDlen_den]
        simp only [cmpOf, decide_eq_true_eq]
        rcases tx with ⟨_, h2, h3⟩ | ⟨b, c, h1, h2, h3, h4, h5⟩
        · rw [h2, h3]; simp
        · exact h4
      · cases h
    · cases h
  unfold knowOf at h
  simp only at h
  split at h
  · exact key h
  · split at h
    · split at h
      · exact key h
      · cases h
    · cases h
  · cases h
  · split at h
    · split at h
      · obtain ⟨x, _, hx⟩ := List.exists_of_findSome?_eq_some h
        exact key hx
      · split at h
        · obtain ⟨x, _, hx⟩ := List.exists_of_findSome?_eq_some h
          exact boundIn_sound hs hx
        · cases h
    · cases h
  · cases h

theorem knowK_den {ip : List (Nat × Nat)} {o : Oper} {k : S → Out} (hs : Holds ρ hF s a w) (h : (knowK ip s o k).den E ρ) : Anew E hF ρ s a w k := by
  unfold knowK at h
  split at h
  · rename_i c hc
    split at h
    · exact Anew.self hs h
    · have hc := knowOf_sound hs hc
      exact ⟨ρ, { s with pc := (c, true) :: s.pc }, fun _ _ => rfl, Nat.le_refl _, hs.withPc _ (fun c' b hm => by
        cases hm with
        | head => exact hc
        | tail _ hm => exact hs.pc c' b hm), rfl, rfl, h hc⟩
  · exact Anew.self hs h

theorem knowT_den {ip : List (Nat × Nat)} {o : Oper} {k : S → Out} (hs : Holds ρ hF s a w) (h : (knowT ip s o k).den E ρ) : ∃ pc, Holds ρ hF { s with pc := pc } a w ∧ (k { s with pc := pc }).den E ρ := by
  unfold knowT at h
  split at h
  · unfold knowK at h
    split at h
    · rename_i c hc
      split at h
      · exact ⟨s.pc, hs, h⟩
      · have hc := knowOf_sound hs hc
        exact ⟨(c, true) :: s.pc, hs.withPc _ (fun c' b hm => by
          cases hm with
          | head => exact hc
          | tail _ hm => exact hs.pc c' b hm), h hc⟩
    · exact ⟨s.pc, hs, h⟩
  · exact ⟨s.pc, hs, h⟩

theorem viewsOf_roden {s' : S} {H : Hp} (hvw : ∀ x ∈ s'.vw, ∃ m ∈ x.1, x.2.roden ρ (ρ m).h) (hp : ∀ m, s'.piece m = true → Hp.le (ρ m).h H) : ∀ x ∈ viewsOf s', x.roden ρ H := by
  intro x hx
  unfold viewsOf at hx
  obtain ⟨y, hy, rfl⟩ := List.mem_map.1 hx
  obtain ⟨h1, h2⟩ := List.mem_filter.1 hy
  obtain ⟨m, hm, hr⟩ := hvw y h1
  exact SH.ro_mono hr (hp m (List.all_eq_true.1 h2 m hm))

end Go.Eng

set_option linter.unusedSimpArgs false
set_option linter.unusedVariables false
namespace Go.Eng
open Go
variable {ρ : Env} {hF : Fr} {s : S} {a : Act} {w : World} {E : Ctx}

theorem left_sound {σ : Sg} {cs : List T} (h : σ.left = some cs) (hc : ∀ c ∈ cs, (c.den ρ).b = true) : Sat σ ρ := by
  unfold Sg.left at h
  split at h
  · rename_i x y z hx hy hz
    simp only [Option.some.injEq] at h; subst h
    refine ⟨?_, ?_, ?_⟩
    · exact eqs_sound (ρ := ρ) _ (fun p a => (p.den (σ.env ρ)).i = (a.den ρ).i) (fun p p' a hp hs => by rw [← Sg.sub_den hp, T.same_eq hs])
        (fun p p' a c hp hf hb => by
          simp only [Option.some.injEq] at hf; subst hf
          rw [mkCmp_den _ _ _ (by simp)] at hb
          rw [← Sg.sub_den hp]
          simpa [cmpOf] using hb) hx (fun c hm => hc c (by simp [hm]))
    · exact eqs_sound (ρ := ρ) _ (fun p a => (p.den (σ.env ρ)).b = (a.den ρ).b) (fun p p' a hp hs => by rw [← Sg.sub_den hp, T.same_eq hs])
        (fun p p' a c hp hf hb => by
          simp only [Option.some.injEq] at hf; subst hf
          rw [mkBeq_den] at hb
          rw [← Sg.sub_den hp]
          simpa using hb) hy (fun c hm => hc c (by simp [hm]))
    · exact eqs_sound (ρ := ρ) _ (fun p a => (p.den (σ.env ρ)).d = (a.den ρ).d) (fun p p' a hp hs => by rw [← Sg.sub_den hp, T.same_eq hs])
        (fun p p' a c hp hf hb => by simp at hf) hz (fun c hm => hc c (by simp [hm]))
  · simp at h

theorem Bd.den_good (hg : ρ.good) (b : Bd) : (b.den ρ).good := by
  cases b with
  | t x => exact T.den_good hg x
  | r m => exact hg m
  | nil => simp [Bd.den, U.good, Value.oneCell']
theorem Sg.env_good (hg : ρ.good) (σ : Sg) : (σ.env ρ).good := fun n => by
  unfold Sg.env
  split
  · exact hg n
  · split
    · exact Bd.den_good hg _
    · simp [U.good, Value.oneCell']

/-! ### The guard of an operation -/

theorem guardT_sound {ops : Array Oper} {o : Oper} {g : Option (T × Bool)} (hs : Holds ρ hF s a w) (h : guardT ops s o = some g) :
    match g with
    | none => Region.wanted o (yielded ops a.tmps) = true
    | some (c, want) => Region.wanted o (yielded ops a.tmps) = decide ((c.den ρ).b = want) := by
  unfold guardT at h
  unfold Region.wanted
  split at h
  · rename_i hg
    simp only [Option.some.injEq] at h; subst h
    simp [hg]
  · rename_i j want hg
    split at h
    · rename_i t ht
      split at h
      · rename_i c hl
        simp only [Option.some.injEq] at h; subst h
        have he := hs.env t _ hl
        simp only [SV.den, T.den, O1.den] at he
        have : a.tmps[t]? = some (.bool (c.den ρ).b) := by
          rw [Array.getD_eq_getD_getElem?] at he
          cases hx : a.tmps[t]? with
          | none => rw [hx] at he; simp [undef] at he
          | some v => rw [hx] at he; simpa using he
        simp only [hg, yielded, ht, Option.bind_some, this]
        cases (c.den ρ).b <;> cases want <;> rfl
      · rename_i hl
        simp only [Option.some.injEq] at h; subst h
        have he := hs.env t _ hl
        simp only [SV.den, List.map_nil] at he
        have : yielded ops a.tmps j = none := by
          simp only [yielded, ht, Option.bind_some]
          rw [Array.getD_eq_getD_getElem?] at he
          cases hx : a.tmps[t]? with
          | none => rfl
          | some v => rw [hx] at he; simp only [Option.getD_some] at he; subst he; rfl
        simp only [hg, this, T.den, O0.den]
        cases want <;> rfl
      · simp at h
    · simp at h

/-! ### Results -/

def resSem (tmps : Array Value) : ResultVar → Sem Value
  | .tmp t => pure (tmps.getD t undef)
  | .cell a t => do loadVar t (← asAddr (tmps.getD a undef))

theorem results_eq (fn : Func) (tmps : Array Value) : results fn tmps = (do let vs ← fn.results.mapM (resSem tmps); pure (if h : vs.size = 1 then vs[0] else .tuple vs)) := by
  unfold results
  congr 2

theorem resOne_sound {r : ResultVar} {P : Program} {v : SV} (hs : Holds ρ hF s a w) (h : resOne P s r = some v) : (resSem a.tmps r).run P w = .ok (v.den ρ) w := by
  cases r with
  | tmp t => simp only [resOne] at h; simp only [resSem, Sem.run_pure, hs.env t v h]
  | cell x t =>
    simp only [resOne] at h
    simp only [resSem]
    split at h
    · rename_i rg p c e ag n hx hag hsz
      have hev := hs.env x _ hx
      split at h
      · rename_i k y hat
        obtain ⟨H, hsub, hro, hreg⟩ := hs.found (r := rg) (k := k) (x := y) (by simp [S.look, hat])
        split at h
        · rename_i cs hrd
          obtain ⟨hl, b, off, c', ty, fr, h1, h2, h3⟩ := readH_sound hrd hro hreg (by simp)
          simp only [SV.den, T.den, O1.den, h1, addrOf, Option.map_some] at hev
          simp only [Sem.run_bind, hev, asAddr, Sem.run_pure, Result.andThen_ok]
          split at h
          · rename_i hagt
            simp only [Option.some.injEq] at h; subst h; subst hagt
            rw [run_loadVar (P := P) (w := w) hag hsz (hsub _ _ h2) (by simp [denVs, hl]) h3 (by simp)]
            simp [SV.den]
          · rename_i hagf
            split at h
            · rename_i t' _
              simp only [Option.some.injEq] at h; subst h
              have hagf' : ag = false := by simpa using hagf
              subst hagf'
              rw [run_loadVar (P := P) (w := w) hag hsz (hsub _ _ h2) (by rw [← hl]; simp [denVs]) h3 (fun _ => by rw [← hl]; rfl)]
              simp [SV.den, denVs]
            · simp at h
        · simp at h
      · simp at h
    · simp at h

theorem flatSV_den {v : SV} {x : Bool × List T} (h : flatSV v = some x) : den1 ρ x = v.den ρ := by
  unfold flatSV at h
  split at h <;> simp only [Option.some.injEq, reduceCtorEq] at h <;> subst h <;> simp [SV.den, den1, denVs]

theorem resAll_sound {P : Program} (hs : Holds ρ hF s a w) : ∀ {rs : List ResultVar} {l : List (Bool × List T)}, resAll P s rs = some l →
    (rs.mapM (resSem a.tmps)).run P w = .ok (l.map (den1 ρ)) w ∧ l.length = rs.length
  | [], l, h => by simp only [resAll, Option.some.injEq] at h; subst h; simp
  | r :: rs, l, h => by
    simp only [resAll] at h
    split at h
    · rename_i x l' hx hl
      simp only [Option.some.injEq] at h; subst h
      simp only [Option.bind_eq_some_iff] at hx
      obtain ⟨v, hv, hf⟩ := hx
      have h1 := resOne_sound hs hv
      obtain ⟨h2, h3⟩ := resAll_sound hs hl
      simp only [List.mapM_cons, Sem.run_bind, h1, h2, Result.andThen_ok, Sem.run_pure, List.map_cons, flatSV_den hf, List.length_cons, h3, and_self]
    · simp at h

theorem resultSV_sound {fn : Func} {P : Program} {v : SV} (hs : Holds ρ hF s a w) (h : resultSV fn s P = some v) : (results fn a.tmps).run P w = .ok (v.den ρ) w := by
  unfold resultSV at h
  rw [results_eq]
  simp only [Sem.run_bind, Array.mapM_eq_mapM_toList, Sem.run_map]
  split at h
  · rename_i r hr
    have h1 := resOne_sound hs h
    rw [hr]
    simp only [List.mapM_cons, List.mapM_nil, Sem.run_bind, h1, Result.andThen_ok, Sem.run_pure]
    simp
  · rename_i rs hne
    simp only [Option.map_eq_some_iff] at h
    obtain ⟨vs, hvs, rfl⟩ := h
    obtain ⟨h1, hl⟩ := resAll_sound hs hvs
    rw [h1]
    simp only [Result.andThen_ok, Sem.run_pure]
    have hne1 : ¬ (vs.map (den1 ρ)).toArray.size = 1 := by
      intro h1
      simp only [List.size_toArray, List.length_map] at h1
      rw [hl] at h1
      match hrs : fn.results.toList, h1 with
      | [x], _ => exact hne x hrs
    rw [dif_neg hne1]
    simp [SV.den]

end Go.Eng

set_option linter.unusedSimpArgs false
set_option linter.unusedVariables false
namespace Go.Eng
open Go
variable {P : Program} {ops : Array Oper} {Q : Exit → Act → World → Prop} {md : Region.Mode} {S : World → Prop} {A : List Nat}

def Closed (md : Region.Mode) (ops : Array Oper) (listed : Array Bool) : Prop :=
  ∀ j o, ops[j]? = some o → listed.getD j false = true → ∀ e ∈ o.after, Region.binds md e = true → listed.getD e.on false = true

theorem closed_set {listed : Array Bool} {j : Nat} (h : Closed md ops listed) (hj : j ∈ Region.ready md ops listed) : Closed md ops (listed.setIfInBounds j true) := by
  intro k o ho hk e he hb
  obtain ⟨hjun, oj, hoj, hall⟩ := mem_ready.1 hj
  have mono : ∀ n, listed.getD n false = true → (listed.setIfInBounds j true).getD n false = true := fun n hn => by
    simp only [Array.getD_eq_getD_getElem?] at hn ⊢
    rw [Array.getElem?_setIfInBounds]
    split
    · rename_i hjn; subst hjn
      split
      · rfl
      · rename_i hlt
        rw [Array.getElem?_eq_none (by omega)] at hn; cases hn
    · exact hn
  by_cases hkj : k = j
  · subst hkj
    rw [hoj] at ho; cases ho
    exact mono _ (hall e he hb)
  · refine mono _ (h k o ho ?_ e he hb)
    simp only [Array.getD_eq_getD_getElem?] at hk ⊢
    rw [Array.getElem?_setIfInBounds_ne (Ne.symm hkj)] at hk
    exact hk

theorem closed_start (n : Nat) : Closed md ops (Array.replicate n false) := by
  intro j o _ hj
  simp only [Array.getD_eq_getD_getElem?, Array.getElem?_replicate] at hj
  split at hj <;> cases hj

inductive Reach (md : Region.Mode) (ops : Array Oper) : Nat → Nat → Prop where
  | one {j : Nat} {o : Oper} {e : Edge} (ho : ops[j]? = some o) (he : e ∈ o.after) (hb : Region.binds md e = true) : Reach md ops j e.on
  | step {j i : Nat} {o : Oper} {e : Edge} (ho : ops[j]? = some o) (he : e ∈ o.after) (hb : Region.binds md e = true) (h : Reach md ops e.on i) : Reach md ops j i

theorem mask_spec {acc : Array Nat} {i : Nat} : ∀ {l : List Edge} {m0 : Nat}, (l.foldl (fun m e => if Region.binds md e then m ||| 2 ^ e.on ||| acc.getD e.on 0 else m) m0).testBit i = true →
    m0.testBit i = true ∨ ∃ e ∈ l, Region.binds md e = true ∧ (e.on = i ∨ (acc.getD e.on 0).testBit i = true)
  | [], m0, h => .inl h
  | e :: l, m0, h => by
    simp only [List.foldl_cons] at h
    rcases mask_spec h with h | ⟨e', he', hb, hx⟩
    · split at h
      · rename_i hb
        simp only [Nat.testBit_or, Bool.or_eq_true, Nat.testBit_two_pow, decide_eq_true_eq] at h
        rcases h with (h | h) | h
        · exact .inl h
        · exact .inr ⟨e, List.mem_cons_self .., hb, .inl h⟩
        · exact .inr ⟨e, List.mem_cons_self .., hb, .inr h⟩
      · exact .inl h
    · exact .inr ⟨e', List.mem_cons_of_mem _ he', hb, hx⟩

theorem cloGo_spec : ∀ (l : List Oper) (acc : Array Nat), (∀ n : Nat, l[n]? = ops[acc.size + n]?) → (∀ j m, acc[j]? = some m → ∀ i, m.testBit i = true → Reach md ops j i) →
    ∀ j m, (cloGo md l acc)[j]? = some m → ∀ i, m.testBit i = true → Reach md ops j i
  | [], acc, _, hi => hi
  | o :: r, acc, hl, hi => by
    simp only [cloGo]
    have ho : ops[acc.size]? = some o := by have := hl 0; simpa using this.symm
    refine cloGo_spec r _ (fun n => ?_) (fun j m hj i hb => ?_)
    · have := hl (n + 1)
      simp only [List.getElem?_cons_succ] at this
      rw [this, Array.size_push]; congr 1; omega
    · rw [Array.getElem?_push] at hj
      split at hj
      · rename_i hje
        subst hje
        simp only [Option.some.injEq] at hj; subst hj
        rcases mask_spec hb with h | ⟨e, he, hbe, hx⟩
        · simp at h
        · have he := Array.mem_toList_iff.1 he
          rcases hx with rfl | hx
          · exact .one ho he hbe
          · refine .step ho he hbe ?_
            rw [Array.getD_eq_getD_getElem?] at hx
            cases ha : acc[e.on]? with
            | none => rw [ha] at hx; simp at hx
            | some m' => rw [ha] at hx; exact hi _ _ ha i hx
      · exact hi j m hj i hb

theorem reach_listed {listed : Array Bool} (hc : Closed md ops listed) {j i : Nat} (h : Reach md ops j i) : (∀ o, ops[j]? = some o → ∀ e ∈ o.after, Region.binds md e = true → listed.getD e.on false = true) → listed.getD i false = true := by
  induction h with
  | one ho he hb => intro hall; exact hall _ ho _ he hb
  | step ho he hb _ ih => intro hall; exact ih fun o2 ho2 e2 he2 hb2 => hc _ _ ho2 (hall _ ho _ he hb) e2 he2 hb2

theorem late_absurd {listed : Array Bool} {i j : Nat} (hc : Closed md ops listed) (hj : j ∈ Region.ready md ops listed) (hi : i ∈ Region.ready md ops listed) (hiA : i ∈ A) : lateOp md ops A j = false := by
  cases hl : lateOp md ops A j with
  | false => rfl
  | true =>
    exfalso
    obtain ⟨hjun, oj, hoj, hall⟩ := mem_ready.1 hj
    have hun : ¬ (listed.getD i false = true) := fun h1 => by
      have h0 := (mem_ready.1 hi).1
      simp only [Array.getD_eq_getD_getElem?] at h0 h1
      cases hx : listed[i]? with
      | none => rw [hx] at h1; cases h1
      | some b => rw [hx] at h0 h1; simp only [Option.getD_some] at h0 h1; rw [h0] at h1; cases h1
    unfold lateOp at hl
    split at hl
    · rename_i m hm
      have hb := List.all_eq_true.1 hl i hiA
      have hr := cloGo_spec (md := md) (ops := ops) ops.toList #[] (by simp) (by simp) j m hm i hb
      exact hun (reach_listed hc hr fun o ho e he hbe => by
        rw [hoj] at ho; cases ho
        exact hall e he hbe)
    · cases hl

/-- Whatever order is picked from here on; S holds behind every operation but the late ones. -/
def wpAnyE (P : Program) (md : Region.Mode) (ops : Array Oper) (A : List Nat) (Q : Exit → Act → World → Prop) (S : World → Prop) : Nat → Array Bool → Act → World → Prop
  | 0, listed, a, w => Region.ready md ops listed = [] ∧ Q .normal a w
  | fuel + 1, listed, a, w => Closed md ops listed →
    (Region.ready md ops listed = [] → Q .normal a w) ∧
    ∀ i ∈ Region.ready md ops listed, wpOp P ops Q i (fun a' w' => (lateOp md ops A i = true ∨ S w') ∧ wpAnyE P md ops A Q S fuel (listed.setIfInBounds i true) a' w') a w

theorem wpAny_of_E : ∀ (fuel : Nat) (listed : Array Bool) (a : Act) (w : World), Closed md ops listed → wpAnyE P md ops A Q S fuel listed a w → wpAny P md ops Q fuel listed a w
  | 0, _, _, _, _, h => h
  | fuel + 1, _, _, _, hc, h => ⟨(h hc).1, fun i hi => wpOp_mono (fun a' w' h' => wpAny_of_E fuel _ a' w' (closed_set hc hi) h'.2) ((h hc).2 i hi)⟩

theorem wpAnyE_first {i : Nat} {oi : Oper} {v : Value} (hi : ops[i]? = some oi) (hiA : i ∈ A) (hsel : ∀ (j : Nat) (o : Oper) cs b, ops[j]? = some o → o.op ≠ .select cs b)
    (hQ : ∀ c a w, Q (.panic c) (a.put oi.dst v) w → Q (.panic c) a w) :
    ∀ (fuel : Nat) (listed : Array Bool) (a : Act) (w : World),
      (∀ j oj, ops[j]? = some oj → j ≠ i → listed.getD j true = false → (∀ e ∈ oj.after, Region.binds md e = true → e.on ≠ i) → oi.apart ops oj = true) →
      i ∈ Region.ready md ops listed → YieldsIf P ops S oi v a → S w →
      wpAnyE P md ops A Q S fuel (listed.setIfInBounds i true) (a.put oi.dst v) w → wpAnyE P md ops A Q S (fuel + 1) listed a w := by
  intro fuel
  induction fuel with
  | zero =>
    intro listed a w _ hr hy hS H hc
    refine ⟨fun h => (by rw [h] at hr; cases hr), fun j hj => ?_⟩
    by_cases hji : j = i
    · subst hji; exact hy.wpOp hi hS ⟨.inr hS, H⟩
    · have := ready_mono hj hji
      rw [H.1] at this
      cases this
  | succ fuel ih =>
    intro listed a w hfree hr hy hS H hc
    refine ⟨fun h => (by rw [h] at hr; cases hr), fun j hj => ?_⟩
    by_cases hji : j = i
    · subst hji; exact hy.wpOp hi hS ⟨.inr hS, H⟩
    · have h1 := (H (closed_set hc hr)).2 j (ready_mono hj hji)
      obtain ⟨hjun, oj, hoj, hall⟩ := mem_ready.1 hj
      have hnot : ∀ e ∈ oj.after, Region.binds md e = true → e.on ≠ i := fun e he hb heq => by
        have h1 := hall e he hb
        have h0 := (mem_ready.1 hr).1
        rw [heq] at h1
        rcases Nat.lt_or_ge i listed.size with h' | h'
        · simp [h'] at h0 h1; rw [h0] at h1; cases h1
        · simp [Array.getElem?_eq_none h'] at h1
      have h2 := wpOp_putIf hoj (hfree j oj hoj hji hjun hnot) (fun cs b => hsel i oi cs b hi) (fun cs b => hsel j oj cs b hoj) hQ hy h1
      have hfree' : ∀ k ok, ops[k]? = some ok → k ≠ i → (listed.setIfInBounds j true).getD k true = false →
          (∀ e ∈ ok.after, Region.binds md e = true → e.on ≠ i) → oi.apart ops ok = true := fun k ok hk hki hun hno => by
        refine hfree k ok hk hki ?_ hno
        by_cases hjk : j = k
        · subst hjk; exact hjun
        · rw [getD_set_ne true hjk] at hun; exact hun
      have hlate := late_absurd (A := A) hc hj hr hiA
      refine wpOp_mono (fun a' w' h3 => ?_) h2
      have hSw : S w' := h3.2.1.resolve_left (by rw [hlate]; simp)
      refine ⟨.inr hSw, ih (listed.setIfInBounds j true) a' w' hfree' (ready_mono hr (Ne.symm hji)) h3.1 hSw ?_⟩
      rw [Array.setIfInBounds_comm _ _ hji]
      exact h3.2.2

theorem wpAnyE_take {i : Nat} {oi : Oper} {v : Value} {fuel : Nat} {listed : Array Bool} {a : Act} {w : World} (hi : ops[i]? = some oi) (hiA : i ∈ A)
    (hs : Region.noSelect ops = true) (hf : Region.free md ops listed i = true) (hr : (Region.ready md ops listed).contains i = true)
    (hQ : ∀ c a w, Q (.panic c) (a.put oi.dst v) w → Q (.panic c) a w) (hy : YieldsIf P ops S oi v a) (hS : S w)
    (h : wpAnyE P md ops A Q S fuel (listed.setIfInBounds i true) (a.put oi.dst v) w) : wpAnyE P md ops A Q S (fuel + 1) listed a w :=
  wpAnyE_first hi hiA (Region.noSelect_spec hs) hQ fuel listed a w (Region.free_spec hi hf) (by simpa using hr) hy hS h

theorem wpAnyE_all {rs : List Nat} {fuel : Nat} {listed : Array Bool} {a : Act} {w : World} (hr : Region.ready md ops listed = rs) (hne : rs ≠ [])
    (h : ∀ i ∈ rs, wpOp P ops Q i (fun a' w' => (lateOp md ops A i = true ∨ S w') ∧ wpAnyE P md ops A Q S fuel (listed.setIfInBounds i true) a' w') a w) : wpAnyE P md ops A Q S (fuel + 1) listed a w :=
  fun _ => ⟨fun h0 => absurd (hr ▸ h0) hne, hr ▸ h⟩

theorem wpAnyE_done {listed : Array Bool} {a : Act} {w : World} (hr : Region.ready md ops listed = []) (h : Q .normal a w) :
    ∀ fuel, wpAnyE P md ops A Q S fuel listed a w
  | 0 => ⟨hr, h⟩
  | _ + 1 => fun _ => ⟨fun _ => h, by rw [hr]; simp⟩

theorem wp_region_E {id : Nat} {a : Act} {w : World} (hm : P.follows .mixedOrders = true)
    (h : wpAnyE P .any ops A Q S ops.size (Array.replicate ops.size false) a { w with drawn := w.drawn + 1 }) : (Code.region id ops true).wp P Q a w :=
  wp_region_any hm (wpAny_of_E _ _ _ _ (closed_start _) h)

end Go.Eng
