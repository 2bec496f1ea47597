/- Texts E8, E8b, E8c. -/
import Derived.Test.YtelcnkclppkicaaDoorG2
import Derived.Great.BuildSlice
import Derived.Laws.BytesArg
set_option linter.unusedSimpArgs false
set_option linter.unusedVariables false
namespace Go.Eng
open Go
variable {P : Program} {ρ : Env} {hF : Fr} {s : S} {a : Act} {w : World} {o : Oper} {r : R1}

def setL (ρ : Env) (n : Nat) : List U → Env
  | [] => ρ
  | u :: us => setL (ρ.set n u) (n + 1) us

def Ran (P : Program) (a : Act) (o : Oper) (ρ : Env) (val : Option SV) (w w' : World) : Prop :=
  match val with
  | some v => (execOp a.eval o).run P w = .ok (.value (v.den ρ)) w'
  | none => (execOp a.eval o).run P w = .ok .skip w'

def StepOk (P : Program) (ρ : Env) (hF : Fr) (s : S) (a : Act) (w : World) (o : Oper) (r : R1) : Prop :=
  ∃ us w', us.length = r.fresh ∧ (∀ u ∈ us, u.good) ∧ HeapOk (setL ρ s.nx us) hF r.heap w' ∧ Ran P a o (setL ρ s.nx us) r.val w w' ∧ (r.fresh = 0 → r.val.isSome = true → w' = w)

theorem StepOk.quiet {needs : List T} {v : SV} (hs : Holds ρ hF s a w) (h : (execOp a.eval o).run P w = .ok (.value (v.den ρ)) w) :
    StepOk P ρ hF s a w o { needs, fresh := 0, heap := s.heap, val := some v } :=
  ⟨[], w, rfl, by simp, hs.hp, h, fun _ _ => rfl⟩

theorem step_move {x : Operand} (hs : Holds ρ hF s a w) (hop : o.op = .move x ∨ o.op = .assign x) (h : (opd s x).map (quiet s) = some r) : StepOk P ρ hF s a w o r := by
  simp only [Option.map_eq_some_iff] at h
  obtain ⟨v, hv, rfl⟩ := h
  refine StepOk.quiet hs ?_
  have := hs.opd hv
  rcases hop with hop | hop <;> simp [execOp, hop, this]

theorem known_sound (hs : Holds ρ hF s a w) {c : T} {b : Bool} (h : known c s.pc = some b) : (c.den ρ).b = b := by
  have look : ∀ {l : List (T × Bool)} {c : T} {b : Bool}, (∀ c b, (c, b) ∈ l → (c.den ρ).b = b) → lookP c l = some b → (c.den ρ).b = b := by
    intro l
    induction l with
    | nil => intro c b _ h; simp [lookP] at h
    | cons x l ih =>
      intro c b hl h
      obtain ⟨k, b'⟩ := x
      simp only [lookP] at h
      split at h
      · rename_i hsame
        simp only [Option.some.injEq] at h
        rw [T.same_eq hsame, ← h]
        exact hl k b' (List.mem_cons_self ..)
      · exact ih (fun c b hm => hl c b (List.mem_cons_of_mem _ hm)) h
  unfold known at h
  split at h
  · simp only [Option.some.injEq] at h; subst h; rfl
  · simp only [Option.map_eq_some_iff] at h
    obtain ⟨b', h1, rfl⟩ := h
    simp [T.den, O1.den, look hs.pc h1]
  · exact look hs.pc h

theorem step_pick {c x y : Operand} (hs : Holds ρ hF s a w) (hop : o.op = .pick c x y) (h : stepOp P s o = some r) : StepOk P ρ hF s a w o r := by
  simp only [stepOp, hop] at h
  split at h
  · rename_i t ht
    have hc := hs.opd ht
    simp only [SV.den, T.den, O1.den] at hc
    split at h
    · rename_i hk
      have hk := known_sound hs hk
      simp only [Option.map_eq_some_iff] at h
      obtain ⟨v, hv, rfl⟩ := h
      refine StepOk.quiet hs ?_
      simp [execOp, hop, hc, hk, asBool, hs.opd hv]
    · rename_i hk
      have hk := known_sound hs hk
      simp only [Option.map_eq_some_iff] at h
      obtain ⟨v, hv, rfl⟩ := h
      refine StepOk.quiet hs ?_
      simp [execOp, hop, hc, hk, asBool, hs.opd hv]
    · simp at h
  · simp at h

theorem new_ptr (ρ : Env) (n b : Nat) : SV.den (ρ.set n { r := some ⟨b, 0, none⟩ }) (.one (.vptr n (.lit 0) 0 0)) = .pointer (some ⟨b, 0, none⟩) := by
  simp [SV.den, T.den, O0.den, O1.den, addrOf]

theorem step_box {ty : TypeId} {x : Operand} (hs : Holds ρ hF s a w) (hop : o.op = .box ty x) (hsc : s.scopedEH = true) (h : stepOp P s o = some r) : StepOk P ρ hF s a w o r := by
  simp only [stepOp, hop] at h
  split at h
  · rename_i cs hcs
    simp only [Option.some.injEq] at h; subst h
    simp only [Option.bind_eq_some_iff] at hcs
    obtain ⟨v, hv, hc⟩ := hcs
    have hin := cells_in hc (opd_in hsc hv)
    have hev := hs.opd hv
    have hcd := cells_den hs.gd hc
    have hg : denVs (ρ.set s.nx { r := some ⟨w.heap.size, 0, none⟩ }) cs = denVs ρ cs := denVs_congr (fun m hm => Env.set_ne ρ _ (by omega)) cs hin
    have hsh : s.heap.all (SH.inB s.nx) = true := by simp only [S.scopedEH, Bool.and_eq_true] at hsc; exact hsc.2
    refine ⟨[{ r := some ⟨w.heap.size, 0, none⟩ }], _, rfl, by simp [U.good, Value.oneCell'], HeapOk.alloc hs.hp hsh (c := (v.den ρ).cells) (by rw [hg, hcd]), ?_, fun h => by cases h⟩
    simp only [Ran, setL, new_ptr]
    simp [execOp, hop, hev, Instr.box, newVar, newRow]
  · simp at h

theorem step_alloc {ty : TypeId} (hs : Holds ρ hF s a w) (hop : o.op = .alloc ty) (hsc : s.scopedEH = true) (h : stepOp P s o = some r) : StepOk P ρ hF s a w o r := by
  simp only [stepOp, hop] at h
  split at h
  · rename_i cs hcs
    simp only [Option.some.injEq] at h; subst h
    obtain ⟨v, hz, hcd⟩ := zeroP_run (P := P) (ρ := ρ.set s.nx { r := some ⟨w.heap.size, 0, none⟩ }) hcs w
    have hsh : s.heap.all (SH.inB s.nx) = true := by simp only [S.scopedEH, Bool.and_eq_true] at hsc; exact hsc.2
    refine ⟨[{ r := some ⟨w.heap.size, 0, none⟩ }], _, rfl, by simp [U.good, Value.oneCell'], HeapOk.alloc hs.hp hsh (c := v.cells) (by rw [hcd]), ?_, fun h => by cases h⟩
    simp only [Ran, setL, new_ptr]
    simp [execOp, hop, Instr.alloc, hz, newVar, newRow]
  · simp at h

theorem isLit_eq {t : T} {z : Int} (h : t.isLit = some z) : t = .lit z := by
  unfold T.isLit at h; split at h <;> simp_all

theorem step_load {t : TypeId} {x : Operand} (hs : Holds ρ hF s a w) (hop : o.op = .load t x) (h : stepOp P s o = some r) (hn : ∀ c ∈ r.needs, (c.den ρ).b = true) : StepOk P ρ hF s a w o r := by
  simp only [stepOp, hop] at h
  split at h
  · rename_i rg p c e ag n hx hag hsz
    have hev := hs.opd hx
    split at h
    · rename_i k y hf
      obtain ⟨H, hsub, hro, hreg⟩ := hs.found hf
      split at h
      · rename_i cs needs hrd
        split at h
        · rename_i hagt
          simp only [Option.some.injEq] at h; subst h; subst hagt
          obtain ⟨hl, b, off, c', ty, fr, h1, h2, h3⟩ := readH_sound hrd hro hreg hn
          refine StepOk.quiet hs ?_
          have hrun := run_loadVar (P := P) (w := w) hag hsz (hsub _ _ h2) (by simp [denVs, hl]) h3 (by simp)
          simp only [SV.den, T.den, O1.den, h1, addrOf, Option.map_some] at hev ⊢
          simp [execOp, hop, hev, Instr.loadAt, Instr.sureAddr, hrun]
        · rename_i hagf
          split at h
          · rename_i t' _
            simp only [Option.some.injEq] at h; subst h
            obtain ⟨hl, b, off, c', ty, fr, h1, h2, h3⟩ := readH_sound hrd hro hreg hn
            refine StepOk.quiet hs ?_
            have hagf' : ag = false := by simpa using hagf
            have hrun := run_loadVar (P := P) (w := w) hag hsz (hsub _ _ h2) (by rw [← hl]; simp [denVs]) h3 (fun _ => by rw [← hl]; rfl)
            subst hagf'
            simp only [SV.den, T.den, O1.den, h1, addrOf, Option.map_some] at hev ⊢
            simp [execOp, hop, hev, Instr.loadAt, Instr.sureAddr, hrun, denVs]
          · simp at h
      · simp at h
    · simp at h
  · simp at h

theorem step_store {t : TypeId} {x y : Operand} (hs : Holds ρ hF s a w) (hop : o.op = .store t x y) (h : stepOp P s o = some r) (hn : ∀ c ∈ r.needs, (c.den ρ).b = true) : StepOk P ρ hF s a w o r := by
  simp only [stepOp, hop] at h
  split at h
  · rename_i rg p c e vs n hx hvs hsz
    have hev := hs.opd hx
    split at h
    · rename_i hlen
      have hlen := Nat.eq_of_beq_eq_true hlen
      split at h
      · rename_i k x0 hat
        simp only [Option.map_eq_some_iff, Prod.exists] at h
        obtain ⟨x', needs, hwr, rfl⟩ := h
        simp only [Option.bind_eq_some_iff] at hvs
        obtain ⟨v, hv, hc⟩ := hvs
        have hvev := hs.opd hv
        have hcd := cells_den hs.gd hc
        obtain ⟨hk, hreg⟩ := heapAt_spec hat
        obtain ⟨hO, hd, hst, hsub, hwi⟩ := hs.hp
        obtain ⟨t1, t2, td, tu, tx, ts⟩ := star_take hst hk
        obtain ⟨b, c0, ty, g1, g2, g3, g4⟩ := writeH_sound hs.gd hwr tx hreg hn
        have hle : Hp.le t1 (Hp.union hF hO) := Hp.le_trans (tu ▸ Hp.le_left t1 t2) (Hp.le_right hd)
        obtain ⟨w', c1, hrun, hw1, hw2, hwrote, hos⟩ := run_storeVar (P := P) (w := w) (off := (e.den ρ).i.toNat * p + c) hsz hcd (by simp [denVs, hlen]) (hsub _ _ (hle _ _ g2)) (denVs_good hs.gd vs)
          (by simpa [denVs] using g3)
        have hdisj : Hp.disj (Hp.upd t1 b (.cells c1 ty (0, 0))) t2 := fun y => by
          rcases td y with h | h
          · unfold Hp.upd
            split
            · rename_i he; subst he; rw [g2] at h; cases h
            · exact .inl h
          · exact .inr h
        refine ⟨[], w', rfl, by simp, ⟨Hp.union (Hp.upd t1 b (.cells c1 ty (0, 0))) t2, ?_, star_set hk ts hdisj (g4 c1 hwrote), ?_, ⟨hos.1.trans hwi.1, hos.2.trans hwi.2⟩⟩, ?_, fun _ h => by cases h⟩
        · intro y
          rcases hd y with h | h
          · exact .inl h
          · right
            rw [tu] at h
            simp only [Hp.union, Option.or_eq_none_iff] at h ⊢
            refine ⟨?_, h.2⟩
            unfold Hp.upd
            split
            · rename_i he; subst he; rw [g2] at h; cases h.1
            · exact h.1
        · intro y ob hy
          by_cases hyb : y = b
          · subst hyb
            have hFn : hF y = none := (hd y).resolve_right (by rw [tu]; simp [Hp.union, g2])
            simp only [Hp.union, hFn, Hp.upd, if_true, Option.none_or, Option.some_or, Option.some.injEq] at hy
            rw [hw1, hy]
          · rw [hw2 y hyb]
            refine hsub y ob ?_
            rw [tu]
            simp only [Hp.union, Hp.upd, hyb, if_false] at hy ⊢
            exact hy
        · simp only [Ran]
          simp only [SV.den, T.den, O1.den, g1, addrOf, Option.map_some] at hev
          simp [execOp, hop, hev, hvev, Instr.storeAt, Instr.sureAddr, hrun]
      · simp at h
    · simp at h
  · simp at h

theorem there_sound (hs : Holds ρ hF s a w) {r : Nat} {e : T} (h : ∀ c ∈ there s r e, (c.den ρ).b = true) : (ρ r).r.isSome = true := by
  unfold there at h
  split at h
  · rename_i r' ty cs hf
    obtain ⟨H, _, hro, hreg⟩ := hs.found hf
    simp only [SH.reg, Option.some.injEq] at hreg; subst hreg
    obtain ⟨b, o, c, ty', fr, h1, _⟩ := hro
    rw [h1]; rfl
  · rename_i r' ty pat d cap hf
    obtain ⟨H, _, hro, hreg⟩ := hs.found hf
    simp only [SH.reg, Option.some.injEq] at hreg; subst hreg
    have h0 := mkLe0_den (h _ (List.mem_cons_self ..))
    have h1 := lss_dlen (h _ (List.mem_cons_of_mem _ (List.mem_cons_self ..)))
    rcases hro with hd | ⟨b, o, c, ty', fr, h1, _⟩
    · rw [hd] at h1; simp at h1; omega
    · rw [h1]; rfl
  · have := h _ (List.mem_singleton.2 rfl)
    simp only [T.den, O0.den, O1.den] at this
    cases hr : (ρ r).r <;> simp_all

theorem step_nilCheck {x : Operand} (hs : Holds ρ hF s a w) (hop : o.op = .nilCheck x) (h : stepOp P s o = some r) (hn : ∀ c ∈ r.needs, (c.den ρ).b = true) : StepOk P ρ hF s a w o r := by
  simp only [stepOp, hop] at h
  split at h
  · rename_i rg p c e hx
    have hev := hs.opd hx
    simp only [Option.some.injEq] at h; subst h
    have ht := there_sound hs hn
    refine StepOk.quiet hs ?_
    simp only [SV.den, T.den, O1.den] at hev ⊢
    obtain ⟨bo, hb⟩ := addrOf_some ht ((e.den ρ).i.toNat * p + c)
    rw [hb] at hev
    simp [execOp, hop, hev, hb]
  · simp at h

theorem fieldP_struct {t : TypeId} {f : Nat} {off : Nat} {u : TypeId} (h : fieldP P t f = some (off, u)) : ∃ fs fd n, P.underlying t = some (.struct fs) ∧ fs[f]? = some fd ∧ sizeP P fd.type = some (n + 1) ∧ fd.offset = off ∧ fd.type = u := by
  unfold fieldP at h
  split at h
  · rename_i fs hu
    split at h
    · rename_i fd hfd
      split at h
      · rename_i n hn
        simp only [Option.some.injEq, Prod.mk.injEq] at h
        exact ⟨fs, fd, n, hu, hfd, hn, h.1, h.2⟩
      · simp at h
    · simp at h
  · simp at h

theorem step_fieldAddr {t : TypeId} {x : Operand} {f : Nat} (hs : Holds ρ hF s a w) (hop : o.op = .fieldAddr t x f) (h : stepOp P s o = some r) (hn : ∀ c ∈ r.needs, (c.den ρ).b = true) : StepOk P ρ hF s a w o r := by
  simp only [stepOp, hop] at h
  split at h
  · rename_i rg p c e off u hx hf
    have hev := hs.opd hx
    simp only [Option.some.injEq] at h; subst h
    have ht := there_sound hs hn
    obtain ⟨fs, fd, n, hu, hfd, hsz, rfl, rfl⟩ := fieldP_struct hf
    refine StepOk.quiet hs ?_
    simp only [SV.den, T.den, O1.den] at hev ⊢
    obtain ⟨bo, hb⟩ := addrOf_some ht ((e.den ρ).i.toNat * p + c)
    rw [hb] at hev
    rw [← Nat.add_assoc, addrOf_add _ hb]
    simp [execOp, hop, hev, Instr.fieldAt, Instr.sureAddr, underlying_run hu, hfd, fieldPlace, sizeP_run hsz]
  · simp at h

theorem step_field {t : TypeId} {x : Operand} {f : Nat} (hs : Holds ρ hF s a w) (hop : o.op = .field t x f) (h : stepOp P s o = some r) : StepOk P ρ hF s a w o r := by
  simp only [stepOp, hop] at h
  split at h
  · rename_i cs off u hx hf
    have hev := hs.opd hx
    obtain ⟨fs, fd, n0, hu, hfd, hsz0, rfl, rfl⟩ := fieldP_struct hf
    split at h
    · rename_i n hag hsz
      split at h
      · rename_i hle
        simp only [Option.some.injEq] at h; subst h
        refine StepOk.quiet hs ?_
        simp only [SV.den] at hev ⊢
        simp [execOp, hop, hev, Instr.field, underlying_run hu, hfd, asAgg, part, aggP_run hag, sizeP_run hsz, denVs, List.extract_eq_take_drop]
      · simp at h
    · rename_i hag
      simp only [Option.map_eq_some_iff] at h
      obtain ⟨t', ht', rfl⟩ := h
      refine StepOk.quiet hs ?_
      simp only [SV.den] at hev ⊢
      simp [execOp, hop, hev, Instr.field, underlying_run hu, hfd, asAgg, part, aggP_run hag, denVs, ht']
    · simp at h
  · simp at h

theorem mkPlus_den (x y : T) : ((mkPlus x y).den ρ).i = (x.den ρ).i + (y.den ρ).i := by
  unfold mkPlus
  split
  · rename_i u v hu hv; rw [isLit_eq hu, isLit_eq hv]; simp [T.den, O0.den]
  · rename_i u hu hv
    split
    · rename_i h0; rw [isLit_eq hu, h0]; simp [T.den, O0.den]
    · rfl
  · rename_i u hu hv
    split
    · rename_i h0; rw [isLit_eq hv, h0]; simp [T.den, O0.den]
    · rfl
  · rfl

theorem step_indexAddr {t : TypeId} {x i : Operand} (hs : Holds ρ hF s a w) (hop : o.op = .indexAddr t x i) (h : stepOp P s o = some r) (hn : ∀ c ∈ r.needs, (c.den ρ).b = true) : StepOk P ρ hF s a w o r := by
  simp only [stepOp, hop] at h
  split at h
  · rename_i el rg p off len cap kk j hu hx hi
    have hev := hs.opd hx
    have hei := hs.opd hi
    split at h
    · rename_i n hsz
      split at h
      · rename_i hnp
        have hnp := Nat.eq_of_beq_eq_true hnp
        simp only [Option.some.injEq] at h; subst h
        simp only [List.cons_append, List.nil_append] at hn
        have h0 := mkLe0_den (hn _ (List.mem_cons_self ..))
        have h1 := hn _ (List.mem_cons_of_mem _ (List.mem_cons_self ..))
        rw [mkCmp_den _ _ _ (by simp)] at h1
        have h1 : (j.den ρ).i < (len.den ρ).i := of_decide_eq_true h1
        have h2 := mkLe0_den (hn _ (List.mem_cons_of_mem _ (List.mem_cons_of_mem _ (List.mem_cons_self ..))))
        have ht := there_sound hs (e := mkPlus off j) (fun c hc => hn c (List.mem_cons_of_mem _ (List.mem_cons_of_mem _ (List.mem_cons_of_mem _ hc))))
        obtain ⟨bo, hb⟩ := addrOf_some ht ((off.den ρ).i.toNat * p)
        refine StepOk.quiet hs ?_
        have hpl : (off.den ρ).i.toNat * p + (j.den ρ).i.toNat * p = ((off.den ρ).i + (j.den ρ).i).toNat * p := by
          rw [← Nat.add_mul]; congr 1; omega
        have hcond : ¬ (max (len.den ρ).i 0 ≤ (j.den ρ).i) := by omega
        simp only [SV.den, T.den, O1.den, O3.den, mkPlus_den] at hev hei ⊢
        rw [hb] at hev
        rw [← hpl, Nat.add_zero, addrOf_add _ hb]
        subst hnp
        simp [execOp, hop, hev, hei, Instr.indexAt, asIntOf, underlying_run hu, h0, hcond, sizeP_run hsz]
      · simp at h
    · simp at h
  · rename_i m el rg p c e kk j hu hx hi
    have hev := hs.opd hx
    have hei := hs.opd hi
    split at h
    · rename_i n z hsz hz
      split at h
      · rename_i hc
        simp only [Option.some.injEq] at h; subst h
        have ht := there_sound hs hn
        obtain ⟨bo, hb⟩ := addrOf_some ht ((e.den ρ).i.toNat * p + c)
        rw [isLit_eq hz] at hei
        refine StepOk.quiet hs ?_
        simp only [SV.den, T.den, O0.den, O1.den] at hev hei ⊢
        rw [hb] at hev
        rw [← Nat.add_assoc, addrOf_add _ hb]
        simp [execOp, hop, hev, hei, Instr.indexAt, Instr.sureAddr, asIntOf, underlying_run hu, hc, sizeP_run hsz]
      · simp at h
    · rename_i n hsz hz
      split at h
      · rename_i hz0
        simp only [Option.some.injEq] at h; subst h
        have h0 := mkLe0_den (hn _ (List.mem_cons_self ..))
        have h1 := hn _ (List.mem_cons_of_mem _ (List.mem_cons_self ..))
        rw [mkCmp_den _ _ _ (by simp)] at h1
        have h1 : (j.den ρ).i < (m : Int) := of_decide_eq_true h1
        have ht := there_sound hs (e := e) (fun c hc => hn c (List.mem_cons_of_mem _ (List.mem_cons_of_mem _ hc)))
        obtain ⟨bo, hb⟩ := addrOf_some ht c
        have he0 : (e.den ρ).i = 0 := by rw [isLit_eq hz0]; simp [T.den, O0.den]
        refine StepOk.quiet hs ?_
        simp only [SV.den, T.den, O0.den, O1.den, he0, Int.toNat_zero, Nat.zero_mul, Nat.zero_add] at hev hei ⊢
        rw [hb] at hev
        rw [Nat.add_comm, addrOf_add _ hb]
        simp [execOp, hop, hev, hei, Instr.indexAt, Instr.sureAddr, asIntOf, underlying_run hu, h0, h1, sizeP_run hsz]
      · simp at h
    · simp at h
  · simp at h

theorem mkArith_den (op : BinOp) (k : IntKind) (x y : T) : ((mkArith op k x y).den ρ).i = arithOf op k (x.den ρ).i (y.den ρ).i := by
  unfold mkArith
  split
  · rename_i u v hu hv; rw [isLit_eq hu, isLit_eq hv]; simp [T.den, O0.den]
  · rfl
theorem mkConv_den (k : IntKind) (x : T) : ((mkConv k x).den ρ).i = k.wrap (x.den ρ).i := by
  unfold mkConv
  split
  · rename_i u hu; rw [isLit_eq hu]; simp [T.den, O0.den]
  · rfl
theorem mkNot_den (x : T) : ((mkNot x).den ρ).b = !(x.den ρ).b := by
  unfold mkNot
  split <;> simp [T.den, O0.den, O1.den]
theorem mkBeq_den (x y : T) : ((mkBeq x y).den ρ).b = ((x.den ρ).b == (y.den ρ).b) := by
  unfold mkBeq
  split
  · simp [T.den, O0.den]
  · split
    · rename_i h; rw [T.same_eq h]; simp [T.den, O0.den]
    · rfl
theorem mkMin_den (x y : T) : ((mkMin x y).den ρ).i = if (y.den ρ).i < (x.den ρ).i then (y.den ρ).i else (x.den ρ).i := by
  unfold mkMin
  split
  · rename_i u v hu hv
    rw [isLit_eq hu, isLit_eq hv]
    simp only [T.den, O0.den]
    by_cases h : v < u <;> simp [h]
  · rfl
theorem mkMax_den (x y : T) : ((mkMax x y).den ρ).i = if (y.den ρ).i > (x.den ρ).i then (y.den ρ).i else (x.den ρ).i := by
  unfold mkMax
  split
  · rename_i u v hu hv; rw [isLit_eq hu, isLit_eq hv]; simp [T.den, O0.den]
  · rfl

theorem mkAnd_den (x y : T) : ((mkAnd x y).den ρ).b = ((x.den ρ).b && (y.den ρ).b) := by
  unfold mkAnd; split <;> simp [T.den, O0.den, O2.den]

theorem nilT_den (hs : Holds ρ hF s a w) (r : Nat) : ((nilT s r).den ρ).b = (ρ r).r.isNone := by
  unfold nilT
  split
  · rename_i r' ty cs hf
    obtain ⟨H, _, hro, hreg⟩ := hs.found hf
    simp only [SH.reg, Option.some.injEq] at hreg; subst hreg
    obtain ⟨b, o, c, ty', fr, h1, _⟩ := hro
    simp [T.den, O0.den, h1]
  · rename_i r' ty pat d cap hf
    obtain ⟨H, _, hro, hreg⟩ := hs.found hf
    simp only [SH.reg, Option.some.injEq] at hreg; subst hreg
    rw [mkAnd_den, mkCmp_den _ _ _ (by simp), mkDlen_den]
    rcases hro with h2 | ⟨b, o, c, ty', fr, h1, _⟩
    · simp [T.den, O0.den, h2, cmpOf]
    · simp [T.den, O0.den, h1]
  · rfl

theorem run_eqGuard_int {op : BinOp} {t : TypeId} {x y : Operand} {k k' : IntKind} {m n : Int} : (eqGuard op t x y (.int k m) (.int k' n)).run P w = .ok () w := by
  unfold eqGuard; split <;> simp
theorem run_eqGuard_bool {op : BinOp} {t : TypeId} {x y : Operand} {m n : Bool} : (eqGuard op t x y (.bool m) (.bool n)).run P w = .ok () w := by
  unfold eqGuard; split <;> simp
theorem run_eqGuard_ptr {op : BinOp} {t : TypeId} {x y : Operand} {m n : Option Addr} : (eqGuard op t x y (.pointer m) (.pointer n)).run P w = .ok () w := by
  unfold eqGuard; split <;> simp

theorem run_eql_bool {ty : TypeId} (hu : P.underlying ty = some .bool) (m n : Bool) : (binOp .eql ty (.bool m) (.bool n)).run P w = .ok (.bool (m == n)) w := by
  simp only [binOp, Op.equal]
  rw [show Op.maxDepth = 9999 + 1 from rfl]
  simp only [Sem.run_bind, run_equalIn_bool' w 9999 ty m n hu, Result.andThen_ok, Sem.run_pure]
theorem run_neq_bool {ty : TypeId} (hu : P.underlying ty = some .bool) (m n : Bool) : (binOp .neq ty (.bool m) (.bool n)).run P w = .ok (.bool (!(m == n))) w := by
  simp only [binOp, Op.equal]
  rw [show Op.maxDepth = 9999 + 1 from rfl]
  simp only [Sem.run_bind, run_equalIn_bool' w 9999 ty m n hu, Result.andThen_ok, Sem.run_pure]
theorem run_equalIn_nilptr (d : Nat) {ty el : TypeId} (hu : P.underlying ty = some (.pointer el)) (m : Option Addr) : (Op.equalIn (d + 1) ty (.pointer m) (.pointer none)).run P w = .ok m.isNone w := by
  unfold Op.equalIn
  simp only [Sem.run_bind, underlying_run hu, Result.andThen_ok]
  cases m <;> simp
theorem run_eql_nilptr {ty el : TypeId} (hu : P.underlying ty = some (.pointer el)) (m : Option Addr) : (binOp .eql ty (.pointer m) (.pointer none)).run P w = .ok (.bool m.isNone) w := by
  have h : binOp .eql ty (.pointer m) (.pointer none) = (do pure (.bool (← Op.equal ty (.pointer m) (.pointer none)))) := by cases m <;> rfl
  rw [h]
  simp only [Op.equal]
  rw [show Op.maxDepth = 9999 + 1 from rfl]
  simp only [Sem.run_bind, run_equalIn_nilptr 9999 hu, Result.andThen_ok, Sem.run_pure]
theorem run_neq_nilptr {ty el : TypeId} (hu : P.underlying ty = some (.pointer el)) (m : Option Addr) : (binOp .neq ty (.pointer m) (.pointer none)).run P w = .ok (.bool (!m.isNone)) w := by
  have h : binOp .neq ty (.pointer m) (.pointer none) = (do pure (.bool (!(← Op.equal ty (.pointer m) (.pointer none))))) := by cases m <;> rfl
  rw [h]
  simp only [Op.equal]
  rw [show Op.maxDepth = 9999 + 1 from rfl]
  simp only [Sem.run_bind, run_equalIn_nilptr 9999 hu, Result.andThen_ok, Sem.run_pure]

theorem mkSlen_den : ∀ t : T, ((mkSlen t).den ρ).i = ((vStr (t.den ρ).v).length : Int)
  | .c0 o => by cases o <;> simp [mkSlen, T.den, O0.den, O1.den, vStr_mk]
  | .c1 o x => by cases o <;> simp [mkSlen, T.den, O1.den, mkDlen_den, bytesOf, vStr_mk]
  | .c2 o x y => by
    cases o <;> simp only [mkSlen, T.den, O1.den, O2.den]
    rw [mkPlus_den, mkSlen_den x, mkSlen_den y]
    simp [vStr_mk]
  | .var n => by simp [mkSlen, T.den, O1.den]
  | .c3 o x y z => by simp [mkSlen, T.den, O1.den]
  | .ife x y u v => by simp [mkSlen, T.den, O1.den]
theorem mkSapp_den {x y : T} (hx : isStrT x = true) (hy : isStrT y = true) : ((mkSapp x y).den ρ).v = .string ⟨(vStr (x.den ρ).v ++ vStr (y.den ρ).v).toArray⟩ := by
  obtain ⟨sx, ex⟩ := isStrT_den (ρ := ρ) hx
  obtain ⟨sy, ey⟩ := isStrT_den (ρ := ρ) hy
  unfold mkSapp
  split
  · have e : vStr ((T.c0 (.vstr [])).den ρ).v = [] := by simp [T.den, O0.den, vStr_mk]
    rw [e, List.nil_append, ey, bl_str]
  · have e : vStr ((T.c0 (.vstr [])).den ρ).v = [] := by simp [T.den, O0.den, vStr_mk]
    rw [e, List.append_nil, ex, bl_str]
  · rfl
theorem run_add_str {ty : TypeId} {m n : ByteArray} (h : ((vStr (.string m)).length : Int) + ((vStr (.string n)).length : Int) ≤ 9223372036854775807) : (binOp .add ty (.string m) (.string n)).run P w = .ok (.string ⟨(vStr (.string m) ++ vStr (.string n)).toArray⟩) w := by
  simp only [vStr, bl_data, Array.length_toList] at h ⊢
  have hs : ¬ (((m.size + n.size : Nat) : Int) > IntKind.i64.max) := by
    have h1 : m.size = m.data.size := rfl
    have h2 : n.size = n.data.size := rfl
    simp [IntKind.max, IntKind.signed, IntKind.bits]; omega
  have he : m ++ n = ⟨(m.data.toList ++ n.data.toList).toArray⟩ := by
    apply ByteArray.ext
    apply Array.ext'
    simp
  simp only [binOp, Op.stringOp, if_neg hs, he]
  rfl
theorem run_eqGuard_str {op : BinOp} {t : TypeId} {x y : Operand} {m n : ByteArray} : (eqGuard op t x y (.string m) (.string n)).run P w = .ok () w := by
  unfold eqGuard; split <;> simp
theorem run_eql_str {ty : TypeId} {m n : ByteArray} : (binOp .eql ty (.string m) (.string n)).run P w = .ok (.bool (m.toList == n.toList)) w := by
  simp [binOp, Op.stringOp]
theorem run_neq_str {ty : TypeId} {m n : ByteArray} : (binOp .neq ty (.string m) (.string n)).run P w = .ok (.bool (!(m.toList == n.toList))) w := by
  simp [binOp, Op.stringOp]
theorem run_lss_str {ty : TypeId} {m n : ByteArray} : (binOp .lss ty (.string m) (.string n)).run P w = .ok (.bool (Op.bytesLess m.toList n.toList)) w := by
  simp [binOp, Op.stringOp]
theorem run_eqGuard_slice {op : BinOp} {t : TypeId} {x y : Operand} {m n : Option Addr} {i j k l : Nat} : (eqGuard op t x y (.slice m i j) (.slice n k l)).run P w = .ok () w := by
  cases op <;> simp [eqGuard]
theorem run_equalIn_nilslice (d : Nat) {ty el : TypeId} (hu : P.underlying ty = some (.slice el)) (m : Option Addr) (i j : Nat) : (Op.equalIn (d + 1) ty (.slice m i j) (.slice none 0 0)).run P w = .ok m.isNone w := by
  unfold Op.equalIn
  simp only [Sem.run_bind, underlying_run hu, Result.andThen_ok]
  cases m <;> simp
theorem run_eql_nilslice {ty el : TypeId} (hu : P.underlying ty = some (.slice el)) (m : Option Addr) (i j : Nat) : (binOp .eql ty (.slice m i j) (.slice none 0 0)).run P w = .ok (.bool m.isNone) w := by
  have h : binOp .eql ty (.slice m i j) (.slice none 0 0) = (do pure (.bool (← Op.equal ty (.slice m i j) (.slice none 0 0)))) := by cases m <;> rfl
  rw [h]
  simp only [Op.equal]
  rw [show Op.maxDepth = 9999 + 1 from rfl]
  simp only [Sem.run_bind, run_equalIn_nilslice 9999 hu, Result.andThen_ok, Sem.run_pure]
theorem run_neq_nilslice {ty el : TypeId} (hu : P.underlying ty = some (.slice el)) (m : Option Addr) (i j : Nat) : (binOp .neq ty (.slice m i j) (.slice none 0 0)).run P w = .ok (.bool (!m.isNone)) w := by
  have h : binOp .neq ty (.slice m i j) (.slice none 0 0) = (do pure (.bool (!(← Op.equal ty (.slice m i j) (.slice none 0 0))))) := by cases m <;> rfl
  rw [h]
  simp only [Op.equal]
  rw [show Op.maxDepth = 9999 + 1 from rfl]
  simp only [Sem.run_bind, run_equalIn_nilslice 9999 hu, Result.andThen_ok, Sem.run_pure]


def valOf (P : Program) (ρ : Env) (t : TypeId) (cs : List T) : Value :=
  match aggP P t with
  | some true => .agg (denVs ρ cs).toArray
  | _ => (denVs ρ cs).headD .nilFunc

theorem part_run {t : TypeId} {ag : Bool} {n off : Nat} {cs : List T} (hag : aggP P t = some ag) (hn : sizeP P t = some n) (h1 : (ag || Nat.beq n 1) = true) (hl : off + n ≤ cs.length) (w : World) :
    (part t (denVs ρ cs).toArray off).run P w = .ok (valOf P ρ t ((cs.drop off).take n)) w := by
  cases ag with
  | true => simp [part, aggP_run hag, sizeP_run hn, valOf, hag, denVs, List.extract_eq_take_drop]
  | false =>
    simp only [Bool.false_or] at h1
    have := Nat.eq_of_beq_eq_true h1
    subst this
    have hlt : off < cs.length := by omega
    simp only [part, Sem.run_bind, aggP_run hag, Result.andThen_ok, valOf, hag]
    have e1 : (denVs ρ cs).toArray[off]? = some ((cs[off]).den ρ).v := by simp [denVs, hlt]
    have e2 : (cs.drop off).take 1 = [cs[off]] := by rw [List.drop_eq_getElem_cons hlt]; rfl
    rw [e2]
    simp [e1, denVs, hlt]

theorem eqFs_sound {f : TypeId → List T → List T → Option T} {d : Nat} {cs ds : List T} (hf : ∀ t a b c (w : World), f t a b = some c → (Op.equalIn d t (valOf P ρ t a) (valOf P ρ t b)).run P w = .ok (c.den ρ).b w) :
    ∀ {fs : List Field} {c : T} (w : World), eqFs P f cs ds fs = some c → (Op.eqFields d (denVs ρ cs).toArray (denVs ρ ds).toArray fs).run P w = .ok (c.den ρ).b w
  | [], c, w, h => by simp only [eqFs, Option.some.injEq] at h; subst h; simp [Op.eqFields, T.den, O0.den]
  | x :: fs, c, w, h => by
    simp only [eqFs] at h
    split at h
    · rename_i hname
      split at h
      · rename_i ag n r hag hn hr
        split at h
        · rename_i hc
          simp only [Bool.and_eq_true, Nat.ble_eq] at hc
          simp only [Option.map_eq_some_iff] at h
          obtain ⟨a, ha, rfl⟩ := h
          simp only [Op.eqFields, hname, ne_eq, not_false_eq_true, if_true, Sem.run_bind, part_run (ρ := ρ) hag hn hc.1.1 hc.1.2, part_run (ρ := ρ) hag hn hc.1.1 hc.2, Result.andThen_ok, hf _ _ _ _ _ ha]
          have := eqFs_sound hf w hr
          cases hb : (a.den ρ).b with
          | true => simp [this, mkAnd_den, hb]
          | false => simp [mkAnd_den, hb]
        · simp at h
      · simp at h
    · rename_i hname
      simp only [Op.eqFields, hname, if_false]
      exact eqFs_sound hf w h

theorem eqT_sound : ∀ (n d : Nat), n ≤ d → ∀ (t : TypeId) (cs ds : List T) (c : T) (w : World), eqT P n t cs ds = some c → (Op.equalIn d t (valOf P ρ t cs) (valOf P ρ t ds)).run P w = .ok (c.den ρ).b w := by
  intro n
  induction n with
  | zero => intro d _ t cs ds c w h; simp [eqT] at h
  | succ n ih =>
    intro d hd t cs ds c w h
    obtain ⟨d', rfl⟩ : ∃ d', d = d' + 1 := ⟨d - 1, by omega⟩
    simp only [eqT] at h
    split at h
    · rename_i k0 hu
      split at h
      · rename_i k a k' b
        split at h
        · rename_i hk
          subst hk
          simp only [Option.some.injEq] at h; subst h
          simp only [valOf, aggP, hu, denVs, List.map_cons, List.map_nil, List.headD_cons, T.den, O1.den]
          rw [run_equalIn_int w d' t k k0 _ _ hu, mkCmp_den _ _ _ (by simp)]; rfl
        · simp at h
      · simp at h
    · rename_i hu
      split at h
      · rename_i a b
        simp only [Option.some.injEq] at h; subst h
        simp only [valOf, aggP, hu, denVs, List.map_cons, List.map_nil, List.headD_cons, T.den, O1.den]
        rw [run_equalIn_bool' w d' t _ _ hu, mkBeq_den]
      · simp at h
    · rename_i fs hu
      split at h
      · simp at h
      · rename_i hst
        have hfs : P.fieldsOf t = fs := by simp [Program.fieldsOf, hu]
        simp only [valOf, aggP, hu]
        rw [run_equalIn_struct w d' t _ _ (by rw [hfs]; exact hu) (by simpa using hst), hfs]
        exact eqFs_sound (fun t a b c w hc => ih d' (by omega) t a b c w hc) w h
    · simp at h

theorem eqAgg_sound {t : TypeId} {cs ds : List T} {c : T} (h : eqAgg P t cs ds = some c) : P.eqGuardType P.depth t = false ∧ (Op.equalIn 10000 t (.agg (denVs ρ cs).toArray) (.agg (denVs ρ ds).toArray)).run P w = .ok (c.den ρ).b w := by
  unfold eqAgg at h
  split at h
  · simp at h
  · rename_i hg
    split at h
    · rename_i fs hu
      refine ⟨by simpa using hg, ?_⟩
      have := eqT_sound (P := P) (ρ := ρ) 8 10000 (by omega) t cs ds c w h
      simpa only [valOf, aggP, hu] using this
    · simp at h

theorem allVint_den {k : IntKind} : ∀ {ts : List T}, allVint k ts = true → ∃ zs : List Int, denVs ρ ts = zs.map (Value.int k)
  | [], _ => ⟨[], rfl⟩
  | .c1 (.vint k') x :: l, h => by
    simp only [allVint, Bool.and_eq_true, decide_eq_true_eq] at h
    obtain ⟨hk, hl⟩ := h
    subst hk
    obtain ⟨zs, hz⟩ := allVint_den hl
    exact ⟨(x.den ρ).i :: zs, by simp only [denVs, List.map_cons, T.den, O1.den] at hz ⊢; rw [hz]⟩
  | .var _ :: _, h => by simp [allVint] at h
  | .c0 _ :: _, h => by simp [allVint] at h
  | .c2 _ _ _ :: _, h => by simp [allVint] at h
  | .c3 _ _ _ _ :: _, h => by simp [allVint] at h
  | .ife _ _ _ _ :: _, h => by simp [allVint] at h
  | .c1 (.conv _) _ :: _, h => by simp [allVint] at h
  | .c1 .dlen _ :: _, h => by simp [allVint] at h
  | .c1 .not _ :: _, h => by simp [allVint] at h
  | .c1 .vbool _ :: _, h => by simp [allVint] at h
  | .c1 (.vptr _ _ _) _ :: _, h => by simp [allVint] at h
  | .c1 .vbytes _ :: _, h => by simp [allVint] at h
  | .c1 .sval _ :: _, h => by simp [allVint] at h
  | .c1 .slen _ :: _, h => by simp [allVint] at h
  | .c1 .srows _ :: _, h => by simp [allVint] at h
  | .c1 (.isg _) _ :: _, h => by simp [allVint] at h
theorem row_headD (ts : List T) : (((T.row ts).den ρ).d.headD []) = denVs ρ ts := by rw [row_den]
theorem all_range_int : ∀ (xs ys : List Int), xs.length = ys.length → ((List.range xs.length).all fun i => xs.getD i 0 == ys.getD i 0) = (xs == ys)
  | [], [], _ => rfl
  | x :: xs, y :: ys, h => by
    have ih := all_range_int xs ys (by simpa using h)
    rw [List.length_cons, List.range_succ_eq_map, List.all_cons, List.all_map]
    simp only [List.getD_cons_zero, Function.comp_def, List.getD_cons_succ, ih]
    simp [List.cons_beq_cons]
  | [], _ :: _, h => by simp at h
  | _ :: _, [], h => by simp at h
theorem run_part_int {e : TypeId} {k : IntKind} {zs : List Int} {i : Nat} (he : aggP P e = some false) (hi : i < zs.length) (w : World) : (part e (zs.map (Value.int k)).toArray (i * 1)).run P w = .ok (.int k (zs.getD i 0)) w := by
  have ha : (isAgg e).run P w = .ok false w := aggP_run he w
  simp [part, ha, List.getD, List.getElem?_eq_getElem hi]
theorem run_equalIn_ints (d : Nat) (t e : TypeId) (n : Nat) (k : IntKind) (ht : P.underlying t = some (.array n e)) (he : P.underlying e = some (.int k)) (hag : aggP P e = some false) (hsz : sizeP P e = some 1) (xs ys : List Int) (hx : xs.length = n) (hy : ys.length = n) (w : World) :
    (Op.equalIn (d + 2) t (.agg (xs.map (Value.int k)).toArray) (.agg (ys.map (Value.int k)).toArray)).run P w = .ok (xs == ys) w := by
  rw [← all_range_int xs ys (hx.trans hy.symm), hx, List.range_eq_range', Op.equalIn]
  simp only [Sem.run_bind, run_underlying ht, Result.andThen_ok, sizeP_run hsz, Std.Legacy.Range.forIn_eq_forIn_range', Std.Legacy.Range.size, Nat.sub_zero, Nat.add_sub_cancel, Nat.div_one]
  have hl : ∀ i ∈ List.range' 0 n 1, i < n := fun i hi => by simpa using (List.mem_range'_1.1 hi).2
  generalize List.range' 0 n 1 = l at hl ⊢
  induction l with
  | nil => simp
  | cons i l ih =>
    have hi : i < n := hl i (by simp)
    have px := run_part_int (P := P) (k := k) (zs := xs) hag (i := i) (by omega) w
    have py := run_part_int (P := P) (k := k) (zs := ys) hag (i := i) (by omega) w
    have pe : (Op.equalIn (d + 1) e (.int k (xs.getD i 0)) (.int k (ys.getD i 0))).run P w = .ok (xs.getD i 0 == ys.getD i 0) w := run_equalIn_int w d e k k _ _ he
    simp only [List.forIn_cons, Sem.run_bind, px, py, pe, Result.andThen_ok, List.all_cons]
    cases hb : (xs.getD i 0 == ys.getD i 0)
    · simp
    · simp only [Bool.not_true, Bool.false_eq_true, if_false, Sem.run_pure, Result.andThen_ok, Bool.true_and]
      exact ih fun j hj => hl j (by simp [hj])
theorem map_vInt (k : IntKind) (zs : List Int) : (zs.map (Value.int k)).map vInt = zs := by
  rw [List.map_map]; exact List.map_id' zs
theorem eqArr_sound {t : TypeId} {cs ds : List T} {c : T} (h : eqArr P t cs ds = some c) : P.eqGuardType P.depth t = false ∧ (Op.equalIn 10000 t (.agg (denVs ρ cs).toArray) (.agg (denVs ρ ds).toArray)).run P w = .ok (c.den ρ).b w := by
  unfold eqArr at h
  split at h
  · simp at h
  · rename_i hg
    split at h
    · rename_i n el hu
      split at h
      · rename_i k hk hsz hag
        split at h
        · rename_i hc
          simp only [Bool.and_eq_true] at hc
          obtain ⟨⟨⟨l1, l2⟩, a1⟩, a2⟩ := hc
          have l1 := Nat.eq_of_beq_eq_true l1
          have l2 := Nat.eq_of_beq_eq_true l2
          simp only [Option.some.injEq] at h; subst h
          refine ⟨by simpa using hg, ?_⟩
          obtain ⟨xs, hx⟩ := allVint_den (ρ := ρ) a1
          obtain ⟨ys, hy⟩ := allVint_den (ρ := ρ) a2
          have hxl : xs.length = n := by have := congrArg List.length hx; simp [denVs] at this; omega
          have hyl : ys.length = n := by have := congrArg List.length hy; simp [denVs] at this; omega
          rw [hx, hy, show (10000 : Nat) = 9998 + 2 from rfl, run_equalIn_ints 9998 t el n k hu hk hag hsz xs ys hxl hyl w]
          simp only [T.den, O2.den, row_headD, hx, hy, map_vInt]
        · simp at h
      · simp at h
    · simp at h
theorem eqAny_sound {t : TypeId} {cs ds : List T} {c : T} (h : eqAny P t cs ds = some c) : P.eqGuardType P.depth t = false ∧ (Op.equalIn 10000 t (.agg (denVs ρ cs).toArray) (.agg (denVs ρ ds).toArray)).run P w = .ok (c.den ρ).b w := by
  unfold eqAny at h
  split at h
  · rename_i c' hc
    simp only [Option.some.injEq] at h; subst h
    exact eqAgg_sound hc
  · exact eqArr_sound h

theorem isNone_addrOf (r : Option Addr) (n : Nat) : (addrOf r n).isNone = r.isNone := by cases r <;> rfl

theorem step_bin {op : BinOp} {ty u : TypeId} {x y : Operand} (hs : Holds ρ hF s a w) (hop : o.op = .binOp op ty x y u) (h : stepOp P s o = some r) (hn : ∀ c ∈ r.needs, (c.den ρ).b = true) : StepOk P ρ hF s a w o r := by
  simp only [stepOp, hop] at h
  split at h
  · rename_i va vb hx hy
    have hex := hs.opd hx
    have hey := hs.opd hy
    unfold stepBin at h
    split at h
    · rename_i k x1 k' y1
      simp only [SV.den, T.den, O1.den] at hex hey
      split at h
      · simp only [Option.some.injEq] at h; subst h
        have h0 := hn _ (List.mem_singleton.2 rfl)
        rw [mkCmp_den _ _ _ (by simp)] at h0
        have h0 : (y1.den ρ).i ≥ 0 := of_decide_eq_true h0
        refine StepOk.quiet hs ?_
        simp [execOp, hop, hex, hey, run_eqGuard_int, binOp, Op.shift, Int.not_lt.2 h0, SV.den, T.den, O1.den, mkArith_den, arithOf]
      · simp only [Option.some.injEq] at h; subst h
        have h0 := hn _ (List.mem_singleton.2 rfl)
        rw [mkCmp_den _ _ _ (by simp)] at h0
        have h0 : (y1.den ρ).i ≥ 0 := of_decide_eq_true h0
        refine StepOk.quiet hs ?_
        simp [execOp, hop, hex, hey, run_eqGuard_int, binOp, Op.shift, Int.not_lt.2 h0, SV.den, T.den, O1.den, mkArith_den, arithOf]
      all_goals split at h
      all_goals first | (simp at h; done) | skip
      all_goals (rename_i hk; subst hk; simp only [Option.some.injEq] at h; subst h)
      · have h0 := hn _ (List.mem_singleton.2 rfl)
        rw [mkCmp_den _ _ _ (by simp)] at h0
        have h0 : (y1.den ρ).i ≠ 0 := by simpa [cmpOf, T.den, O0.den] using h0
        refine StepOk.quiet hs ?_
        simp [execOp, hop, hex, hey, run_eqGuard_int, binOp, Op.intDiv, h0, SV.den, T.den, O1.den, mkArith_den, arithOf]
      · have h0 := hn _ (List.mem_singleton.2 rfl)
        rw [mkCmp_den _ _ _ (by simp)] at h0
        have h0 : (y1.den ρ).i ≠ 0 := by simpa [cmpOf, T.den, O0.den] using h0
        refine StepOk.quiet hs ?_
        simp [execOp, hop, hex, hey, run_eqGuard_int, binOp, Op.intDiv, h0, SV.den, T.den, O1.den, mkArith_den, arithOf]
      all_goals
        refine StepOk.quiet hs ?_
        first
          | (simp [execOp, hop, hex, hey, run_eqGuard_int, binOp, Op.intArith, Op.intBits, SV.den, T.den, O1.den, mkArith_den, arithOf]; done)
          | (simp [execOp, hop, hex, hey, run_eqGuard_int, binOp, Op.intCmp, SV.den, T.den, O1.den, mkCmp_den, cmpOf]; done)
    · rename_i x1 y1
      simp only [SV.den, T.den, O1.den] at hex hey
      split at h
      · rename_i hu
        simp only [Option.some.injEq] at h; subst h
        refine StepOk.quiet hs ?_
        simp only [execOp, hop, hex, hey, Sem.run_bind, run_eqGuard_bool, run_eql_bool hu, Result.andThen_ok, Sem.run_pure, SV.den, T.den, O1.den, mkBeq_den]
      · rename_i hu
        simp only [Option.some.injEq] at h; subst h
        refine StepOk.quiet hs ?_
        simp only [execOp, hop, hex, hey, Sem.run_bind, run_eqGuard_bool, run_neq_bool hu, Result.andThen_ok, Sem.run_pure, SV.den, T.den, O1.den, mkBeq_den, mkNot_den]
      · simp at h
    · rename_i rg p c e
      simp only [SV.den, T.den, O0.den, O1.den] at hex hey
      split at h
      · rename_i el hu
        simp only [Option.some.injEq] at h; subst h
        refine StepOk.quiet hs ?_
        simp only [execOp, hop, hex, hey, Sem.run_bind, run_eqGuard_ptr, run_eql_nilptr hu, Result.andThen_ok, Sem.run_pure, SV.den, T.den, O1.den, nilT_den hs, isNone_addrOf]
      · rename_i el hu
        simp only [Option.some.injEq] at h; subst h
        refine StepOk.quiet hs ?_
        simp only [execOp, hop, hex, hey, Sem.run_bind, run_eqGuard_ptr, run_neq_nilptr hu, Result.andThen_ok, Sem.run_pure, SV.den, T.den, O1.den, mkNot_den, nilT_den hs, isNone_addrOf]
      · simp at h
    · simp only [SV.den, T.den, O0.den, O1.den] at hex hey
      split at h
      · rename_i el hu
        simp only [Option.some.injEq] at h; subst h
        refine StepOk.quiet hs ?_
        simp only [execOp, hop, hex, hey, Sem.run_bind, run_eqGuard_ptr, run_eql_nilptr hu, Result.andThen_ok, Sem.run_pure, SV.den, T.den, O0.den, O1.den, Option.isNone_none]
      · rename_i el hu
        simp only [Option.some.injEq] at h; subst h
        refine StepOk.quiet hs ?_
        simp only [execOp, hop, hex, hey, Sem.run_bind, run_eqGuard_ptr, run_neq_nilptr hu, Result.andThen_ok, Sem.run_pure, SV.den, T.den, O0.den, O1.den, Option.isNone_none, Bool.not_true]
      · simp at h
    · rename_i rg p off len cap
      simp only [SV.den, T.den, O0.den, O3.den] at hex hey
      split at h
      · rename_i el hu
        simp only [Option.some.injEq] at h; subst h
        refine StepOk.quiet hs ?_
        simp only [execOp, hop, hex, hey, Sem.run_bind, run_eqGuard_slice, run_eql_nilslice hu, Result.andThen_ok, Sem.run_pure, SV.den, T.den, O1.den, nilT_den hs, isNone_addrOf]
      · rename_i el hu
        simp only [Option.some.injEq] at h; subst h
        refine StepOk.quiet hs ?_
        simp only [execOp, hop, hex, hey, Sem.run_bind, run_eqGuard_slice, run_neq_nilslice hu, Result.andThen_ok, Sem.run_pure, SV.den, T.den, O1.den, mkNot_den, nilT_den hs, isNone_addrOf]
      · simp at h
    · simp only [SV.den, T.den, O0.den, O3.den] at hex hey
      split at h
      · rename_i el hu
        simp only [Option.some.injEq] at h; subst h
        refine StepOk.quiet hs ?_
        simp only [execOp, hop, hex, hey, Sem.run_bind, run_eqGuard_slice, run_eql_nilslice hu, Result.andThen_ok, Sem.run_pure, SV.den, T.den, O0.den, O1.den, Option.isNone_none]
      · rename_i el hu
        simp only [Option.some.injEq] at h; subst h
        refine StepOk.quiet hs ?_
        simp only [execOp, hop, hex, hey, Sem.run_bind, run_eqGuard_slice, run_neq_nilslice hu, Result.andThen_ok, Sem.run_pure, SV.den, T.den, O0.den, O1.den, Option.isNone_none, Bool.not_true]
      · simp at h
    · rename_i cs ds
      simp only [SV.den] at hex hey
      split at h
      · rename_i c hc
        simp only [Option.some.injEq] at h; subst h
        obtain ⟨g1, g2⟩ := eqAny_sound (ρ := ρ) (w := w) hc
        refine StepOk.quiet hs ?_
        simp only [execOp, hop, hex, hey, Sem.run_bind, run_eqGuard_agg w _ _ _ _ _ _ g1, run_eql_struct, g2, Result.andThen_ok, Sem.run_pure, SV.den, T.den, O1.den]
      · rename_i c hc
        simp only [Option.some.injEq] at h; subst h
        obtain ⟨g1, g2⟩ := eqAny_sound (ρ := ρ) (w := w) hc
        refine StepOk.quiet hs ?_
        simp only [execOp, hop, hex, hey, Sem.run_bind, run_eqGuard_agg w _ _ _ _ _ _ g1, run_neq_struct, g2, Result.andThen_ok, Sem.run_pure, SV.den, T.den, O1.den, mkNot_den]
      · simp at h
    · rename_i ta tb _ _ _ _ _ _ _
      split at h
      · rename_i hstr
        simp only [Bool.and_eq_true] at hstr
        obtain ⟨sa, hsa⟩ := isStrT_den (ρ := ρ) hstr.1
        obtain ⟨sb, hsb⟩ := isStrT_den (ρ := ρ) hstr.2
        simp only [SV.den, hsa, hsb] at hex hey
        split at h
        · simp only [Option.some.injEq] at h; subst h
          refine StepOk.quiet hs ?_
          simp only [execOp, hop, hex, hey, Sem.run_bind, run_eqGuard_str, run_eql_str, Result.andThen_ok, Sem.run_pure, SV.den, T.den, O1.den, O2.den, hsa, hsb, vStr]
        · simp only [Option.some.injEq] at h; subst h
          refine StepOk.quiet hs ?_
          simp only [execOp, hop, hex, hey, Sem.run_bind, run_eqGuard_str, run_neq_str, Result.andThen_ok, Sem.run_pure, SV.den, mkNot_den, T.den, O1.den, O2.den, hsa, hsb, vStr]
        · simp only [Option.some.injEq] at h; subst h
          refine StepOk.quiet hs ?_
          simp only [execOp, hop, hex, hey, Sem.run_bind, run_eqGuard_str, run_lss_str, Result.andThen_ok, Sem.run_pure, SV.den, T.den, O1.den, O2.den, hsa, hsb, vStr]
        · simp only [Option.some.injEq] at h; subst h
          have hle := hn _ (List.mem_singleton.2 rfl)
          rw [mkCmp_den _ _ _ (by simp)] at hle
          simp only [cmpOf, mkPlus_den, mkSlen_den, hsa, hsb, T.den, O0.den, decide_eq_true_eq] at hle
          refine StepOk.quiet hs ?_
          simp only [execOp, hop, hex, hey, Sem.run_bind, run_eqGuard_str, run_add_str hle, Result.andThen_ok, Sem.run_pure, SV.den, mkSapp_den hstr.1 hstr.2, hsa, hsb]
        · simp at h
      · simp at h
    · simp at h
  · simp at h

theorem step_unOp {op : UnOp} {t : TypeId} {x : Operand} (hs : Holds ρ hF s a w) (hop : o.op = .unOp op t x) (h : stepOp P s o = some r) : StepOk P ρ hF s a w o r := by
  simp only [stepOp, hop] at h
  split at h
  · rename_i t' hx
    have hev := hs.opd hx
    simp only [Option.some.injEq] at h; subst h
    refine StepOk.quiet hs ?_
    simp only [SV.den, T.den, O1.den] at hev ⊢
    simp [execOp, hop, hev, Op.unary, mkNot_den]
  · rename_i k t' hx
    have hev := hs.opd hx
    simp only [Option.some.injEq] at h; subst h
    refine StepOk.quiet hs ?_
    simp only [SV.den, T.den, O1.den] at hev ⊢
    simp [execOp, hop, hev, Op.unary, Op.intArith, mkArith_den, arithOf, T.den, O0.den]
  · rename_i k t' hx
    have hev := hs.opd hx
    simp only [Option.some.injEq] at h; subst h
    refine StepOk.quiet hs ?_
    simp only [SV.den, T.den, O1.den] at hev ⊢
    simp [execOp, hop, hev, Op.unary, Op.intBits, mkArith_den, arithOf, T.den, O0.den]
  · simp at h

theorem step_extract {x : Operand} {i : Nat} (hs : Holds ρ hF s a w) (hop : o.op = .extract x i) (h : stepOp P s o = some r) : StepOk P ρ hF s a w o r := by
  simp only [stepOp, hop] at h
  split at h
  · rename_i vs hx
    have hev := hs.opd hx
    split at h
    · rename_i ts hi
      simp only [Option.some.injEq] at h; subst h
      refine StepOk.quiet hs ?_
      simp only [SV.den] at hev ⊢
      simp [execOp, hop, hev, Instr.extract, hi, den1]
    · rename_i t' hi
      simp only [Option.some.injEq] at h; subst h
      refine StepOk.quiet hs ?_
      simp only [SV.den] at hev ⊢
      simp [execOp, hop, hev, Instr.extract, hi, den1, denVs]
    · simp at h
  · simp at h

theorem cellsAll_den : ∀ {vs : List SV} {ts : List T}, cellsAll vs = some ts → vs.map (SV.den ρ) = denVs ρ ts
  | [], ts, h => by simp only [cellsAll, Option.some.injEq] at h; subst h; rfl
  | .one t :: r, ts, h => by
    simp only [cellsAll, Option.map_eq_some_iff] at h
    obtain ⟨ts', h1, rfl⟩ := h
    have := cellsAll_den h1
    simp only [List.map_cons, this, denVs, SV.den]
  | .agg _ :: r, ts, h => by simp [cellsAll] at h
  | .tup _ :: r, ts, h => by simp [cellsAll] at h
  | .fn _ _ _ :: r, ts, h => by simp [cellsAll] at h

theorem step_makeFunc {fn : Fn} {first captured : Array Operand} (hs : Holds ρ hF s a w) (hop : o.op = .makeFunc fn first captured) (h : stepOp P s o = some r) : StepOk P ρ hF s a w o r := by
  simp only [stepOp, hop] at h
  split at h
  · rename_i x y hx hy
    simp only [Option.bind_eq_some_iff] at hx hy
    obtain ⟨vx, hx1, hx2⟩ := hx
    obtain ⟨vy, hy1, hy2⟩ := hy
    simp only [Option.some.injEq] at h; subst h
    refine StepOk.quiet hs ?_
    have ex := hs.opds hx1
    have ey := hs.opds hy1
    rw [cellsAll_den hx2] at ex
    rw [cellsAll_den hy2] at ey
    simp only [SV.den]
    simp only [execOp, hop, Instr.makeFunc, Sem.run_bind, Sem.run_pure, Result.andThen_ok]
    rw [← ex, ← ey]
    congr 3
    · apply Array.ext'; simp
    · apply Array.ext'; simp
  · simp at h

theorem step_len {args : Array Operand} {tys : Array TypeId} (hs : Holds ρ hF s a w) (hop : o.op = .call { callee := .builtin .len, args, argTypes := tys }) (h : stepOp P s o = some r) (hn : ∀ c ∈ r.needs, (c.den ρ).b = true) : StepOk P ρ hF s a w o r := by
  simp only [stepOp, hop] at h
  split at h
  · rename_i el x ht ha
    simp only [Option.bind_eq_some_iff] at ht
    obtain ⟨t, ht0, htu⟩ := ht
    have hargs : args = #[x] := by apply Array.ext'; simpa using ha
    split at h
    · rename_i rg p off len cap hx
      have hev := hs.opd hx
      simp only [Option.some.injEq] at h; subst h
      have h0 := mkLe0_den (hn _ (List.mem_singleton.2 rfl))
      refine StepOk.quiet hs ?_
      simp only [SV.den, T.den, O1.den, O3.den] at hev ⊢
      have : ((len.den ρ).i.toNat : Int) = (len.den ρ).i := by omega
      simp [execOp, hop, resolve, invoke, builtin, Builtin.len_, hargs, ht0, underlying_run htu, hev, goInt]
      omega
    · rename_i hx
      have hev := hs.opd hx
      simp only [Option.some.injEq] at h; subst h
      refine StepOk.quiet hs ?_
      simp only [SV.den, T.den, O0.den, O1.den] at hev ⊢
      simp [execOp, hop, resolve, invoke, builtin, Builtin.len_, hargs, ht0, underlying_run htu, hev, goInt]
    · simp at h
  · rename_i x ht ha
    simp only [Option.bind_eq_some_iff] at ht
    obtain ⟨t, ht0, htu⟩ := ht
    have hargs : args = #[x] := by apply Array.ext'; simpa using ha
    split at h
    · rename_i u hx
      split at h
      · rename_i hu
        have hev := hs.opd hx
        simp only [Option.some.injEq] at h; subst h
        obtain ⟨su, hsu⟩ := isStrT_den (ρ := ρ) hu
        refine StepOk.quiet hs ?_
        simp only [SV.den, hsu] at hev
        have hz : ((mkSlen u).den ρ).i = (su.size : Int) := by
          rw [mkSlen_den, hsu]; simp [vStr, bl_data]
        simp only [SV.den, T.den, O1.den, hz]
        simp [execOp, hop, resolve, invoke, builtin, Builtin.len_, hargs, ht0, underlying_run htu, hev, goInt]
      · simp at h
    · simp at h
  · simp at h

theorem step_cap {args : Array Operand} {tys : Array TypeId} (hs : Holds ρ hF s a w) (hop : o.op = .call { callee := .builtin .cap, args, argTypes := tys }) (h : stepOp P s o = some r) (hn : ∀ c ∈ r.needs, (c.den ρ).b = true) : StepOk P ρ hF s a w o r := by
  simp only [stepOp, hop] at h
  split at h
  · rename_i el x ht ha
    simp only [Option.bind_eq_some_iff] at ht
    obtain ⟨t, ht0, htu⟩ := ht
    have hargs : args = #[x] := by apply Array.ext'; simpa using ha
    split at h
    · rename_i rg p off len cap hx
      have hev := hs.opd hx
      simp only [Option.some.injEq] at h; subst h
      have h0 := mkLe0_den (hn _ (List.mem_singleton.2 rfl))
      refine StepOk.quiet hs ?_
      simp only [SV.den, T.den, O1.den, O3.den] at hev ⊢
      have : ((cap.den ρ).i.toNat : Int) = (cap.den ρ).i := by omega
      simp [execOp, hop, resolve, invoke, builtin, Builtin.cap_, hargs, ht0, underlying_run htu, hev, goInt]
      omega
    · rename_i hx
      have hev := hs.opd hx
      simp only [Option.some.injEq] at h; subst h
      refine StepOk.quiet hs ?_
      simp only [SV.den, T.den, O0.den, O1.den] at hev ⊢
      simp [execOp, hop, resolve, invoke, builtin, Builtin.cap_, hargs, ht0, underlying_run htu, hev, goInt]
    · simp at h
  · simp at h

theorem step_index {t : TypeId} {x i : Operand} (hs : Holds ρ hF s a w) (hop : o.op = .index t x i) (h : stepOp P s o = some r) (hn : ∀ c ∈ r.needs, (c.den ρ).b = true) : StepOk P ρ hF s a w o r := by
  simp only [stepOp, hop] at h
  split at h
  · rename_i u k j htu hx hi
    split at h
    · rename_i hu
      have hev := hs.opd hx
      have hei := hs.opd hi
      simp only [Option.some.injEq] at h; subst h
      obtain ⟨su, hsu⟩ := isStrT_den (ρ := ρ) hu
      have h0 := mkLe0_den (hn _ (List.mem_cons_self ..))
      have h1 := hn _ (List.mem_cons_of_mem _ (List.mem_singleton.2 rfl))
      rw [mkCmp_den _ _ _ (by simp)] at h1
      simp only [cmpOf, mkSlen_den, hsu, decide_eq_true_eq] at h1
      refine StepOk.quiet hs ?_
      simp only [SV.den, T.den, O1.den, hsu] at hev hei
      have hl : (j.den ρ).i.toNat < (vStr (.string su)).length := by omega
      have hlz : (j.den ρ).i.toNat < su.size := by simpa [vStr, bl_data] using hl
      have hg : su[(j.den ρ).i.toNat]? = some ((vStr (.string su))[(j.den ρ).i.toNat]'hl) := by
        rw [getElem?_pos su _ hlz]
        simp only [vStr, bl_data, Array.getElem_toList]
        rfl
      simp only [SV.den, T.den, O1.den, O2.den, hsu, List.getElem?_eq_getElem hl, Option.getD_some]
      simp only [execOp, hop, Sem.run_bind, hev, hei, Instr.index, asIntOf, Sem.run_pure, Result.andThen_ok, underlying_run htu, if_pos h0, hg]
    · simp at h
  · rename_i n el ts k j htu hx hi
    have hev := hs.opd hx
    have hei := hs.opd hi
    simp only [SV.den, T.den, O1.den] at hev hei
    unfold indexArr at h
    split at h
    · rename_i hsz hag
      split at h
      · rename_i hl
        have hl := Nat.eq_of_beq_eq_true hl
        have hrun : ∀ (z : Int) (v : Value), (j.den ρ).i = z → 0 ≤ z → z < n → (denVs ρ ts)[z.toNat]? = some v → (execOp a.eval o).run P w = .ok (.value v) w := fun z v hz z0 z1 hv => by
          have hcond : 0 ≤ z ∧ z < (n : Int) := ⟨z0, z1⟩
          have ha : (isAgg el).run P w = .ok false w := aggP_run hag w
          simp only [execOp, hop, Sem.run_bind, hev, hei, hz, Instr.index, asIntOf, Sem.run_pure, Result.andThen_ok, underlying_run htu, if_pos hcond, sizeP_run hsz, part, ha, Nat.mul_one, Bool.false_eq_true, if_false, List.getElem?_toArray, hv]
        split at h
        · rename_i z hz
          have hz' := isLit_den (ρ := ρ) hz
          split at h
          · rename_i hzc
            simp only [Option.map_eq_some_iff] at h
            obtain ⟨t', ht', rfl⟩ := h
            refine StepOk.quiet hs ?_
            exact hrun z _ hz' hzc.1 hzc.2 (by simp [denVs, ht', SV.den])
          · simp at h
        · split at h
          · rename_i k0 _
            split at h
            · rename_i hall
              simp only [Option.some.injEq] at h; subst h
              have h0 := mkLe0_den (hn _ (List.mem_cons_self ..))
              have h1 := hn _ (List.mem_cons_of_mem _ (List.mem_singleton.2 rfl))
              rw [mkCmp_den _ _ _ (by simp)] at h1
              have h1 : (j.den ρ).i < (n : Int) := of_decide_eq_true h1
              obtain ⟨zs, hzs⟩ := allVint_den (ρ := ρ) hall
              refine StepOk.quiet hs ?_
              have hzl : zs.length = n := by
                have hq := congrArg List.length hzs
                rw [denVs, List.length_map, List.length_map, hl] at hq
                exact hq.symm
              have hget : zs[(j.den ρ).i.toNat]? = some (zs[(j.den ρ).i.toNat]'(by omega)) := List.getElem?_eq_getElem (by omega)
              have hcell : ((T.c2 (.xint 0) (T.row ts) j).den ρ).i = zs[(j.den ρ).i.toNat]'(by omega) := by
                simp only [T.den, O2.den, cellX, row_headD, hzs, Nat.add_zero, List.getElem?_map, hget, Option.map_some, Option.getD_some, vInt]
              refine hrun _ _ rfl h0 h1 ?_
              simp only [SV.den, T.den, O1.den] at hcell ⊢
              rw [hcell, hzs, List.getElem?_map, hget]
              rfl
            · simp at h
          · simp at h
      · simp at h
    · simp at h
  · simp at h

theorem step_min {args : Array Operand} {tys : Array TypeId} (hs : Holds ρ hF s a w) (hop : o.op = .call { callee := .builtin .min, args, argTypes := tys }) (h : stepOp P s o = some r) : StepOk P ρ hF s a w o r := by
  simp only [stepOp, hop] at h
  split at h
  · rename_i k x k' y hx
    have he := hs.opds hx
    simp only [Option.some.injEq] at h; subst h
    refine StepOk.quiet hs ?_
    simp only [List.map_cons, List.map_nil, SV.den, T.den, O1.den] at he ⊢
    have hargs : args.map a.eval = #[.int k (x.den ρ).i, .int k' (y.den ρ).i] := by apply Array.ext'; simpa using he
    simp [execOp, hop, resolve, invoke, builtin, Builtin.min_, hargs, Builtin.min2, mkMin_den]
  · simp at h

theorem step_max {args : Array Operand} {tys : Array TypeId} (hs : Holds ρ hF s a w) (hop : o.op = .call { callee := .builtin .max, args, argTypes := tys }) (h : stepOp P s o = some r) : StepOk P ρ hF s a w o r := by
  simp only [stepOp, hop] at h
  split at h
  · rename_i k x k' y hx
    have he := hs.opds hx
    simp only [Option.some.injEq] at h; subst h
    refine StepOk.quiet hs ?_
    simp only [List.map_cons, List.map_nil, SV.den, T.den, O1.den] at he ⊢
    have hargs : args.map a.eval = #[.int k (x.den ρ).i, .int k' (y.den ρ).i] := by apply Array.ext'; simpa using he
    simp [execOp, hop, resolve, invoke, builtin, Builtin.max_, hargs, Builtin.max2, mkMax_den]
  · simp at h

theorem replaceAt_in {n : Nat} {l vs : List T} {i : Nat} (h : l.all (T.inB n) = true) (h' : vs.all (T.inB n) = true) : (replaceAt l i vs).all (T.inB n) = true := by
  rw [List.all_eq_true] at *
  intro x hx
  unfold replaceAt at hx
  rcases List.mem_append.1 hx with hx | hx
  · rcases List.mem_append.1 hx with hx | hx
    · exact h x (List.mem_of_mem_take hx)
    · exact h' x hx
  · exact h x (List.mem_of_mem_drop hx)

theorem fold_splice (off : Nat) : ∀ (l : List Value) (k : Nat) (cells : Array Value), off + k + l.length ≤ cells.size →
    let r := (l.zipIdx k).foldl (fun (cs : Array Value) (x : Value × Nat) => cs.setIfInBounds (off + x.2) x.1) cells
    r.size = cells.size ∧ ∀ j, r[j]? = if off + k ≤ j ∧ j < off + k + l.length then l[j - (off + k)]? else cells[j]?
  | [], k, cells, _ => ⟨rfl, fun j => by rw [if_neg (by simp)]; rfl⟩
  | v :: l, k, cells, h => by
    simp only [List.length_cons] at h
    have ih := fold_splice off l (k + 1) (cells.setIfInBounds (off + k) v) (by simp only [Array.size_setIfInBounds]; omega)
    simp only [List.zipIdx_cons, List.foldl_cons] at ih ⊢
    refine ⟨by simpa using ih.1, fun j => ?_⟩
    rw [ih.2 j]
    simp only [List.length_cons]
    by_cases hj : j = off + k
    · subst hj
      rw [if_neg (by omega), if_pos (by omega)]
      have : off + k < cells.size := by omega
      simp [this]
    · by_cases hin : off + (k + 1) ≤ j ∧ j < off + (k + 1) + l.length
      · rw [if_pos hin, if_pos (by omega), show j - (off + k) = (j - (off + (k + 1))) + 1 from by omega, List.getElem?_cons_succ]
      · rw [if_neg hin, if_neg (by omega), Array.getElem?_setIfInBounds_ne (fun h => hj h.symm)]

theorem fold_splice_eq (off : Nat) (l : List Value) (cells : List Value) (h : off + l.length ≤ cells.length) :
    l.toArray.zipIdx.foldl (fun (cs : Array Value) (x : Value × Nat) => cs.setIfInBounds (off + x.2) x.1) cells.toArray = (splice cells off l).toArray := by
  have := fold_splice off l 0 cells.toArray (by simpa using h)
  simp only [Nat.add_zero] at this
  have e : l.toArray.zipIdx.foldl (fun (cs : Array Value) (x : Value × Nat) => cs.setIfInBounds (off + x.2) x.1) cells.toArray =
      (l.zipIdx 0).foldl (fun (cs : Array Value) (x : Value × Nat) => cs.setIfInBounds (off + x.2) x.1) cells.toArray := by
    rw [← Array.foldl_toList]; simp
  rw [e]
  apply Array.ext_getElem?
  intro j
  rw [this.2 j]
  simp only [List.getElem?_toArray]
  rw [splice_get h]

def PartsDen (ρ : Env) : List (Nat × List T) → List (Nat × Value) → Prop
  | [], [] => True
  | (i, ts) :: r, (j, v) :: r' => i = j ∧ v.cells = (denVs ρ ts).toArray ∧ PartsDen ρ r r'
  | _, _ => False

theorem fillT_sound {pl : Nat → Option (Nat × Nat)} : ∀ {ps : List (Nat × List T)} {vs : List (Nat × Value)} {z cs : List T}, PartsDen ρ ps vs → fillT pl z ps = some cs →
    Instr.fill pl (denVs ρ z).toArray vs = some (denVs ρ cs).toArray
  | [], [], z, cs, _, h => by simp only [fillT, Option.some.injEq] at h; subst h; rfl
  | (i, ts) :: r, (j, v) :: r', z, cs, hd, h => by
    obtain ⟨rfl, hv, hr⟩ := hd
    simp only [fillT] at h
    split at h
    · simp at h
    · rename_i off size hpl
      split at h
      · rename_i hc
        simp only [Bool.and_eq_true, Nat.ble_eq] at hc
        have hsz := Nat.eq_of_beq_eq_true hc.1
        have hl : (denVs ρ ts).length = ts.length := by simp [denVs]
        have hl2 : (denVs ρ z).length = z.length := by simp [denVs]
        simp only [Instr.fill, hpl, hv]
        rw [if_neg]
        · have := fillT_sound (pl := pl) (z := replaceAt z off ts) hr h
          rw [replaceAt_den] at this
          rw [← this]
          congr 1
          exact fold_splice_eq off _ _ (by rw [hl, hl2]; exact hc.2)
        · simp [hl, hl2, hsz]
          omega
      · simp at h
  | [], _ :: _, _, _, hd, _ => hd.elim
  | _ :: _, [], _, _, hd, _ => hd.elim

theorem partsT_den (hs : Holds ρ hF s a w) : ∀ {l : List (Nat × Operand)} {ps : List (Nat × List T)}, partsT s l = some ps → PartsDen ρ ps (l.map fun x => (x.1, a.eval x.2))
  | [], ps, h => by simp only [partsT, Option.some.injEq] at h; subst h; trivial
  | (i, x) :: r, ps, h => by
    simp only [partsT] at h
    split at h
    · rename_i cs l' hc hl
      simp only [Option.some.injEq] at h; subst h
      simp only [Option.bind_eq_some_iff] at hc
      obtain ⟨v, hv, hcs⟩ := hc
      exact ⟨rfl, by rw [hs.opd hv]; exact cells_den hs.gd hcs, partsT_den hs hl⟩
    · simp at h

theorem placesOf_mapM : ∀ {fs : List Field} {l : List (Nat × Nat)}, placesOf P fs = some l → fs.mapM (fun f => (P.info? f.type).map fun i => (f.offset, i.size)) = some l
  | [], l, h => by simp only [placesOf, Option.some.injEq] at h; subst h; rfl
  | f :: fs, l, h => by
    simp only [placesOf] at h
    split at h
    · rename_i i l' hi hl
      simp only [Option.some.injEq] at h; subst h
      simp [List.mapM_cons, hi, placesOf_mapM hl]
    · simp at h

theorem zeroP_info {t : TypeId} {cs : List T} (h : zeroP P t = some cs) : ∃ i v, P.info? t = some i ∧ i.zero = some v ∧ v.cells = (denVs ρ cs).toArray := by
  unfold zeroP at h
  split at h
  · rename_i v hv
    simp only [Option.bind_eq_some_iff] at hv
    obtain ⟨i, hi, hz⟩ := hv
    exact ⟨i, v, hi, hz, by rw [ofCells_den h]⟩
  · simp at h

theorem step_build {t : TypeId} {parts : Array (Nat × Operand)} (hs : Holds ρ hF s a w) (hop : o.op = .build t parts) (h : stepOp P s o = some r) : StepOk P ρ hF s a w o r := by
  simp only [stepOp, hop] at h
  split at h
  · rename_i z pl ps hz hpl hps
    simp only [Option.map_eq_some_iff] at h
    obtain ⟨cs, hfill, rfl⟩ := h
    refine StepOk.quiet hs ?_
    obtain ⟨i, v, hi, hiz, hzc⟩ := zeroP_info (ρ := ρ) hz
    have hfs := fillT_sound (partsT_den hs hps) hfill
    have hb : P.built t (parts.map fun x => (x.1, a.eval x.2)).toList = some (denVs ρ cs).toArray := by
      rw [Array.toList_map]
      unfold placeP at hpl
      unfold Program.built
      split at hpl
      · rename_i fs hu
        simp only [Option.map_eq_some_iff] at hpl
        obtain ⟨l, hl, rfl⟩ := hpl
        simp only [hi, hu, hiz, placesOf_mapM hl, hzc]
        simpa using hfs
      · rename_i n e hu
        simp only [Option.map_eq_some_iff, sizeP] at hpl
        obtain ⟨n', ⟨ie, hie, rfl⟩, rfl⟩ := hpl
        simp only [hi, hu, hiz, hie, hzc]
        exact hfs
      · simp at hpl
    simp only [SV.den]
    simp only [execOp, hop, Sem.run_bind, run_build w t _ _ hb, Result.andThen_ok, Sem.run_pure]
  · simp at h

theorem repeatT_len (z : List T) : ∀ n, (repeatT z n).length = n * z.length
  | 0 => by simp [repeatT]
  | n + 1 => by simp [repeatT, repeatT_len z n, Nat.add_mul]; omega

theorem repeatT_get (z : List Value) (hz : 0 < z.length) : ∀ (n j : Nat) (l : List T), denVs ρ l = z → j < n * z.length → (denVs ρ (repeatT l n))[j]? = z[j % z.length]?
  | 0, j, l, _, hj => by simp at hj
  | n + 1, j, l, hl, hj => by
    have hd : denVs ρ (repeatT l (n + 1)) = z ++ denVs ρ (repeatT l n) := by simp only [repeatT, denVs, List.map_append] at hl ⊢; rw [hl]
    rw [hd]
    by_cases h : j < z.length
    · rw [List.getElem?_append_left h, Nat.mod_eq_of_lt h]
    · rw [List.getElem?_append_right (by omega), repeatT_get z hz n (j - z.length) l hl (by rw [Nat.add_mul] at hj; omega)]
      rw [Nat.mod_eq_sub_mod (Nat.le_of_not_lt h)]

theorem repeatT_in {n : Nat} {z : List T} (h : z.all (T.inB n) = true) : ∀ m, (repeatT z m).all (T.inB n) = true
  | 0 => rfl
  | m + 1 => by simp [repeatT, List.all_append, h, repeatT_in h m]

theorem fillT_in {n : Nat} {pl : Nat → Option (Nat × Nat)} : ∀ {ps : List (Nat × List T)} {z cs : List T}, z.all (T.inB n) = true → (∀ x ∈ ps, x.2.all (T.inB n) = true) → fillT pl z ps = some cs → cs.all (T.inB n) = true
  | [], z, cs, hz, _, h => by simp only [fillT, Option.some.injEq] at h; subst h; exact hz
  | (i, ts) :: r, z, cs, hz, hp, h => by
    simp only [fillT] at h
    split at h
    · simp at h
    · split at h
      · exact fillT_in (replaceAt_in hz (hp _ (List.mem_cons_self ..))) (fun x hx => hp x (List.mem_cons_of_mem _ hx)) h
      · simp at h

theorem partsT_in (hsc : s.scopedEH = true) : ∀ {l : List (Nat × Operand)} {ps : List (Nat × List T)}, partsT s l = some ps → ∀ x ∈ ps, x.2.all (T.inB s.nx) = true
  | [], ps, h, x, hx => by simp only [partsT, Option.some.injEq] at h; subst h; cases hx
  | (i, y) :: r, ps, h, x, hx => by
    simp only [partsT] at h
    split at h
    · rename_i cs l' hc hl
      simp only [Option.some.injEq] at h; subst h
      simp only [Option.bind_eq_some_iff] at hc
      obtain ⟨v, hv, hcs⟩ := hc
      cases hx with
      | head => exact cells_in hcs (opd_in hsc hv)
      | tail _ hx => exact partsT_in hsc hl x hx
    · simp at h

theorem zeroP_in {t : TypeId} {cs : List T} {n : Nat} (h : zeroP P t = some cs) : cs.all (T.inB n) = true := by
  unfold zeroP at h
  split at h
  · exact ofCells_in h
  · simp at h

theorem step_buildSlice {t : TypeId} {len : Nat} {parts : Array (Nat × Operand)} (hs : Holds ρ hF s a w) (hop : o.op = .buildSlice t len parts) (hsc : s.scopedEH = true) (h : stepOp P s o = some r) : StepOk P ρ hF s a w o r := by
  simp only [stepOp, hop] at h
  split at h
  · rename_i el hu
    split at h
    · rename_i z n ps hz hn hps
      split at h
      · rename_i hc
        simp only [Bool.and_eq_true, Nat.ble_eq, Nat.blt_eq] at hc
        have hzl := Nat.eq_of_beq_eq_true hc.1.1
        split at h
        · rename_i cs hfill
          simp only [Option.some.injEq] at h; subst h
          obtain ⟨i, v, hi, hiz, hzc⟩ := zeroP_info (ρ := ρ) hz
          have hin : i.size = n := by simpa [sizeP, hi] using hn
          have hfs := fillT_sound (partsT_den hs hps) hfill
          have hcin : cs.all (T.inB s.nx) = true := fillT_in (repeatT_in (zeroP_in hz) len) (partsT_in hsc hps) hfill
          have hg : denVs (ρ.set s.nx { r := some ⟨w.heap.size, 0, none⟩ }) cs = denVs ρ cs := denVs_congr (fun m hm => Env.set_ne ρ _ (by omega)) cs hcin
          have hsh : s.heap.all (SH.inB s.nx) = true := by simp only [S.scopedEH, Bool.and_eq_true] at hsc; exact hsc.2
          have hdl : (denVs ρ z).length = n := by simp [denVs, hzl]
          have hzero : (Array.range (len * n)).map (fun x => (denVs ρ z).toArray[x % (denVs ρ z).toArray.size]!) = (denVs ρ (repeatT z len)).toArray := by
            apply Array.ext_getElem?
            intro j
            by_cases hj : j < len * n
            · have := repeatT_get (ρ := ρ) (denVs ρ z) (by rw [hdl]; exact hc.1.2) len j z rfl (by rw [hdl]; exact hj)
              rw [show (denVs ρ (repeatT z len)).toArray[j]? = (denVs ρ (repeatT z len))[j]? from List.getElem?_toArray, this, hdl]
              have hm : j % n < (denVs ρ z).length := by rw [hdl]; exact Nat.mod_lt _ hc.1.2
              simp [hj, hdl, List.getElem?_eq_getElem hm]
            · rw [Array.getElem?_eq_none (by simp; omega), Array.getElem?_eq_none (by simp [denVs, repeatT_len, hzl]; omega)]
          refine ⟨[{ r := some ⟨w.heap.size, 0, none⟩ }], _, rfl, by simp [U.good, Value.oneCell'], HeapOk.alloc hs.hp hsh (c := (denVs ρ cs).toArray) (by rw [hg]), ?_, fun h => by cases h⟩
          have hv : SV.den (ρ.set s.nx { r := some ⟨w.heap.size, 0, none⟩ }) (.one (.vslice s.nx (.lit 0) (.lit len) (.lit len) n)) = .slice (some ⟨w.heap.size, 0, none⟩) len len := by
            simp [SV.den, T.den, O0.den, O3.den, addrOf]
          simp only [Ran, setL, hv]
          have hparts : (parts.map fun x => (x.1, a.eval x.2)).toList = parts.toList.map fun x => (x.1, a.eval x.2) := Array.toList_map ..
          by_cases h0 : len * n = 0
          · have hl0 : len = 0 := by rcases Nat.mul_eq_zero.1 h0 with h | h; exact h; omega
            subst hl0
            have hz0 : (denVs ρ (repeatT z 0)).toArray = #[] := rfl
            rw [hz0] at hfs
            have hfs2 : Instr.fill (fun i => some (i * n, n)) (Array.map (fun _ => (default : Value)) (Array.range 0)) (List.map (fun x => (x.fst, a.eval x.snd)) parts.toList) = some (denVs ρ cs).toArray := by rw [show (Array.map (fun _ => (default : Value)) (Array.range 0)) = #[] from by simp]; exact hfs
            simp [execOp, hop, Instr.buildSlice, underlying_run hu, sizeOf, typeInfo, hi, hin, newRow, hfs2]
          · have hrun := run_buildSlice (P := P) w t el len (parts.map fun x => (x.1, a.eval x.2)) (denVs ρ cs).toArray i v hu hi hiz (by rw [hin]; have := hc.2; omega) (by rw [hin]; exact h0)
              (by rw [hin, hzc, hparts]; rw [hzero]; exact hfs)
            simp only [execOp, hop, Sem.run_bind, Result.andThen_ok, Sem.run_pure]
            rw [show (parts.map fun x => (x.1, a.eval x.2)) = (parts.map fun (i, x) => (i, a.eval x)) from rfl] at hrun
            rw [hrun]
            rfl
        · simp at h
      · simp at h
    · simp at h
  · simp at h

end Go.Eng

set_option linter.unusedSimpArgs false
set_option linter.unusedVariables false
namespace Go.Eng
open Go
variable {P : Program} {ρ : Env} {hF : Fr} {s : S} {a : Act} {w : World} {o : Oper} {r : R1}

theorem bytesP_info {t : TypeId} {n : Nat} (h : bytesP P t = some n) : ∃ i, P.info? t = some i ∧ i.bytes = n := by
  unfold bytesP at h; simpa [Option.map_eq_some_iff] using h
theorem sizeP_info {t : TypeId} {n : Nat} (h : sizeP P t = some n) : ∃ i, P.info? t = some i ∧ i.size = n := by
  unfold sizeP at h; simpa [Option.map_eq_some_iff] using h

theorem leq_den {x y : T} (h : ((mkCmp .leq x y).den ρ).b = true) : (x.den ρ).i ≤ (y.den ρ).i := by
  rw [mkCmp_den _ _ _ (by simp)] at h; exact of_decide_eq_true h
theorem eql_den {x y : T} (h : ((mkCmp .eql x y).den ρ).b = true) : (x.den ρ).i = (y.den ρ).i := by
  rw [mkCmp_den _ _ _ (by simp)] at h; simpa [cmpOf] using h

theorem HeapOk.new {heap : List SH} {w : World} {n : Nat} {ρ' : Env} {x : SH} {ob : Obj} {d : Nat} (h : HeapOk ρ hF heap w) (hsc : heap.all (SH.inB n) = true) (hag : ∀ m, m < n → ρ m = ρ' m)
    (hx : x.den ρ' (Hp.one w.heap.size ob)) : HeapOk ρ' hF (x :: heap) { w with heap := w.heap.push ob, drawn := d } := by
  obtain ⟨hO, hd, hst, hsub, hwi⟩ := h
  have hlt : ∀ y o, Hp.union hF hO y = some o → y < w.heap.size := fun y o hy => by
    have := hsub y o hy
    rcases Nat.lt_or_ge y w.heap.size with h | h
    · exact h
    · rw [Array.getElem?_eq_none h] at this; cases this
  have hno : ∀ h', Hp.le h' (Hp.union hF hO) → Hp.disj h' (Hp.one w.heap.size ob) := fun h' hl y => by
    by_cases hy : y = w.heap.size
    · left
      cases hx : h' y with
      | none => rfl
      | some o => have := hlt y o (hl y o hx); omega
    · right; simp [Hp.one, hy]
  refine ⟨Hp.union (Hp.one w.heap.size ob) hO, ?_, ⟨_, hO, (hno hO (Hp.le_right hd)).symm, rfl, hx, ?_⟩, ?_⟩
  · exact Hp.disj_union.2 ⟨hno hF (Hp.le_left _ _), hd⟩
  · exact star_congr (n := n) hag _ hsc _ hst
  · refine ⟨fun y o hy => ?_, hwi⟩
    by_cases hyb : y = w.heap.size
    · subst hyb
      have : hF w.heap.size = none := by
        cases hx : hF w.heap.size with
        | none => rfl
        | some o' => have := hlt w.heap.size o' (Hp.le_left _ _ _ _ hx); omega
      simp only [Hp.union, this, Hp.one, if_true, Option.none_or, Option.some_or, Option.some.injEq] at hy
      subst hy
      simp
    · have hy' : Hp.union hF hO y = some o := by
        simp only [Hp.union, Hp.one, hyb, if_false, Option.none_or] at hy ⊢
        exact hy
      have h1 := hsub y o hy'
      have h2 := hlt y o hy'
      simp only
      rw [Array.getElem?_push_lt h2]
      rwa [Array.getElem?_eq_getElem h2] at h1

theorem kindOf_fits (hg : ρ.good) (t : T) : CK.fits (kindOf t) (t.den ρ).v = true := by
  have := (T.den_good hg t).1
  unfold kindOf
  split
  · simp [T.den, O1.den, CK.fits]
  · simp [T.den, O1.den, CK.fits]
  · exact this

theorem zero_fits (hg : ρ.good) (z : List T) : fitsRow (z.map kindOf) (denVs ρ z) := by
  refine ⟨by simp [denVs], fun c k v hk hv => ?_⟩
  simp only [List.getElem?_map, Option.map_eq_some_iff] at hk
  obtain ⟨t, ht, rfl⟩ := hk
  simp only [denVs, List.getElem?_map, ht, Option.map_some, Option.some.injEq] at hv
  subst hv
  exact kindOf_fits hg t

theorem zeroP_fits {t : TypeId} {z : List T} (h : zeroP P t = some z) (ρ : Env) : fitsRow (z.map kindOf) (denVs ρ z) := by
  have h1 := zeroP_in (n := 0) h
  have : denVs ρ z = denVs (fun _ => {}) z := denVs_congr (n := 0) (fun m hm => by omega) z h1
  rw [this]
  exact zero_fits (fun n => by simp [U.good, Value.oneCell']) z

theorem madeCells_get (z : List Value) (hz : 0 < z.length) (n j : Nat) (hj : j < n) : (madeCells z.toArray n)[j]? = z[j % z.length]? := by
  have hm : j % z.length < z.length := Nat.mod_lt _ hz
  simp [madeCells, hj, List.getElem?_eq_getElem hm]

theorem step_make {t : TypeId} {l c : Operand} (hs : Holds ρ hF s a w) (hop : o.op = .makeSlice t l c) (hsc : s.scopedEH = true) (h : stepOp P s o = some r) (hn : ∀ c ∈ r.needs, (c.den ρ).b = true) : StepOk P ρ hF s a w o r := by
  simp only [stepOp, hop] at h
  split at h
  · rename_i va vb hl hc
    have hel := hs.opd hl
    have hec := hs.opd hc
    have hil := opd_in hsc hl
    have hic := opd_in hsc hc
    unfold stepMake at h
    split at h
    · rename_i el kl lt kc ct hu
      simp only [SV.den, T.den, O1.den] at hel hec
      split at h
      · rename_i z n bz hz hsz hbz
        split at h
        · rename_i hchk
          simp only [Bool.and_eq_true, Nat.blt_eq] at hchk
          have hzl := Nat.eq_of_beq_eq_true hchk.1.1
          simp only [Option.some.injEq] at h; subst h
          have h0 := mkLe0_den (hn _ (List.mem_cons_self ..))
          have h1 := leq_den (hn _ (List.mem_cons_of_mem _ (List.mem_cons_self ..)))
          have h2 := leq_den (hn _ (List.mem_cons_of_mem _ (List.mem_cons_of_mem _ (List.mem_cons_self ..))))
          simp only [T.den, O0.den, O2.den] at h2
          obtain ⟨i, v, hi, hiz, hzc⟩ := zeroP_info (ρ := ρ) hz
          have his : i.size = n := by simpa [sizeP, hi] using hsz
          have hib : i.bytes = bz := by simpa [bytesP, hi] using hbz
          have hc63 : (ct.den ρ).i ≤ 9223372036854775807 := by
            have : (ct.den ρ).i ≤ (bz : Int) * (ct.den ρ).i := by
              have hb1 : (1 : Int) ≤ bz := by omega
              have := Int.mul_le_mul_of_nonneg_right hb1 (show 0 ≤ (ct.den ρ).i by omega)
              omega
            omega
          have hrun := run_make (P := P) w t el i v hu hi hiz kl kc (lt.den ρ).i (ct.den ρ).i h0 h1 (by rw [hib]; exact h2) hc63
          rw [hzc, his] at hrun
          have hdl : (denVs ρ z).length = n := by simp [denVs, hzl]
          let u : U := { r := some ⟨w.heap.size, 0, none⟩ }
          have hag : ∀ m, m < s.nx → ρ m = (ρ.set s.nx u) m := fun m hm => (Env.set_ne ρ u (by omega)).symm
          have hsh : s.heap.all (SH.inB s.nx) = true := by simp only [S.scopedEH, Bool.and_eq_true] at hsc; exact hsc.2
          have hlt : lt.den (ρ.set s.nx u) = lt.den ρ := (T.den_congr hag lt hil).symm
          have hct : ct.den (ρ.set s.nx u) = ct.den ρ := (T.den_congr hag ct hic).symm
          have hzd : denVs (ρ.set s.nx u) z = denVs ρ z := (denVs_congr hag z (zeroP_in hz)).symm
          refine ⟨[u], _, rfl, by simp [U.good, u, Value.oneCell'], HeapOk.new (ρ' := ρ.set s.nx u) (d := w.drawn) hs.hp hsh hag (ob := .cells (madeCells (denVs ρ z).toArray ((ct.den ρ).i.toNat * n)) el) ?_, ?_, fun h => by cases h⟩
          · refine .inr ⟨w.heap.size, madeCells (denVs ρ z).toArray ((ct.den ρ).i.toNat * n), by simp [u], by simp [Hp.one], ?_, ?_, ?_⟩
            · rw [size_madeCells, hct]; simp [hzl]
            · simp only [T.den, O2.den, List.length_replicate, hlt, hct]; omega
            · intro i row hrow
              simp only [T.den, O2.den, hlt] at hrow
              rw [List.getElem?_replicate] at hrow
              split at hrow
              · rename_i hil2
                simp only [Option.some.injEq, row_den, hzd] at hrow
                subst hrow
                refine ⟨zeroP_fits hz ρ, fun k v hv => ?_⟩
                have hk : k < n := by
                  rw [← hdl]
                  rcases Nat.lt_or_ge k (denVs ρ z).length with h | h
                  · exact h
                  · rw [List.getElem?_eq_none h] at hv; cases hv
                have hmul : (i + 1) * n ≤ (ct.den ρ).i.toNat * n := Nat.mul_le_mul_right _ (by omega)
                rw [Nat.add_mul, Nat.one_mul] at hmul
                rw [List.length_map, hzl]
                rw [madeCells_get _ (by omega) _ _ (by omega), hdl]
                rw [show (0 + i * n + k) % n = k from by rw [Nat.zero_add, Nat.mul_comm, Nat.mul_add_mod, Nat.mod_eq_of_lt hk]]
                exact hv
              · cases hrow
          · have hv : SV.den (ρ.set s.nx u) (.one (.vslice s.nx (.lit 0) lt ct n)) = .slice (some ⟨w.heap.size, 0, none⟩) (lt.den ρ).i.toNat (ct.den ρ).i.toNat := by
              simp [SV.den, T.den, O0.den, O3.den, addrOf, hlt, hct, u]
            simp only [Ran, setL, hv]
            simp only [execOp, hop, hel, hec, Sem.run_bind, hrun, Result.andThen_ok, Sem.run_pure]
            rfl
        · simp at h
      · simp at h
    · simp at h
  · simp at h

theorem boundOf_den (hs : Holds ρ hF s a w) {dflt t : T} {x : Option Operand} (h : boundOf s dflt x = some t) :
    match x with
    | none => t = dflt
    | some y => ∃ k, a.eval y = .int k (t.den ρ).i := by
  cases x with
  | none => simp only [boundOf, Option.some.injEq] at h; exact h.symm
  | some y =>
    simp only [boundOf] at h
    split at h
    · rename_i k t' hx
      simp only [Option.some.injEq] at h; subst h
      exact ⟨k, by have := hs.opd hx; simpa [SV.den, T.den, O1.den] using this⟩
    · simp at h

theorem mkMinus_den (x y : T) : ((mkMinus x y).den ρ).i = (x.den ρ).i - (y.den ρ).i := by
  unfold mkMinus
  split
  · rename_i u v hu hv; rw [isLit_eq hu, isLit_eq hv]; simp [T.den, O0.den]
  · rename_i v hu hv
    split
    · rename_i h0; rw [isLit_eq hv, h0]; simp [T.den, O0.den]
    · rfl
  · split
    · rename_i h; rw [T.same_eq h]; simp [T.den, O0.den]
    · rfl
theorem mkIfe_den (x y u v : T) : ((mkIfe x y u v).den ρ).i = if (x.den ρ).i = (y.den ρ).i then (u.den ρ).i else (v.den ρ).i := by
  unfold mkIfe
  split
  · rename_i p q hp hq
    rw [isLit_eq hp, isLit_eq hq]
    simp only [T.den, O0.den]
    by_cases h : p = q <;> simp [h]
  · split
    · rename_i h; rw [T.same_eq h]; simp
    · rfl

theorem sliceBounds_run (w : World) {isS : Bool} {len cap : Nat} {L H M : Option Value} {l h m : Int} (hL : match L with | none => l = 0 | some v => ∃ k, v = .int k l) (hH : match H with | none => h = len | some v => ∃ k, v = .int k h)
    (hM : match M with | none => m = cap | some v => ∃ k, v = .int k m) (hHM : M = none ∨ H.isSome = true) (h0 : 0 ≤ l) (h1 : l ≤ h) (h2 : h ≤ m) (h3 : m ≤ cap) :
    (Instr.sliceBounds isS len cap L H M).run P w = .ok (l.toNat, h.toNat, m.toNat) w := by
  have e1 : (h.toNat : Int) = h := by omega
  have e2 : (m.toNat : Int) = m := by omega
  cases M with
  | none =>
    have hM : m = cap := hM
    subst hM
    cases H with
    | none =>
      have hH : h = len := hH
      subst hH
      cases L with
      | none => have hL : l = 0 := hL; subst hL; simp [Instr.sliceBounds]
      | some v => obtain ⟨k, rfl⟩ := hL; simp [Instr.sliceBounds, Instr.sliceBound, asIntOf, h0, h1]
    | some vh =>
      obtain ⟨kh, rfl⟩ := hH
      have hh0 : 0 ≤ h := by omega
      cases L with
      | none => have hL : l = 0 := hL; subst hL; simp [Instr.sliceBounds, Instr.sliceBound, asIntOf, hh0, h2]
      | some v =>
        obtain ⟨k, rfl⟩ := hL
        have : l ≤ max h 0 := by omega
        simp [Instr.sliceBounds, Instr.sliceBound, asIntOf, h0, hh0, h2, this]
  | some vm =>
    obtain ⟨km, rfl⟩ := hM
    have hm0 : 0 ≤ m := by omega
    cases H with
    | none => simp at hHM
    | some vh =>
      obtain ⟨kh, rfl⟩ := hH
      have hh0 : 0 ≤ h := by omega
      have hmx : h ≤ max m 0 := by omega
      cases L with
      | none => have hL : l = 0 := hL; subst hL; simp [Instr.sliceBounds, Instr.sliceBound, asIntOf, hm0, h3, hh0, hmx]
      | some v =>
        obtain ⟨k, rfl⟩ := hL
        have : l ≤ max h 0 := by omega
        simp [Instr.sliceBounds, Instr.sliceBound, asIntOf, h0, hm0, h3, hh0, hmx, this]

theorem step_slice {t : TypeId} {x : Operand} {lo hi mx : Option Operand} (hs : Holds ρ hF s a w) (hop : o.op = .slice t x lo hi mx) (h : stepOp P s o = some r) (hn : ∀ c ∈ r.needs, (c.den ρ).b = true) : StepOk P ρ hF s a w o r := by
  simp only [stepOp, hop] at h
  split at h
  · rename_i va hx
    have hev := hs.opd hx
    unfold stepSlice at h
    split at h
    · rename_i el hu
      simp only [SV.den, T.den, O0.den] at hev
      split at h
      · rename_i n hsz hl hh' hm
        split at h
        · rename_i hchk
          simp only [Option.some.injEq] at h; subst h
          refine StepOk.quiet hs ?_
          have bl := boundOf_den hs hl
          have bh := boundOf_den hs hh'
          have bm := boundOf_den hs hm
          have hbounds : (Instr.sliceBounds true 0 0 (lo.map a.eval) (hi.map a.eval) (mx.map a.eval)).run P w = .ok ((0 : Int).toNat, (0 : Int).toNat, (0 : Int).toNat) w := by
            refine sliceBounds_run w (l := 0) (h := 0) (m := 0) ?_ ?_ ?_ ?_ (by omega) (by omega) (by omega) (by omega)
            · cases lo with
              | none => simp only [Option.map_none]
              | some v => exact bl
            · cases hi with
              | none => simp only [Option.map_none]; rfl
              | some v => exact bh
            · cases mx with
              | none => simp only [Option.map_none]; rfl
              | some v => exact bm
            · cases hi <;> cases mx <;> simp_all
          simp only [SV.den, T.den, O0.den]
          simp only [execOp, hop, Instr.sliceAt, Sem.run_bind, underlying_run hu, Result.andThen_ok, hev, Instr.slice, hbounds, sizeP_run hsz, Sem.run_pure]
          simp
        · simp at h
      · simp at h
    · rename_i el rg p off len cap hu
      simp only [SV.den, T.den, O3.den] at hev
      split at h
      · rename_i n l hh m hsz hl hh' hm
        split at h
        · rename_i hchk
          simp only [Bool.and_eq_true] at hchk
          have hnp := Nat.eq_of_beq_eq_true hchk.1
          subst hnp
          simp only [Option.some.injEq] at h; subst h
          have n1 := mkLe0_den (hn _ (List.mem_cons_self ..))
          have n2 := mkLe0_den (hn _ (List.mem_cons_of_mem _ (List.mem_cons_self ..)))
          have n3 := mkLe0_den (hn _ (List.mem_cons_of_mem _ (List.mem_cons_of_mem _ (List.mem_cons_self ..))))
          have n4 := mkLe0_den (hn _ (List.mem_cons_of_mem _ (List.mem_cons_of_mem _ (List.mem_cons_of_mem _ (List.mem_cons_self ..)))))
          have n5 := leq_den (hn _ (List.mem_cons_of_mem _ (List.mem_cons_of_mem _ (List.mem_cons_of_mem _ (List.mem_cons_of_mem _ (List.mem_cons_self ..))))))
          have n6 := leq_den (hn _ (List.mem_cons_of_mem _ (List.mem_cons_of_mem _ (List.mem_cons_of_mem _ (List.mem_cons_of_mem _ (List.mem_cons_of_mem _ (List.mem_cons_self ..)))))))
          have n7 := leq_den (hn _ (List.mem_cons_of_mem _ (List.mem_cons_of_mem _ (List.mem_cons_of_mem _ (List.mem_cons_of_mem _ (List.mem_cons_of_mem _ (List.mem_cons_of_mem _ (List.mem_cons_self ..))))))))
          refine StepOk.quiet hs ?_
          have bl := boundOf_den hs hl
          have bh := boundOf_den hs hh'
          have bm := boundOf_den hs hm
          -- the three bounds
          have hbounds : (Instr.sliceBounds true (len.den ρ).i.toNat (cap.den ρ).i.toNat (lo.map a.eval) (hi.map a.eval) (mx.map a.eval)).run P w = .ok ((l.den ρ).i.toNat, (hh.den ρ).i.toNat, (m.den ρ).i.toNat) w := by
            refine sliceBounds_run w ?_ ?_ ?_ ?_ n4 n5 n6 (by omega)
            · cases lo with
              | none => simp only [Option.map_none]; rw [bl]; simp [T.den, O0.den]
              | some v => exact bl
            · cases hi with
              | none => simp only [Option.map_none]; rw [bh]; omega
              | some v => exact bh
            · cases mx with
              | none => simp only [Option.map_none]; rw [bm]; omega
              | some v => exact bm
            · have := hchk.2
              cases hi <;> cases mx <;> simp_all
          have hoff : ((cutOff l m off).den ρ).i = if (m.den ρ).i = (l.den ρ).i then (off.den ρ).i else (off.den ρ).i + (l.den ρ).i := by
            unfold cutOff
            split
            · rename_i hz
              have : (l.den ρ).i = 0 := by rw [isLit_eq hz]; simp [T.den, O0.den]
              rw [this]; simp
            · rw [mkIfe_den, mkPlus_den]
          simp only [SV.den, T.den, O3.den, hoff, mkMinus_den]
          simp only [execOp, hop, Instr.sliceAt, Sem.run_bind, underlying_run hu, Result.andThen_ok, hev, Instr.slice, hbounds, sizeP_run hsz, Sem.run_pure]
          have e1 : (hh.den ρ).i.toNat - (l.den ρ).i.toNat = ((hh.den ρ).i - (l.den ρ).i).toNat := by omega
          have e2 : (m.den ρ).i.toNat - (l.den ρ).i.toNat = ((m.den ρ).i - (l.den ρ).i).toNat := by omega
          rw [e1, e2]
          congr 3
          by_cases hml : (m.den ρ).i = (l.den ρ).i
          · rw [if_pos (by rw [hml]), if_pos hml]
          · rw [if_neg (by omega), if_neg hml]
            cases hr : (ρ rg).r with
            | none => rfl
            | some bo =>
              have : ((off.den ρ).i + (l.den ρ).i).toNat * n = (off.den ρ).i.toNat * n + (l.den ρ).i.toNat * n := by
                rw [← Nat.add_mul]; congr 1; omega
              obtain ⟨a', ha'⟩ := addrOf_some (r := some bo) rfl ((off.den ρ).i.toNat * n)
              rw [this, addrOf_add _ ha', ha', Option.map_some]
        · simp at h
      · simp at h
    · rename_i n el rg p c e hu
      split at h
      · rename_i l hh m hsz he hl hh' hm
        split at h
        · rename_i hchk
          simp only [Option.some.injEq] at h; subst h
          have n1 := mkLe0_den (hn _ (List.mem_cons_self ..))
          have n2 := leq_den (hn _ (List.mem_cons_of_mem _ (List.mem_cons_self ..)))
          have n3 := leq_den (hn _ (List.mem_cons_of_mem _ (List.mem_cons_of_mem _ (List.mem_cons_self ..))))
          have n4 := leq_den (hn _ (List.mem_cons_of_mem _ (List.mem_cons_of_mem _ (List.mem_cons_of_mem _ (List.mem_cons_self ..)))))
          have ht := there_sound hs (fun c' hc' => hn c' (List.mem_append_right _ hc'))
          have n4 : (m.den ρ).i ≤ (n : Int) := n4
          have bl := boundOf_den hs hl
          have bh := boundOf_den hs hh'
          have bm := boundOf_den hs hm
          have hbounds : (Instr.sliceBounds false n n (lo.map a.eval) (hi.map a.eval) (mx.map a.eval)).run P w = .ok ((l.den ρ).i.toNat, (hh.den ρ).i.toNat, (m.den ρ).i.toNat) w := by
            refine sliceBounds_run w ?_ ?_ ?_ ?_ n1 n2 n3 n4
            · cases lo with
              | none => simp only [Option.map_none]; rw [bl]; simp [T.den, O0.den]
              | some v => exact bl
            · cases hi with
              | none => simp only [Option.map_none]; rw [bh]; simp [T.den, O0.den]
              | some v => exact bh
            · cases mx with
              | none => simp only [Option.map_none]; rw [bm]; simp [T.den, O0.den]
              | some v => exact bm
            · cases hi <;> cases mx <;> simp_all
          refine StepOk.quiet hs ?_
          have he0 : (e.den ρ).i = 0 := isLit_den he
          simp only [SV.den, T.den, O1.den, he0] at hev
          obtain ⟨ad, hb⟩ := addrOf_some ht ((0 : Int).toNat * p + c)
          rw [hb] at hev
          have hb' : addrOf (ρ rg).r c = some ad := by simpa using hb
          have hoff : ((cutOffA l m c).den ρ).i = if (m.den ρ).i = (l.den ρ).i then (c : Int) else (c : Int) + (l.den ρ).i := by
            unfold cutOffA
            split
            · rename_i hz
              have : (l.den ρ).i = 0 := isLit_den hz
              rw [this]; simp [T.den, O0.den]
            · rw [mkIfe_den]; simp [T.den, O0.den, O2.den]
          simp only [SV.den, T.den, O3.den, hoff, mkMinus_den]
          simp only [execOp, hop, Instr.sliceAt, Sem.run_bind, underlying_run hu, Result.andThen_ok, hev, Instr.sureAddr, Sem.run_pure]
          rw [hbounds]
          simp only [Result.andThen_ok, sizeP_run hsz, Sem.run_pure]
          have e1 : (hh.den ρ).i.toNat - (l.den ρ).i.toNat = ((hh.den ρ).i - (l.den ρ).i).toNat := by omega
          have e2 : (m.den ρ).i.toNat - (l.den ρ).i.toNat = ((m.den ρ).i - (l.den ρ).i).toNat := by omega
          rw [e1, e2]
          congr 3
          by_cases hml : (m.den ρ).i = (l.den ρ).i
          · rw [if_pos (by rw [hml]), if_pos hml]
            simp [hb']
          · rw [if_neg (by omega), if_neg hml]
            rw [show ((c : Int) + (l.den ρ).i).toNat * 1 = c + (l.den ρ).i.toNat * 1 by omega, addrOf_add _ hb']
        · simp at h
      · simp at h
    · rename_i u hu
      split at h
      · rename_i hchk
        simp only [Bool.and_eq_true] at hchk
        obtain ⟨su, hsu⟩ := isStrT_den (ρ := ρ) hchk.1
        have hmx : mx = none := by simpa using hchk.2
        subst hmx
        split at h
        · rename_i l hh hl hh'
          simp only [Option.some.injEq] at h; subst h
          have n1 := mkLe0_den (hn _ (List.mem_cons_self ..))
          have n2 := leq_den (hn _ (List.mem_cons_of_mem _ (List.mem_cons_self ..)))
          have n3 := leq_den (hn _ (List.mem_cons_of_mem _ (List.mem_cons_of_mem _ (List.mem_cons_self ..))))
          simp only [SV.den, hsu] at hev
          have bl := boundOf_den hs hl
          have bh := boundOf_den hs hh'
          have hsz : ((mkSlen u).den ρ).i = (su.size : Int) := by
            rw [mkSlen_den, hsu]; simp [vStr, bl_data]
          rw [hsz] at n3
          have hbounds : (Instr.sliceBounds false su.size su.size (lo.map a.eval) (hi.map a.eval) none).run P w = .ok ((l.den ρ).i.toNat, (hh.den ρ).i.toNat, (su.size : Int).toNat) w := by
            refine sliceBounds_run w ?_ ?_ ?_ (.inl rfl) n1 n2 n3 (by omega)
            · cases lo with
              | none => simp only [Option.map_none]; rw [bl]; simp [T.den, O0.den]
              | some v => exact bl
            · cases hi with
              | none => simp only [Option.map_none]; rw [bh, hsz]
              | some v => exact bh
            · rfl
          refine StepOk.quiet hs ?_
          simp only [SV.den, T.den, O3.den, hsu]
          have he : su.extract (l.den ρ).i.toNat (hh.den ρ).i.toNat = ⟨(((vStr (.string su)).drop (l.den ρ).i.toNat).take ((hh.den ρ).i.toNat - (l.den ρ).i.toNat)).toArray⟩ := by
            apply ByteArray.ext
            apply Array.ext'
            simp [vStr, bl_data, ByteArray.data_extract, List.extract_eq_take_drop]
          simp only [execOp, hop, Instr.sliceAt, Sem.run_bind, underlying_run hu, Result.andThen_ok, hev, Instr.slice, Option.map_none, Option.isSome_none, Bool.false_eq_true, if_false, Sem.run_pure]
          rw [hbounds]
          simp only [Result.andThen_ok, he]
        · simp at h
      · simp at h
    · simp at h
  · simp at h

end Go.Eng

set_option linter.unusedSimpArgs false
set_option linter.unusedVariables false
namespace Go.Eng
open Go
variable {P : Program} {ρ : Env} {hF : Fr} {s : S} {a : Act} {w : World} {o : Oper} {r : R1}


structure SrcOk (w : World) (pat : List CK) (v : Value) (d : List (List Value)) (m : Nat) : Prop where
  fits : ∀ row ∈ d, fitsRow pat row
  len : d.length = m
  shape : ∃ b c, v = .slice b m c
  read : ∀ (a : Addr) (c : Nat), v = .slice (some a) m c → ∀ (j : Nat) (x : Value), (flat d)[j]? = some x → w.cell? (a.add j) = some x
  cells : ∀ (h' : Array Obj) (dr : Nat), h' = w.heap → (Builtin.firstCells pat.length m v).run P { w with heap := h', drawn := dr } = .ok (flat d).toArray { w with heap := h', drawn := dr }

theorem firstCells_run {w : World} {b o : Nat} {c : Array Value} {ty : TypeId} {fr : Nat × Nat} {pat : List CK} {d : List (List Value)} {m cap : Nat} (hp : 0 < pat.length) (hb : w.heap[b]? = some (.cells c ty fr)) (h : rowsAt c o pat d) (hl : d.length = m) :
    (Builtin.firstCells pat.length m (.slice (some ⟨b, o, none⟩) m cap)).run P w = .ok (flat d).toArray w := by
  have hfl : (flat d).length = m * pat.length := by
    rw [← hl]
    exact flat_len (fun row hr => by
      obtain ⟨i, hi⟩ := List.getElem?_of_mem hr
      exact (h i row hi).1.1)
  exact run_firstCells_some w pat.length m ⟨b, o, none⟩ m cap (flat d) hfl (fun j v hv => by rw [addr_add, cell_of_heap hb]; exact rowsAt_flat hp h j v hv)

theorem src_at {pat : List CK} {dd : List (List Value)} {b o0 : Nat} {c' : Array Value} {ty : TypeId} {fr : Nat × Nat} {m cap : Nat} (hp : 0 < pat.length) (hb : w.heap[b]? = some (.cells c' ty fr)) (hr : rowsAt c' o0 pat dd) (hl : dd.length = m) : SrcOk (P := P) w pat (.slice (some ⟨b, o0, none⟩) m cap) dd m := by
  refine ⟨fun row hm => ?_, hl, ⟨_, _, rfl⟩, fun a' c'' ha' j v hv => ?_, fun h' dr hh' => ?_⟩
  · obtain ⟨i, hi⟩ := List.getElem?_of_mem hm
    exact (hr i row hi).1
  · simp only [Value.slice.injEq, Option.some.injEq] at ha'
    rw [← ha'.1, addr_add, cell_of_heap hb]
    exact rowsAt_flat hp hr j v hv
  · subst hh'
    exact firstCells_run (w := { w with heap := w.heap, drawn := dr }) hp hb hr hl
theorem neq_den {x y : T} (h : ((mkCmp .neq x y).den ρ).b = true) : (x.den ρ).i ≠ (y.den ρ).i := by
  rw [mkCmp_den _ _ _ (by simp)] at h
  simpa [cmpOf] using h
theorem rowOff_den {off l : T} {z : Nat} {ns : List T} (h : rowOff off = some (z, l, ns)) (hn : ∀ c ∈ ns, (c.den ρ).b = true) : (off.den ρ).i = (z : Int) + (l.den ρ).i := by
  unfold rowOff at h
  split at h
  · split at h
    · rename_i z0 hz
      simp only [Option.some.injEq, Prod.mk.injEq] at h
      obtain ⟨rfl, rfl, rfl⟩ := h
      simp [T.den, O0.den]; omega
    · cases h
  · split at h
    · rename_i z0 l0 hz
      simp only [Option.some.injEq, Prod.mk.injEq] at h
      obtain ⟨rfl, rfl, rfl⟩ := h
      simp [T.den, O0.den, O2.den]; omega
    · cases h
  · split at h
    · rename_i x y _ z0 l0 hz
      simp only [Option.some.injEq, Prod.mk.injEq] at h
      obtain ⟨rfl, rfl, rfl⟩ := h
      have := neq_den (hn _ (List.mem_singleton.2 rfl))
      simp only [T.den, O0.den, O2.den]
      rw [if_neg this]; omega
    · cases h
  · simp only [Option.some.injEq, Prod.mk.injEq] at h
    obtain ⟨rfl, rfl, rfl⟩ := h
    simp
  · cases h
theorem row_full : ∀ (ts : List T), ((T.row ts).den ρ).d = [denVs ρ ts]
  | [] => rfl
  | t :: ts => by
    show [(t.den ρ).v :: ((T.row ts).den ρ).d.headD []] = _
    rw [row_full ts]; rfl
theorem rowOf_ro (hg : ρ.good) {y : SH} {pat : List CK} {d : T} {r : Nat} {H : Hp} (h : rowOf y = some (pat, d)) (hr : y.reg = some r) (hro : y.roden ρ H) :
    (d.den ρ).d = [] ∨ ∃ b o c ty fr, (ρ r).r = some ⟨b, o, none⟩ ∧ H b = some (.cells c ty fr) ∧ rowsAt c o pat (d.den ρ).d := by
  cases y with
  | cells r' ty cs =>
    simp only [SH.reg, Option.some.injEq] at hr; subst hr
    simp only [rowOf, Option.some.injEq, Prod.mk.injEq] at h
    obtain ⟨rfl, rfl⟩ := h
    obtain ⟨b, o, c, ty', fr, h1, h2, h3⟩ := hro
    refine .inr ⟨b, o, c, ty', fr, h1, h2, fun i row hi => ?_⟩
    rw [row_full] at hi
    match i, hi with
    | 0, hi =>
      simp only [List.getElem?_cons_zero, Option.some.injEq] at hi
      subst hi
      exact ⟨zero_fits hg cs, fun k v hv => by rw [Nat.zero_mul, Nat.add_zero]; exact h3 k v hv⟩
    | i + 1, hi => simp at hi
  | arr r' ty pat' d' cap =>
    simp only [SH.reg, Option.some.injEq] at hr; subst hr
    simp only [rowOf, Option.some.injEq, Prod.mk.injEq] at h
    obtain ⟨rfl, rfl⟩ := h
    exact hro
  | abs n t => simp [rowOf] at h
theorem rows_of_row {c : Array Value} {o z n : Nat} {pat : List CK} {d : List (List Value)} {k : CK} (hr : rowsAt c o pat d) (hd : 0 < d.length) (hz : z + n ≤ pat.length) (hk : ∀ i, i < n → pat[z + i]? = some k) : rowsAt c (o + z) [k] (xrowsD d z n) ∧ (xrowsD d z n).length = n := by
  match d, hd with
  | row :: rest, _ =>
    obtain ⟨⟨hl, hf⟩, hc⟩ := hr 0 row rfl
    refine ⟨fun i r hi => ?_, ?_⟩
    · simp only [xrowsD, List.headD_cons, List.getElem?_map, Option.map_eq_some_iff] at hi
      obtain ⟨v, hv, rfl⟩ := hi
      rw [List.getElem?_take] at hv
      split at hv
      · rename_i hin
        rw [List.getElem?_drop] at hv
        refine ⟨⟨rfl, fun q k' v' h1 h2 => ?_⟩, fun q v' h1 => ?_⟩
        · match q, h1, h2 with
          | 0, h1, h2 =>
            simp only [List.getElem?_cons_zero, Option.some.injEq] at h1 h2
            subst h1; subst h2
            exact hf _ _ _ (hk i hin) hv
          | q + 1, h1, h2 => simp at h1
        · match q, h1 with
          | 0, h1 =>
            simp only [List.getElem?_cons_zero, Option.some.injEq] at h1
            subst h1
            have := hc (z + i) _ hv
            rw [show o + z + i * [k].length + 0 = o + 0 * pat.length + (z + i) by simp; omega]
            exact this
          | q + 1, h1 => simp at h1
      · cases hv
    · simp only [xrowsD, List.headD_cons, List.length_map, List.length_take, List.length_drop, hl]
      omega
theorem runLen_le {k : CK} : ∀ {l : List CK}, runLen k l ≤ l.length
  | [] => Nat.le_refl _
  | x :: l => by
    have := runLen_le (k := k) (l := l)
    simp only [runLen]; split <;> simp <;> omega
theorem rowNeeds_den {k : CK} {pat : List CK} {z : Nat} {l len d off : T} {ns : List T} (hzp : z ≤ pat.length) (ho : rowOff off = some (z, l, ns)) (hn : ∀ c ∈ rowNeeds k pat z l len d ns, (c.den ρ).b = true) :
    0 ≤ (off.den ρ).i ∧ 0 ≤ (len.den ρ).i ∧ 0 < (d.den ρ).d.length ∧ (off.den ρ).i.toNat + (len.den ρ).i.toNat ≤ pat.length ∧ ∀ i, i < (len.den ρ).i.toNat → pat[(off.den ρ).i.toNat + i]? = some k := by
  have hns : ∀ c ∈ ns, (c.den ρ).b = true := fun c hc => hn c (List.mem_append_left _ hc)
  have hrest : ∀ c ∈ [mkLe0 l, mkLe0 len, mkCmp .leq (mkPlus l len) (.lit (runLen k (pat.drop z) : Nat)), mkCmp .lss (.lit 0) (mkDlen d)], (c.den ρ).b = true := fun c hc => hn c (List.mem_append_right _ hc)
  have h1 := mkLe0_den (hrest _ (List.mem_cons_self ..))
  have h2 := mkLe0_den (hrest _ (List.mem_cons_of_mem _ (List.mem_cons_self ..)))
  have h3 := leq_den (hrest _ (List.mem_cons_of_mem _ (List.mem_cons_of_mem _ (List.mem_cons_self ..))))
  have h4 := lss_dlen (hrest _ (List.mem_cons_of_mem _ (List.mem_cons_of_mem _ (List.mem_cons_of_mem _ (List.mem_cons_self ..)))))
  rw [mkPlus_den] at h3
  have h3 : (l.den ρ).i + (len.den ρ).i ≤ (runLen k (pat.drop z) : Nat) := h3
  have h4 : 0 < ((d.den ρ).d.length : Int) := h4
  have hoff := rowOff_den ho hns
  have hle := runLen_le (k := k) (l := pat.drop z)
  rw [List.length_drop] at hle
  have hgt : ∀ i, i < (len.den ρ).i.toNat → pat[(off.den ρ).i.toNat + i]? = some k := fun i hi => by
    have := runLen_get (k := k) (l := pat.drop z) (i := (l.den ρ).i.toNat + i) (by omega)
    rw [List.getElem?_drop] at this
    rw [← this]; congr 1; omega
  refine ⟨by omega, h2, by omega, ?_, hgt⟩
  omega
theorem srcRow_sound {pat : List CK} {y : SH} {off len cap : T} {src : Src} {rr p : Nat} {H : Hp} (hs : Holds ρ hF s a w) (h : srcRow pat y off len = some src) (hp : p = pat.length) (hreg : y.reg = some rr) (hro : y.roden ρ H) (hsub : Hp.sub H w)
    (hn : ∀ c ∈ src.needs, (c.den ρ).b = true) : 0 ≤ (src.len.den ρ).i ∧ SrcOk (P := P) w pat (SV.den ρ (.one (.c3 (.vslice rr p) off len cap))) (src.d.den ρ).d (src.len.den ρ).i.toNat := by
  unfold srcRow at h
  split at h
  · rename_i pat' d z l ns k hrow hoff
    split at h
    rotate_left
    · cases h
    rename_i hzp
    simp only [Option.some.injEq] at h; subst h
    obtain ⟨n1, n2, n3, n4, n5⟩ := rowNeeds_den (Nat.le_of_ble_eq_true hzp) hoff hn
    refine ⟨n2, ?_⟩
    rcases rowOf_ro hs.gd hrow hreg hro with hd | ⟨b, o, c, ty, fr, h1, h2, h3⟩
    · rw [hd] at n3; simp at n3
    · obtain ⟨r1, r2⟩ := rows_of_row h3 n3 n4 n5
      have hval : SV.den ρ (.one (.c3 (.vslice rr p) off len cap)) = .slice (some ⟨b, o + (off.den ρ).i.toNat, none⟩) (len.den ρ).i.toNat (cap.den ρ).i.toNat := by
        subst hp
        simp [SV.den, T.den, O3.den, h1, addrOf]
      rw [hval]
      exact src_at (by simp) (hsub _ _ h2) r1 r2
  · cases h
theorem srcOf_sound {pat : List CK} {x : SV} {src : Src} (hp : 0 < pat.length) (hs : Holds ρ hF s a w) (h : srcOf s pat x = some src) (hn : ∀ c ∈ src.needs, (c.den ρ).b = true) :
    0 ≤ (src.len.den ρ).i ∧ SrcOk (P := P) w pat (x.den ρ) (src.d.den ρ).d (src.len.den ρ).i.toNat := by
  unfold srcOf at h
  split at h
  · simp only [Option.some.injEq] at h; subst h
    refine ⟨by simp [T.den, O0.den], ⟨by simp [T.den, O0.den], by simp [T.den, O0.den], ⟨none, 0, by simp [SV.den, T.den, O0.den]⟩, fun a c ha => by simp [SV.den, T.den, O0.den] at ha, fun h' dr _ => ?_⟩⟩
    simp [SV.den, T.den, O0.den, run_firstCells_none, flat]
  · rename_i rg p off len cap
    split at h
    · simp at h
    · rename_i hpp
      simp only [Bool.not_eq_true', Bool.not_eq_false] at hpp
      have hpp := Nat.eq_of_beq_eq_true hpp
      split at h
      · rename_i k rr ty cs hf
        obtain ⟨H, hsub, hro, hreg⟩ := hs.found hf
        simp only [SH.reg, Option.some.injEq] at hreg; subst hreg
        split at h
        · rename_i n hoff hlen
          split at h
          · rename_i hc
            simp only [Option.map_eq_some_iff] at h
            obtain ⟨d, hd, rfl⟩ := h
            obtain ⟨b, o0, c', ty', fr, g1, g2, g3⟩ := hro
            obtain ⟨e1, e2, e3⟩ := rowsLit_den hs.gd hpp hd
            have hl : (len.den ρ).i = n := by rw [isLit_eq hlen]; simp [T.den, O0.den]
            have ho : (off.den ρ).i = 0 := by rw [isLit_eq hoff]; simp [T.den, O0.den]
            simp only
            rw [hl]
            have hval : SV.den ρ (.one (.c3 (.vslice rr p) off len cap)) = .slice (some ⟨b, o0, none⟩) n.toNat (cap.den ρ).i.toNat := by
              simp [SV.den, T.den, O3.den, g1, addrOf, hl, ho]
            rw [hval]
            refine ⟨hc.1, ⟨e3, e1, ⟨_, _, rfl⟩, fun a' c'' ha' j v hv => ?_, fun h' dr hh' => ?_⟩⟩
            · simp only [Value.slice.injEq, Option.some.injEq] at ha'
              rw [← ha'.1, addr_add, cell_of_heap (hsub _ _ g2)]
              rw [e2] at hv
              refine g3 j v ?_
              simp only [denVs, List.map_take] at hv ⊢
              rw [List.getElem?_take] at hv
              split at hv
              · exact hv
              · cases hv
            subst hh'
            refine run_firstCells_some (P := P) _ pat.length n.toNat ⟨b, o0, none⟩ _ _ (flat (d.den ρ).d) ?_ (fun j v hv => ?_)
            · rw [e2, ← hpp]; simp [denVs]; omega
            · rw [addr_add, cell_of_heap (w := { w with heap := w.heap, drawn := dr }) (hsub _ _ g2)]
              rw [e2] at hv
              refine g3 j v ?_
              simp only [denVs, List.map_take] at hv ⊢
              rw [List.getElem?_take] at hv
              split at hv
              · exact hv
              · cases hv
          · simp at h
        · exact srcRow_sound hs h hpp rfl hro hsub hn
      · rename_i k rr ty pat' d cap' hf
        obtain ⟨H, hsub, hro, hreg⟩ := hs.found hf
        simp only [SH.reg, Option.some.injEq] at hreg; subst hreg
        split at h
        · exact srcRow_sound hs h hpp rfl hro hsub hn
        · rename_i hpat
          simp only [Bool.not_eq_true', Bool.not_eq_false, decide_eq_true_eq] at hpat
          subst hpat
          -- the general case: rows n to n + m
          have key : ∀ (n m : Nat) (dd : List (List Value)), dd = ((d.den ρ).d.drop n).take m → n + m ≤ (d.den ρ).d.length → (off.den ρ).i.toNat = n → (len.den ρ).i.toNat = m →
              SrcOk (P := P) w pat' (SV.den ρ (.one (.c3 (.vslice rr p) off len cap))) dd m := by
            intro n m dd hdd hle hoff hlen
            subst hdd
            rcases hro with g2 | ⟨b, o0, c', ty', fr, g1, g2, g3⟩
            · rw [g2] at hle
              have hm0 : m = 0 := by simp at hle; omega
              subst hm0
              refine ⟨by simp [g2], by simp, ⟨addrOf (ρ rr).r ((off.den ρ).i.toNat * p), _, by simp [SV.den, T.den, O3.den, hlen]; rfl⟩, fun a' c'' _ j v hv => by simp [flat] at hv, fun h' dr _ => ?_⟩
              simp only [SV.den, T.den, O3.den, hlen, List.take_zero, flat]
              cases hadr : addrOf (ρ rr).r ((off.den ρ).i.toNat * p) with
              | none => simp [run_firstCells_none, flat]
              | some a => exact run_firstCells_some _ pat'.length 0 a _ _ _ (by simp) (by simp)
            · have hr := rowsAt_sub g3 n m
              have hval : SV.den ρ (.one (.c3 (.vslice rr p) off len cap)) = .slice (some ⟨b, o0 + n * pat'.length, none⟩) m (cap.den ρ).i.toNat := by
                simp [SV.den, T.den, O3.den, g1, addrOf, hoff, hlen, hpp]
              rw [hval]
              refine ⟨fun row hm => ?_, by simp; omega, ⟨_, _, rfl⟩, fun a' c'' ha' j v hv => ?_, fun h' dr hh' => ?_⟩
              · obtain ⟨i, hi⟩ := List.getElem?_of_mem hm
                exact (hr i row hi).1
              · simp only [Value.slice.injEq, Option.some.injEq] at ha'
                rw [← ha'.1, addr_add, cell_of_heap (hsub _ _ g2)]
                exact rowsAt_flat hp hr j v hv
              · subst hh'
                exact firstCells_run (w := { w with heap := w.heap, drawn := dr }) hp (hsub _ _ g2) hr (by simp; omega)
          split at h
          · rename_i hoff
            have ho : (off.den ρ).i.toNat = 0 := by rw [isLit_eq hoff]; simp [T.den, O0.den]
            split at h
            · rename_i hsame
              simp only [Option.some.injEq] at h; subst h
              have hl : (len.den ρ).i = ((d.den ρ).d.length : Int) := by rw [T.same_eq hsame, mkDlen_den]
              refine ⟨by simp only; omega, ?_⟩
              refine key 0 _ _ ?_ ?_ ho rfl
              · simp only [List.drop_zero]; rw [List.take_of_length_le (by omega)]
              · simp only; omega
            · simp only [Option.some.injEq] at h; subst h
              simp only at hn
              have n1 := mkLe0_den (hn _ (List.mem_cons_self ..))
              have n2 := leq_den (hn _ (List.mem_cons_of_mem _ (List.mem_cons_self ..)))
              rw [mkDlen_den] at n2
              refine ⟨n1, key 0 _ _ ?_ (by simp only; omega) ho rfl⟩
              simp [T.den, O2.den]
          · simp only [Option.some.injEq] at h; subst h
            simp only at hn
            have n1 := mkLe0_den (hn _ (List.mem_cons_self ..))
            have n2 := mkLe0_den (hn _ (List.mem_cons_of_mem _ (List.mem_cons_self ..)))
            have n3 := leq_den (hn _ (List.mem_cons_of_mem _ (List.mem_cons_of_mem _ (List.mem_cons_self ..))))
            rw [mkPlus_den, mkDlen_den] at n3
            refine ⟨n2, key _ _ _ ?_ (by simp only; omega) rfl rfl⟩
            simp [T.den, O2.den]
      · simp at h
  · simp at h


theorem mkApp_den (x y : T) : ((mkApp x y).den ρ).d = (x.den ρ).d ++ (y.den ρ).d := by
  unfold mkApp; split <;> simp [T.den, O0.den, O2.den]

structure DstOk (ρ : Env) (hF : Fr) (heap : List SH) (w : World) (el : TypeId) (pat : List CK) (base : Option Addr) (cap : Nat) (d : List (List Value)) (hT hR : Hp) : Prop where
  d1 : Hp.disj hF hT
  d2 : Hp.disj hF hR
  d3 : Hp.disj hT hR
  st : star ρ heap hR
  sub : (Hp.union hF (Hp.union hT hR)).sub w
  wi : hF.wi w
  how : (base = none ∧ cap = 0 ∧ d = []) ∨ ∃ b c, base = some ⟨b, 0, none⟩ ∧ hT b = some (.cells c el (0, 0)) ∧ c.size = cap * pat.length ∧ d.length ≤ cap ∧ rowsAt c 0 pat d

theorem dstOf_sound {el : TypeId} {pat : List CK} {x : SV} {d len : T} {k : Option Nat} {n1 : List T} (hs : Holds ρ hF s a w) (h : dstOf s el pat x = some (d, len, k, n1)) (hn : ∀ c ∈ n1, (c.den ρ).b = true) :
    ∃ base cap hT hR, DstOk ρ hF (eraseO s.heap k) w el pat base cap (d.den ρ).d hT hR ∧ x.den ρ = .slice base (d.den ρ).d.length cap ∧ (len.den ρ).i = ((d.den ρ).d.length : Int) := by
  obtain ⟨hO, hd, hst, hsub, hwi⟩ := hs.hp
  unfold dstOf at h
  split at h
  · simp only [Option.some.injEq, Prod.mk.injEq] at h
    obtain ⟨rfl, rfl, rfl, rfl⟩ := h
    refine ⟨none, 0, Hp.emp, hO, ⟨fun _ => .inr rfl, hd, fun _ => .inl rfl, hst, ?_, hwi, .inl ⟨rfl, rfl, by simp [T.den, O0.den]⟩⟩, by simp [SV.den, T.den, O0.den], by simp [T.den, O0.den]⟩
    have : Hp.union hF (Hp.union Hp.emp hO) = Hp.union hF hO := by funext y; simp [Hp.union, Hp.emp]
    rw [this]; exact hsub
  · rename_i rg p off len' cap
    split at h
    · simp at h
    · rename_i hpp
      simp only [Bool.not_eq_true', Bool.not_eq_false] at hpp
      have hpp := Nat.eq_of_beq_eq_true hpp
      split at h
      · rename_i k' rr ty' pat' d' cap' hoff hat
        split at h
        · rename_i hc
          simp only [Bool.and_eq_true, decide_eq_true_eq] at hc
          have hty := Nat.eq_of_beq_eq_true hc.1
          have hpat := hc.2
          simp only [Option.some.injEq, Prod.mk.injEq] at h
          obtain ⟨rfl, rfl, rfl, rfl⟩ := h
          have e1 := eql_den (hn _ (List.mem_cons_self ..))
          have e2 := eql_den (hn _ (List.mem_cons_of_mem _ (List.mem_cons_self ..)))
          rw [mkDlen_den] at e1
          obtain ⟨hk, hreg⟩ := heapAt_spec hat
          simp only [SH.reg, Option.some.injEq] at hreg; subst hreg
          obtain ⟨t1, t2, td, tu, tx, ts⟩ := star_take hst hk
          have ho : (off.den ρ).i = 0 := by rw [isLit_eq hoff]; simp [T.den, O0.den]
          have hl : (len'.den ρ).i.toNat = (d'.den ρ).d.length := by omega
          have dj : Hp.disj hF t1 ∧ Hp.disj hF t2 := Hp.disj_union.1 (tu ▸ hd)
          subst hty hpat
          rcases tx with ⟨g1, g2, g3⟩ | ⟨b, c, g1, g2, g3, g4, g5⟩
          · refine ⟨none, 0, t1, t2, ⟨dj.1, dj.2, td, ts, tu ▸ hsub, hwi, .inl ⟨rfl, rfl, g2⟩⟩, ?_, e1⟩
            simp [SV.den, T.den, O3.den, g1, addrOf, hl, e2, g3]
          · refine ⟨some ⟨b, 0, none⟩, (cap'.den ρ).i.toNat, t1, t2, ⟨dj.1, dj.2, td, ts, tu ▸ hsub, hwi, .inr ⟨b, c, rfl, g2, g3, by omega, g5⟩⟩, ?_, e1⟩
            simp [SV.den, T.den, O3.den, g1, addrOf, hl, e2, ho]
        · simp at h
      · rename_i k' rr ty' hoff hat
        split at h
        · rename_i hc
          have hty := Nat.eq_of_beq_eq_true hc
          simp only [Option.some.injEq, Prod.mk.injEq] at h
          obtain ⟨rfl, rfl, rfl, rfl⟩ := h
          have e1 := eql_den (hn _ (List.mem_cons_self ..))
          have e2 := eql_den (hn _ (List.mem_cons_of_mem _ (List.mem_cons_self ..)))
          obtain ⟨hk, hreg⟩ := heapAt_spec hat
          simp only [SH.reg, Option.some.injEq] at hreg; subst hreg
          obtain ⟨t1, t2, td, tu, tx, ts⟩ := star_take hst hk
          have ho : (off.den ρ).i = 0 := by rw [isLit_eq hoff]; simp [T.den, O0.den]
          have dj : Hp.disj hF t1 ∧ Hp.disj hF t2 := Hp.disj_union.1 (tu ▸ hd)
          subst hty
          simp only [T.den, O0.den] at e1 e2
          obtain ⟨b, g1, g2⟩ := tx
          refine ⟨some ⟨b, 0, none⟩, 0, t1, t2, ⟨dj.1, dj.2, td, ts, tu ▸ hsub, hwi, .inr ⟨b, _, rfl, g2, by simp [denVs], by simp [T.den, O0.den], by simp [T.den, O0.den, rowsAt]⟩⟩, ?_, by simp [T.den, O0.den]⟩
          simp [SV.den, T.den, O0.den, O3.den, g1, addrOf, e1, e2, ho]
        · simp at h
      · rename_i k' rr ty' tc tcs hoff hat
        split at h
        · rename_i n hlen
          split at h
          · rename_i d0 hd0
            split at h
            · rename_i hc
              simp only [Bool.and_eq_true, decide_eq_true_eq] at hc
              have hty := Nat.eq_of_beq_eq_true hc.1.1
              have hn0 := hc.1.2
              have hsz := Nat.eq_of_beq_eq_true hc.2
              simp only [Option.some.injEq, Prod.mk.injEq] at h
              obtain ⟨rfl, rfl, rfl, rfl⟩ := h
              have e2 := eql_den (hn _ (List.mem_cons_self ..))
              obtain ⟨hk, hreg⟩ := heapAt_spec hat
              simp only [SH.reg, Option.some.injEq] at hreg; subst hreg
              obtain ⟨t1, t2, td, tu, tx, ts⟩ := star_take hst hk
              have ho : (off.den ρ).i = 0 := by rw [isLit_eq hoff]; simp [T.den, O0.den]
              have hl : (len'.den ρ).i = n := by rw [isLit_eq hlen]; simp [T.den, O0.den]
              have dj : Hp.disj hF t1 ∧ Hp.disj hF t2 := Hp.disj_union.1 (tu ▸ hd)
              subst hty
              obtain ⟨b, g1, g2⟩ := tx
              obtain ⟨l1, l2, l3⟩ := rowsLit_den hs.gd hpp hd0
              refine ⟨some ⟨b, 0, none⟩, n.toNat, t1, t2, ⟨dj.1, dj.2, td, ts, tu ▸ hsub, hwi, .inr ⟨b, _, rfl, g2, ?_, by rw [l1]; exact Nat.le_refl _, rowsAt_of_flat l3 (fun j v hv => by rw [l2] at hv; simpa using hv)⟩⟩, ?_, by rw [hl, l1]; omega⟩
              · rw [← hpp, ← hsz]; simp [denVs]
              · rw [l1]; simp [SV.den, T.den, O3.den, g1, addrOf, e2, ho, hl]
            · simp at h
          · simp at h
        · simp at h
      · simp at h
  · simp at h

theorem append_run {heap : List SH} {t ty el : TypeId} {i : TypeInfo} {z : Value} {pat : List CK} {base : Option Addr} {cap m : Nat} {d dd : List (List Value)} {hT hR : Hp} {y : Value}
    (hD : DstOk ρ hF heap w el pat base cap d hT hR) (hS : SrcOk (P := P) w pat y dd m) (ht : P.underlying t = some (.slice el)) (hi : P.info? el = some i) (hz : i.zero = some z) (hzs : z.cells.size = i.size) (hp : pat.length = i.size) (hp0 : 0 < i.size) (hb0 : 0 < i.bytes)
    (hb : (d.length + m) * i.bytes ≤ 140737488355328) :
    ∃ w' u cap' hN, (Builtin.append_ #[t, t] ty #[.slice base d.length cap, y]).run P w = .ok (.slice (addrOf u 0) (d.length + m) cap') w' ∧ Hp.disj hF hN ∧ Hp.disj hN hR ∧ (Hp.union hF (Hp.union hN hR)).sub w' ∧ hF.wi w' ∧
      ((u = none ∧ d ++ dd = [] ∧ cap' = 0) ∨ ∃ b c, u = some ⟨b, 0, none⟩ ∧ hN b = some (.cells c el (0, 0)) ∧ c.size = cap' * pat.length ∧ d.length + m ≤ cap' ∧ rowsAt c 0 pat (d ++ dd)) := by
  obtain ⟨yb, yc, rfl⟩ := hS.shape
  have hlen : ∀ w' : World, (Builtin.lenOf (.slice yb m yc)).run P w' = .ok m w' := fun _ => rfl
  have hc0 : (Builtin.firstCells i.size m (.slice yb m yc)).run P w = .ok (flat dd).toArray w := by
    have := hS.cells w.heap w.drawn rfl
    rwa [hp] at this
  have hcD : (Builtin.firstCells i.size m (.slice yb m yc)).run P w.drew = .ok (flat dd).toArray w.drew := by
    have := hS.cells w.heap (w.drawn + 1) rfl
    rwa [hp] at this
  have hdl := hS.len
  have hfl : (flat dd).length = m * i.size := by rw [← hdl]; exact flat_len (fun row hr => by rw [(hS.fits row hr).1, hp])
  have hgd := flat_good hS.fits
  by_cases hroom : d.length + m ≤ cap
  · rcases hD.how with ⟨rfl, rfl, rfl⟩ | ⟨b, c, rfl, g2, g3, g4, g5⟩
    · have hm : m = 0 := by simp at hroom; exact hroom
      have hdd : dd = [] := List.length_eq_zero_iff.1 (by omega)
      subst hdd
      subst hm
      refine ⟨w, none, 0, hT, ?_, hD.d1, hD.d3, hD.sub, hD.wi, .inl ⟨rfl, by simp, rfl⟩⟩
      simp [Builtin.append_, run_underlying ht, sizeOf, typeInfo, hi, hlen, hc0, addrOf]
    · have hlt : ∀ b o, Hp.union hF (Hp.union hT hR) b = some o → w.heap[b]? = some o := hD.sub
      have hFb : hF b = none := (hD.d1 b).resolve_right (by rw [g2]; simp)
      have hRb : hR b = none := (hD.d3 b).resolve_left (by rw [g2]; simp)
      have hwb : w.heap[b]? = some (.cells c el (0, 0)) := hlt b _ (by simp [Hp.union, hFb, g2])
      have hfit0 := rowsAt_fits g5
      have hfd : (flat d).length = d.length * i.size := flat_len (fun row hr => by rw [(hfit0 row hr).1, hp])
      have hsz : d.length * i.size + (flat dd).length ≤ c.size := by
        rw [g3, hfl, hp, ← Nat.add_mul]; exact Nat.mul_le_mul_right _ hroom
      obtain ⟨w', c1, hrun, hw1, hw2, ⟨hsz1, hget⟩, hos⟩ := run_storeCells (P := P) (off := d.length * i.size) (flat dd) 0 c w hwb hgd (by simpa using hsz)
      refine ⟨w', some ⟨b, 0, none⟩, cap, Hp.upd hT b (.cells c1 el (0, 0)), ?_, ?_, ?_, ?_, ⟨hos.1.trans hD.wi.1, hos.2.trans hD.wi.2⟩, .inr ⟨b, c1, rfl, by simp [Hp.upd], by rw [hsz1, g3], hroom, ?_⟩⟩
      · simp [Builtin.append_, run_underlying ht, sizeOf, typeInfo, hi, hlen, hroom, hc0, Addr.add_lit, hrun, addrOf]
      · intro q
        rcases hD.d1 q with h | h
        · exact .inl h
        · right; unfold Hp.upd; split
          · rename_i he; subst he; rw [g2] at h; cases h
          · exact h
      · intro q
        rcases hD.d3 q with h | h
        · left; unfold Hp.upd; split
          · rename_i he; subst he; rw [g2] at h; cases h
          · exact h
        · exact .inr h
      · intro q ob hq
        by_cases hqb : q = b
        · subst hqb
          simp only [Hp.union, hFb, Hp.upd, if_true, Option.none_or, Option.some_or, Option.some.injEq] at hq
          rw [hw1, hq]
        · rw [hw2 q hqb]
          refine hlt q ob ?_
          simp only [Hp.union, Hp.upd, hqb, if_false] at hq ⊢
          exact hq
      · refine rowsAt_of_flat (fun row hr => ?_) (fun j v hv => ?_)
        · rcases List.mem_append.1 hr with h | h
          · exact hfit0 row h
          · exact hS.fits row h
        · rw [flat_append] at hv
          rw [hget]
          by_cases hj : j < (flat d).length
          · rw [if_neg (by omega)]
            rw [List.getElem?_append_left hj] at hv
            exact rowsAt_flat (by omega) g5 j v hv
          · rw [List.getElem?_append_right (by omega)] at hv
            have hj2 : j - (flat d).length < (flat dd).length := by
              rcases Nat.lt_or_ge (j - (flat d).length) (flat dd).length with h' | h'
              · exact h'
              · rw [List.getElem?_eq_none h'] at hv; cases hv
            rw [if_pos (by omega)]
            rw [hfd] at hv
            rw [show 0 + j - (d.length * i.size + 0) = j - d.length * i.size from by omega]
            exact hv
  · have hg : cap < d.length + m := by omega
    have hfit := growslice_fits hg hb
    have hge := grownCap_ge w (d.length + m) cap el
    have hn : ¬ (d.length + m ≤ cap) := hroom
    have h63 : d.length + m ≤ 140737488355328 := Nat.le_trans (by have := Nat.mul_le_mul_left (d.length + m) hb0; omega) hb
    have h63' : ¬ (9223372036854775807 < ((d.length : Int) + (m : Int))) := by omega
    have h48' : ¬ (281474976710656 < Builtin.nextslicecap (d.length + m) cap * i.bytes) := by omega
    have hfits : ∀ row ∈ d, fitsRow pat row := by
      rcases hD.how with ⟨rfl, rfl, rfl⟩ | ⟨b, c, rfl, g2, g3, g4, g5⟩
      · simp
      · exact rowsAt_fits g5
    have hold : (Builtin.firstCells i.size d.length (.slice base d.length cap)).run P w.drew = .ok (flat d).toArray w.drew := by
      rcases hD.how with ⟨rfl, rfl, rfl⟩ | ⟨b, c, rfl, g2, g3, g4, g5⟩
      · simp [run_firstCells_none, flat]
      · have hFb : hF b = none := (hD.d1 b).resolve_right (by rw [g2]; simp)
        have hwb : w.drew.heap[b]? = some (.cells c el (0, 0)) := hD.sub b _ (by simp [Hp.union, hFb, g2])
        have := firstCells_run (P := P) (w := w.drew) (cap := cap) (by omega) hwb g5 rfl
        rwa [hp] at this
    have hfd : (flat d).length = d.length * i.size := flat_len (fun row hr => by rw [(hfits row hr).1, hp])
    let G := grownCap w (d.length + m) cap el
    let ob : Array Value := ((flat d ++ flat dd).toArray ++ Builtin.zeroCells z.cells (G - (d.length + m)))
    have hlt : ∀ y o, Hp.union hF (Hp.union hT hR) y = some o → y < w.heap.size := fun y o hy => by
      have := hD.sub y o hy
      rcases Nat.lt_or_ge y w.heap.size with h | h
      · exact h
      · rw [Array.getElem?_eq_none h] at this; cases this
    have hR0 : ∀ q, q = w.heap.size → hF q = none ∧ hR q = none := fun q hq => by
      have : Hp.union hF (Hp.union hT hR) q = none := by
        cases hx : Hp.union hF (Hp.union hT hR) q with
        | none => rfl
        | some o => have := hlt q o hx; omega
      simp only [Hp.union, Option.or_eq_none_iff] at this
      exact ⟨this.1, this.2.2⟩
    refine ⟨w.drew.alloc (.cells ob el), some ⟨w.heap.size, 0, none⟩, G, Hp.one w.heap.size (.cells ob el (0, 0)), ?_, ?_, ?_, ?_, hD.wi, .inr ⟨w.heap.size, ob, rfl, by simp [Hp.one], ?_, hge, ?_⟩⟩
    · simp [Builtin.append_, run_underlying ht, sizeOf, typeInfo, zeroValue, hi, hz, hlen, hn, h63', h48', Question.forced, hcD, hold, newRow, grownCap, ob, G, addrOf]
      congr 2
      apply Array.ext'
      simp [List.append_assoc]
    · intro q
      by_cases hq : q = w.heap.size
      · exact .inl (hR0 q hq).1
      · right; simp [Hp.one, hq]
    · intro q
      by_cases hq : q = w.heap.size
      · exact .inr (hR0 q hq).2
      · left; simp [Hp.one, hq]
    · intro q o hq
      show (w.heap.push _)[q]? = some o
      by_cases hqb : q = w.heap.size
      · subst hqb
        simp only [Hp.union, (hR0 _ rfl).1, Hp.one, if_true, Option.none_or, Option.some_or, Option.some.injEq] at hq
        simp [hq]
      · have hq' : Hp.union hF (Hp.union hT hR) q = some o := by
          simp only [Hp.union, Hp.one, hqb, if_false, Option.none_or] at hq ⊢
          rcases hx : hF q with _ | o1
          · rw [hx] at hq
            simp only [Option.none_or] at hq ⊢
            have := (hD.d3 q).resolve_right (by rw [hq]; simp)
            rw [this, hq]; rfl
          · rw [hx] at hq; simpa using hq
        have h2 := hlt q o hq'
        have h1 := hD.sub q o hq'
        rw [Array.getElem?_push_lt h2]
        rwa [Array.getElem?_eq_getElem h2] at h1
    · simp only [ob, Array.size_append, List.size_toArray, List.length_append, hfd, hfl, size_zeroCells, hzs, hp, ← Nat.add_mul]
      congr 1
      simp only [G]; omega
    · refine rowsAt_of_flat (fun row hr => ?_) (fun j v hv => ?_)
      · rcases List.mem_append.1 hr with h | h
        · exact hfits row h
        · exact hS.fits row h
      · rw [flat_append] at hv
        have hj : j < (flat d ++ flat dd).length := by
          rcases Nat.lt_or_ge j (flat d ++ flat dd).length with h' | h'
          · exact h'
          · rw [List.getElem?_eq_none h'] at hv; cases hv
        simp only [ob, Nat.zero_add]
        rw [Array.getElem?_append_left (by simpa using hj)]
        simpa using hv

theorem zeroCells_get (z : Array Value) (hz : 0 < z.size) (n j : Nat) (hj : j < n * z.size) : (Builtin.zeroCells z n)[j]? = z[j % z.size]? := by
  have hm : j % z.size < z.size := Nat.mod_lt _ hz
  unfold Builtin.zeroCells
  rw [Array.getElem?_map, Array.getElem?_range, if_pos hj, Option.map_some, getElem!_pos z _ hm, getElem?_pos z _ hm]

theorem zeros_run {t t2 ty el : TypeId} {i : TypeInfo} {z : Value} {k kk : IntKind} {m : Int} (w : World) (ht : P.underlying t = some (.slice el)) (h2 : P.underlying t2 = some (.int k)) (hi : P.info? el = some i) (hz : i.zero = some z) (hzs : z.cells.size = i.size) (hp0 : 0 < i.size) (hb0 : 0 < i.bytes) (hm : 0 ≤ m) (hb : (i.bytes : Int) * m ≤ 140737488355328) :
    ∃ w' u cap', (Builtin.append_ #[t, t2] ty #[.slice none 0 0, .int kk m]).run P w = .ok (.slice (addrOf u 0) m.toNat cap') w' ∧
      ((m = 0 ∧ u = none ∧ cap' = 0 ∧ w' = w) ∨ ∃ ob, u = some ⟨w.heap.size, 0, none⟩ ∧ w' = w.drew.alloc (.cells ob el) ∧ ob.size = cap' * i.size ∧ m.toNat ≤ cap' ∧ ∀ j, j < m.toNat * i.size → ob[j]? = z.cells[j % i.size]?) := by
  have h63 : m ≤ 140737488355328 := by
    have hb1 : (1 : Int) ≤ i.bytes := by omega
    have := Int.mul_le_mul_of_nonneg_right hb1 hm
    omega
  have hwr : IntKind.i64.wrap m = m := by
    simp [IntKind.wrap, IntKind.bits, IntKind.signed]; omega
  have hnl : ¬ (m < 0) := by omega
  have hnb : ¬ (281474976710656 < m * (i.bytes : Int)) := by rw [Int.mul_comm]; omega
  by_cases h0 : m = 0
  · subst h0
    refine ⟨w, none, 0, ?_, .inl ⟨rfl, rfl, rfl, rfl⟩⟩
    simp [Builtin.append_, run_underlying ht, run_underlying h2, sizeOf, typeInfo, hi, asInt, asIntOf, hwr, addrOf]
  · have hg : 0 < m.toNat := by omega
    have hbn : (0 + m.toNat) * i.bytes ≤ 140737488355328 := by
      have e : (((0 + m.toNat) * i.bytes : Nat) : Int) = (i.bytes : Int) * m := by
        rw [Int.natCast_mul, Nat.zero_add, Int.toNat_of_nonneg hm, Int.mul_comm]
      omega
    have hfit := growslice_fits (need := 0 + m.toNat) (old := 0) (by omega) hbn
    have hge := grownCap_ge w (0 + m.toNat) 0 el
    have hn : ¬ (0 + m.toNat ≤ 0) := by omega
    have h63' : ¬ (9223372036854775807 < ((m.toNat : Nat) : Int)) := by omega
    have h48' : ¬ (281474976710656 < Builtin.nextslicecap (0 + m.toNat) 0 * i.bytes) := by omega
    have hms : ¬ (m.toNat * i.size = 0) := by
      have := Nat.mul_pos hg hp0
      omega
    have hm1 : ¬ (m ≤ 0) := by omega
    have hm2 : ¬ (9223372036854775807 < max m 0) := by omega
    let G := grownCap w (0 + m.toNat) 0 el
    let ob : Array Value := Builtin.zeroCells z.cells m.toNat ++ Builtin.zeroCells z.cells (G - (0 + m.toNat))
    refine ⟨w.drew.alloc (.cells ob el), some ⟨w.heap.size, 0, none⟩, G, ?_, .inr ⟨ob, rfl, rfl, ?_, by simp only [G]; omega, fun j hj => ?_⟩⟩
    · simp only [Nat.zero_add] at *
      simp [Builtin.append_, run_underlying ht, run_underlying h2, sizeOf, typeInfo, zeroValue, hi, hz, asInt, asIntOf, hwr, hnl, hnb, hn, h63', h48', hms, hg, h0, hm1, hm2, Question.forced, newRow, grownCap, ob, G, addrOf, run_firstCells_none]
    · simp only [ob, Array.size_append, size_zeroCells, hzs, ← Nat.add_mul]
      congr 1
      simp only [G]; omega
    · simp only [ob]
      rw [Array.getElem?_append_left (by rw [size_zeroCells, hzs]; exact hj), zeroCells_get _ (by omega) _ _ (by rw [hzs]; exact hj), hzs]

theorem step_zeros {t t2 : TypeId} {k kk : IntKind} {l : T} {x y : Operand} (hs : Holds ρ hF s a w) (hop : o.op = .call { callee := .builtin .append, args := #[x, y], argTypes := #[t, t2] }) (hsc : s.scopedEH = true) (hx : opd s x = some (.one (.c0 .vnils))) (hy : opd s y = some (.one (.c1 (.vint kk) l)))
    (h2 : P.underlying t2 = some (.int k)) (h : stepZeros P s t l = some r) (hn : ∀ c ∈ r.needs, (c.den ρ).b = true) : StepOk P ρ hF s a w o r := by
  have hex := hs.opd hx
  have hey := hs.opd hy
  simp only [SV.den, T.den, O0.den, O1.den] at hex hey
  unfold stepZeros at h
  split at h
  · rename_i el hu
    split at h
    · rename_i z n bz hz hsz hbz
      split at h
      · rename_i hchk
        simp only [Bool.and_eq_true, Nat.blt_eq] at hchk
        have hzl := Nat.eq_of_beq_eq_true hchk.1.1.1
        simp only [Option.some.injEq] at h; subst h
        have h0 := mkLe0_den (hn _ (List.mem_cons_self ..))
        have h1 := leq_den (hn _ (List.mem_cons_of_mem _ (List.mem_cons_self ..)))
        simp only [T.den, O0.den, O2.den] at h1
        obtain ⟨i, v, hi, hiz, hzc⟩ := zeroP_info (ρ := ρ) hz
        have his : i.size = n := by simpa [sizeP, hi] using hsz
        have hib : i.bytes = bz := by simpa [bytesP, hi] using hbz
        have hdl : (denVs ρ z).length = n := by simp [denVs, hzl]
        obtain ⟨w', u, cap', hrun, hcase⟩ := zeros_run (P := P) (ty := o.type) (kk := kk) w hu h2 hi hiz (by rw [hzc, his]; simp [hdl]) (by omega) (by omega) h0 (by rw [hib]; exact h1)
        let u1 : U := { r := u }
        let u2 : U := { i := (cap' : Int) }
        have hag : ∀ m, m < s.nx → ρ m = ((ρ.set s.nx u1).set (s.nx + 1) u2) m := fun m hm => by
          rw [Env.set_ne _ _ (by omega), Env.set_ne _ _ (by omega)]
        have hsh : s.heap.all (SH.inB s.nx) = true := by simp only [S.scopedEH, Bool.and_eq_true] at hsc; exact hsc.2
        have hl : l.den ((ρ.set s.nx u1).set (s.nx + 1) u2) = l.den ρ := (T.den_congr hag l hchk.2).symm
        have hzd : denVs ((ρ.set s.nx u1).set (s.nx + 1) u2) z = denVs ρ z := (denVs_congr hag z (zeroP_in hz)).symm
        have e1 : ((ρ.set s.nx u1).set (s.nx + 1) u2) s.nx = u1 := by rw [Env.set_ne _ _ (by omega), Env.set_same]
        have e2 : ((ρ.set s.nx u1).set (s.nx + 1) u2) (s.nx + 1) = u2 := Env.set_same ..
        have hran : Ran P a o ((ρ.set s.nx u1).set (s.nx + 1) u2) (some (.one (.vslice s.nx (.lit 0) l (.var (s.nx + 1)) n))) w w' := by
          have hv : SV.den ((ρ.set s.nx u1).set (s.nx + 1) u2) (.one (.vslice s.nx (.lit 0) l (.var (s.nx + 1)) n)) = .slice (addrOf u 0) (l.den ρ).i.toNat cap' := by
            simp only [SV.den, T.den, O0.den, O3.den, hl, e1, e2, u1, u2]
            simp
          simp only [Ran, hv]
          simp [execOp, hop, resolve, invoke, builtin, hex, hey, hrun]
        rcases hcase with ⟨g0, rfl, rfl, rfl⟩ | ⟨ob, rfl, rfl, g3, g4, g5⟩
        · obtain ⟨hO, a1, a2, a3, a4⟩ := hs.hp
          refine ⟨[u1, u2], _, rfl, by simp [U.good, u1, u2, Value.oneCell'], ⟨hO, a1, ⟨Hp.emp, hO, fun _ => .inl rfl, by funext b; simp [Hp.union, Hp.emp], ?_, star_congr hag _ hsh _ a2⟩, a3, a4⟩, hran, fun h => by cases h⟩
          refine .inl ⟨by simp only [setL]; rw [e1], ?_, by simp only [setL, T.den]; rw [e2]; rfl⟩
          simp only [setL, T.den, O2.den, hl]
          rw [g0]; rfl
        · refine ⟨[u1, u2], _, rfl, by simp [U.good, u1, u2, Value.oneCell'], HeapOk.new (ρ' := (ρ.set s.nx u1).set (s.nx + 1) u2) (d := w.drew.drawn) (w := w) hs.hp hsh hag (ob := .cells ob el) ?_, hran, fun h => by cases h⟩
          refine .inr ⟨w.heap.size, ob, by rw [e1], by simp [Hp.one], ?_, ?_, ?_⟩
          · simp only [T.den, e2, u2]
            rw [g3]; simp [hzl, his]
          · simp only [T.den, O2.den, List.length_replicate, hl, e2, u2]; omega
          · intro j row hrow
            simp only [T.den, O2.den, hl] at hrow
            rw [List.getElem?_replicate] at hrow
            split at hrow
            · rename_i hil2
              simp only [Option.some.injEq, row_den, hzd] at hrow
              subst hrow
              refine ⟨zeroP_fits hz ρ, fun q v' hv => ?_⟩
              have hk : q < n := by
                rw [← hdl]
                rcases Nat.lt_or_ge q (denVs ρ z).length with h | h
                · exact h
                · rw [List.getElem?_eq_none h] at hv; cases hv
              have hmul : (j + 1) * n ≤ (l.den ρ).i.toNat * n := Nat.mul_le_mul_right _ (by omega)
              rw [Nat.add_mul, Nat.one_mul] at hmul
              rw [List.length_map, hzl, Nat.zero_add, g5 _ (by rw [his]; omega), his]
              rw [show (j * n + q) % n = q from by rw [Nat.mul_comm, Nat.mul_add_mod, Nat.mod_eq_of_lt hk], hzc]
              simpa using hv
            · cases hrow
      · simp at h
    · simp at h
  · simp at h

theorem step_append {args : Array Operand} {tys : Array TypeId} (hs : Holds ρ hF s a w) (hop : o.op = .call { callee := .builtin .append, args, argTypes := tys }) (hsc : s.scopedEH = true) (h : stepOp P s o = some r) (hn : ∀ c ∈ r.needs, (c.den ρ).b = true) : StepOk P ρ hF s a w o r := by
  simp only [stepOp, hop] at h
  split at h
  · rename_i x y t t2 ha ht
    have hargs : args = #[x, y] := by apply Array.ext'; simpa using ha
    have htys : tys = #[t, t2] := by apply Array.ext'; simpa using ht
    split at h
    · rename_i htt
      have htt := Nat.eq_of_beq_eq_true htt
      subst htt
      split at h
      · rename_i va vb hx hy
        have hex := hs.opd hx
        have hey := hs.opd hy
        unfold stepAppend at h
        split at h
        · rename_i el hu
          split at h
          · rename_i z n bz hz hsz hbz
            split at h
            · rename_i hchk
              simp only [Bool.and_eq_true, Nat.blt_eq] at hchk
              have hzl := Nat.eq_of_beq_eq_true hchk.1.1
              split at h
              · rename_i d len k n1 src hdst hsrc
                split at h
                · simp at h
                · rename_i hin
                  simp only [Bool.not_eq_true', Bool.not_eq_false, Bool.and_eq_true] at hin
                  simp only [Option.some.injEq] at h; subst h
                  obtain ⟨i, v, hi, hiz, hzc⟩ := zeroP_info (ρ := ρ) hz
                  have his : i.size = n := by simpa [sizeP, hi] using hsz
                  have hib : i.bytes = bz := by simpa [bytesP, hi] using hbz
                  obtain ⟨base, cap, hT, hR, hD, hxv, hlen⟩ := dstOf_sound hs hdst (fun c hc => hn c (by simp [hc]))
                  obtain ⟨hm0, hS⟩ := srcOf_sound (P := P) (by simp [hzl]; omega) hs hsrc (fun c hc => hn c (by simp [hc]))
                  have hnb := leq_den (hn _ (List.mem_append_right _ (List.mem_singleton.2 rfl)))
                  simp only [T.den, O0.den, O2.den, mkPlus_den, hlen] at hnb
                  have hbb : ((d.den ρ).d.length + (src.len.den ρ).i.toNat) * i.bytes ≤ 140737488355328 := by
                    rw [hib]
                    have e : (((((d.den ρ).d.length + (src.len.den ρ).i.toNat) * bz : Nat)) : Int) = (bz : Int) * (((d.den ρ).d.length : Int) + (src.len.den ρ).i) := by
                      rw [Int.natCast_mul, Int.natCast_add, Int.toNat_of_nonneg hm0, Int.mul_comm]
                    omega
                  obtain ⟨w', u, cap', hN, hrun, j1, j2, j3, jw, j4⟩ := append_run (P := P) (ty := o.type) hD hS hu hi hiz (by rw [hzc, his]; simp [denVs, hzl]) (by simp [hzl, his]) (by omega) (by omega) hbb
                  let u1 : U := { r := u }
                  let u2 : U := { i := (cap' : Int) }
                  have hag : ∀ m, m < s.nx → ρ m = ((ρ.set s.nx u1).set (s.nx + 1) u2) m := fun m hm => by
                    rw [Env.set_ne _ _ (by omega), Env.set_ne _ _ (by omega)]
                  have hsh : (eraseO s.heap k).all (SH.inB s.nx) = true := by
                    simp only [S.scopedEH, Bool.and_eq_true] at hsc
                    have h0 := List.all_eq_true.1 hsc.2
                    cases k with
                    | none => exact hsc.2
                    | some k => exact List.all_eq_true.2 fun x hx => h0 x (List.mem_of_mem_eraseIdx hx)
                  have hd' : ((mkApp d src.d).den ((ρ.set s.nx u1).set (s.nx + 1) u2)).d = (d.den ρ).d ++ (src.d.den ρ).d := by
                    rw [← T.den_congr hag _ hin.1, mkApp_den]
                  have hl' : ((mkPlus len src.len).den ((ρ.set s.nx u1).set (s.nx + 1) u2)).i.toNat = (d.den ρ).d.length + (src.len.den ρ).i.toNat := by
                    rw [← T.den_congr hag _ hin.2, mkPlus_den, hlen]; omega
                  have e1 : ((ρ.set s.nx u1).set (s.nx + 1) u2) s.nx = u1 := by rw [Env.set_ne _ _ (by omega), Env.set_same]
                  have e2 : ((ρ.set s.nx u1).set (s.nx + 1) u2) (s.nx + 1) = u2 := Env.set_same ..
                  have hsl := hS.len
                  refine ⟨[u1, u2], w', rfl, by simp [U.good, u1, u2, Value.oneCell'], ⟨Hp.union hN hR, Hp.disj_union.2 ⟨j1, hD.d2⟩, ⟨hN, hR, j2, rfl, ?_, star_congr hag _ hsh _ hD.st⟩, j3, jw⟩, ?_, fun h => by cases h⟩
                  · rcases j4 with ⟨g1, g2, g3⟩ | ⟨b, c, g1, g2, g3, g4, g5⟩
                    · refine .inl ⟨by simp only [setL]; rw [e1]; exact g1, by simp only [setL]; rw [hd', g2], by simp only [setL, T.den]; rw [e2]; simp [u2, g3]⟩
                    · refine .inr ⟨b, c, by simp only [setL]; rw [e1]; exact g1, g2, by simp only [setL, T.den]; rw [e2]; simp [u2, g3], ?_, by simp only [setL]; rw [hd']; exact g5⟩
                      simp only [setL, T.den]; rw [e2, hd']; simp only [u2, List.length_append, hsl]; omega
                  · have hv : SV.den ((ρ.set s.nx u1).set (s.nx + 1) u2) (.one (.vslice s.nx (.lit 0) (mkPlus len src.len) (.var (s.nx + 1)) n)) = .slice (addrOf u 0) ((d.den ρ).d.length + (src.len.den ρ).i.toNat) cap' := by
                      simp only [SV.den, T.den, O0.den, O3.den, hl', e1, e2, u1, u2]
                      simp
                    simp only [Ran, setL, hv]
                    simp [execOp, hop, resolve, invoke, builtin, hargs, htys, hex, hey, hxv, hrun]
              · simp at h
            · simp at h
          · simp at h
        · simp at h
      · simp at h
    · split at h
      · rename_i k kk l h2 hx hy
        subst hargs
        subst htys
        exact step_zeros hs hop hsc hx hy h2 h hn
      · simp at h
  · simp at h

theorem flat_bytes {d : List (List Value)} (h : ∀ row ∈ d, fitsRow [.int .u8] row) : flat d = (d.map fun r => vInt (r[0]?.getD .nilFunc)).map (Value.int .u8) := by
  induction d with
  | nil => rfl
  | cons row d ih =>
    have hr := h row (List.mem_cons_self ..)
    obtain ⟨v, rfl⟩ : ∃ v, row = [v] := List.length_eq_one_iff.1 hr.1
    have hf := hr.2 0 (.int .u8) v rfl rfl
    obtain ⟨z, rfl⟩ : ∃ z, v = .int .u8 z := by
      cases v <;> simp [CK.fits] at hf
      subst hf; exact ⟨_, rfl⟩
    have ih := ih fun r hr => h r (List.mem_cons_of_mem _ hr)
    simp only [flat, List.flatten_cons, List.map_cons] at ih ⊢
    rw [ih]; rfl
theorem step_convert {src dst : TypeId} {x : Operand} (hs : Holds ρ hF s a w) (hop : o.op = .convert src dst x) (h : stepOp P s o = some r) (hn : ∀ c ∈ r.needs, (c.den ρ).b = true) : StepOk P ρ hF s a w o r := by
  simp only [stepOp, hop] at h
  split at h
  · rename_i d k k' t' hsrc hdst hx
    have hev := hs.opd hx
    simp only [Option.some.injEq] at h; subst h
    refine StepOk.quiet hs ?_
    simp only [SV.den, T.den, O1.den] at hev ⊢
    simp [execOp, hop, hev, convert, underlying_run hsrc, underlying_run hdst, Conv.intToInt, mkConv_den]
  · rename_i e v hsrc hdst hx
    split at h
    · rename_i sr he hsr
      have hev := hs.opd hx
      simp only [Option.some.injEq] at h; subst h
      refine StepOk.quiet hs ?_
      obtain ⟨_, hS⟩ := srcOf_sound (P := P) (by decide) hs hsr hn
      obtain ⟨b, c, hv⟩ := hS.shape
      have hcells := hS.cells w.heap w.drawn rfl
      rw [hv] at hev hcells
      have hfl := flat_bytes hS.fits
      have hgoal : (convert src dst (a.eval x)).run P w = .ok (.string ⟨(bytesOf (sr.d.den ρ).d).toArray⟩) w := by
        rw [hev, run_convert_bytes_string w src dst e _ _ _ hsrc he hdst]
        cases b with
        | none =>
          simp [Builtin.firstCells] at hcells
          have h0 : (sr.d.den ρ).d = [] := by
            rw [hfl] at hcells
            simpa using hcells
          rw [h0]
          simp [Conv.bytesToString, bytesOf]
          rfl
        | some ad =>
          rw [run_bytesToString w ad _ c ((sr.d.den ρ).d.map fun r => vInt (r[0]?.getD .nilFunc)) ?_, foldl_push_bytes]
          · simp [bytesOf, ByteArray.empty, ByteArray.emptyWithCapacity, Function.comp_def]
            rfl
          · have : (loadCells ad (sr.len.den ρ).i.toNat).run P w = .ok (flat (sr.d.den ρ).d).toArray w := by
              simpa [Builtin.firstCells] using hcells
            rw [this, hfl]
      simp only [SV.den, T.den, O1.den]
      simp only [execOp, hop]
      simp [hgoal]
    · simp at h
  · simp at h

theorem stepOp_sound (hs : Holds ρ hF s a w) (h : stepOp P s o = some r) (hn : ∀ c ∈ r.needs, (c.den ρ).b = true) (hsc : r.fresh = 0 ∨ s.scopedEH = true) : StepOk P ρ hF s a w o r := by
  have h0 := h
  cases hop : o.op with
  | move x => exact step_move hs (.inl hop) (by simpa [stepOp, hop] using h)
  | assign x => exact step_move hs (.inr hop) (by simpa [stepOp, hop] using h)
  | pick c x y => exact step_pick hs hop h
  | box t x =>
    refine step_box hs hop (hsc.resolve_left fun hf => ?_) h
    simp only [stepOp, hop] at h
    split at h
    · simp only [Option.some.injEq] at h; subst h; cases hf
    · simp at h
  | alloc t =>
    refine step_alloc hs hop (hsc.resolve_left fun hf => ?_) h
    simp only [stepOp, hop] at h
    split at h
    · simp only [Option.some.injEq] at h; subst h; cases hf
    · simp at h
  | build t ps => exact step_build hs hop h
  | buildSlice t n ps =>
    refine step_buildSlice hs hop (hsc.resolve_left fun hf => ?_) h
    simp only [stepOp, hop] at h
    repeat' (split at h)
    all_goals first | (simp at h; done) | (simp only [Option.some.injEq] at h; subst h; cases hf)
  | load t x => exact step_load hs hop h hn
  | store t x y => exact step_store hs hop h hn
  | nilCheck x => exact step_nilCheck hs hop h hn
  | binOp op t x y u => exact step_bin hs hop h hn
  | unOp op t x => exact step_unOp hs hop h
  | convert src dst x => exact step_convert hs hop h hn
  | fieldAddr t x f => exact step_fieldAddr hs hop h hn
  | field t x f => exact step_field hs hop h
  | indexAddr t x i => exact step_indexAddr hs hop h hn
  | makeSlice t l c =>
    refine step_make hs hop (hsc.resolve_left fun hf => ?_) h hn
    simp only [stepOp, hop] at h
    split at h
    · unfold stepMake at h
      repeat' (split at h)
      all_goals first | (simp at h; done) | (simp only [Option.some.injEq] at h; subst h; cases hf)
    · simp at h
  | slice t x lo hi mx => exact step_slice hs hop h hn
  | extract x i => exact step_extract hs hop h
  | makeFunc fn f c => exact step_makeFunc hs hop h
  | index t x i => exact step_index hs hop h hn
  | call c =>
    obtain ⟨callee, args, tys⟩ := c
    cases callee with
    | builtin b =>
      cases b
      case len => exact step_len hs hop h hn
      case cap => exact step_cap hs hop h hn
      case min => exact step_min hs hop h
      case max => exact step_max hs hop h
      case append =>
        refine step_append hs hop (hsc.resolve_left fun hf => ?_) h hn
        simp only [stepOp, hop] at h
        repeat' (split at h)
        all_goals first | (simp at h; done) | skip
        all_goals first | unfold stepAppend at h | unfold stepZeros at h
        all_goals repeat' (split at h)
        all_goals first | (simp at h; done) | (simp only [Option.some.injEq] at h; subst h; cases hf)
      all_goals simp [stepOp, hop] at h
    | value f => simp [stepOp, hop] at h
    | invoke f m => simp [stepOp, hop] at h
  | _ => simp [stepOp, hop] at h

end Go.Eng
