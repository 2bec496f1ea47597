/- Each operation that the engine knows is what the machine does. -/
import Derived.Test.YtlmkkphojjodhaaE7
import Derived.Great.BuildSlice
set_option linter.unusedSimpArgs false
set_option linter.unusedVariables false
namespace Go.Eng
open Go
variable {P : Program} {ρ : Env} {hF : Fr} {s : S} {a : Act} {w : World} {o : Oper} {r : R1}

def setL (ρ : Env) (n : Nat) : List U → Env
  | [] => ρ
  | u :: us => setL (ρ.set n u) (n + 1) us

def Ran (P : Program) (a : Act) (o : Oper) (ρ : Env) (val : Option SV) (w w' : World) : Prop :=
  match val with
  | some v => (execOp a.eval o).run P w = .ok (.value (v.den ρ)) w'
  | none => (execOp a.eval o).run P w = .ok .skip w'

def StepOk (P : Program) (ρ : Env) (hF : Fr) (s : S) (a : Act) (w : World) (o : Oper) (r : R1) : Prop :=
  ∃ us w', us.length = r.fresh ∧ (∀ u ∈ us, u.good) ∧ HeapOk (setL ρ s.nx us) hF r.heap w' ∧ Ran P a o (setL ρ s.nx us) r.val w w' ∧ (r.fresh = 0 → r.val.isSome = true → w' = w)

theorem StepOk.quiet {needs : List T} {v : SV} (hs : Holds ρ hF s a w) (h : (execOp a.eval o).run P w = .ok (.value (v.den ρ)) w) :
    StepOk P ρ hF s a w o { needs, fresh := 0, heap := s.heap, val := some v } :=
  ⟨[], w, rfl, by simp, hs.hp, h, fun _ _ => rfl⟩

theorem step_move {x : Operand} (hs : Holds ρ hF s a w) (hop : o.op = .move x ∨ o.op = .assign x) (h : (opd s x).map (quiet s) = some r) : StepOk P ρ hF s a w o r := by
  simp only [Option.map_eq_some_iff] at h
  obtain ⟨v, hv, rfl⟩ := h
  refine StepOk.quiet hs ?_
  have := hs.opd hv
  rcases hop with hop | hop <;> simp [execOp, hop, this]

theorem known_sound (hs : Holds ρ hF s a w) {c : T} {b : Bool} (h : known c s.pc = some b) : (c.den ρ).b = b := by
  have look : ∀ {l : List (T × Bool)} {c : T} {b : Bool}, (∀ c b, (c, b) ∈ l → (c.den ρ).b = b) → lookP c l = some b → (c.den ρ).b = b := by
    intro l
    induction l with
    | nil => intro c b _ h; simp [lookP] at h
    | cons x l ih =>
      intro c b hl h
      obtain ⟨k, b'⟩ := x
      simp only [lookP] at h
      split at h
      · rename_i hsame
        simp only [Option.some.injEq] at h
        rw [T.same_eq hsame, ← h]
        exact hl k b' (List.mem_cons_self ..)
      · exact ih (fun c b hm => hl c b (List.mem_cons_of_mem _ hm)) h
  unfold known at h
  split at h
  · simp only [Option.some.injEq] at h; subst h; rfl
  · simp only [Option.map_eq_some_iff] at h
    obtain ⟨b', h1, rfl⟩ := h
    simp [T.den, O1.den, look hs.pc h1]
  · exact look hs.pc h

theorem step_pick {c x y : Operand} (hs : Holds ρ hF s a w) (hop : o.op = .pick c x y) (h : stepOp P s o = some r) : StepOk P ρ hF s a w o r := by
  simp only [stepOp, hop] at h
  split at h
  · rename_i t ht
    have hc := hs.opd ht
    simp only [SV.den, T.den, O1.den] at hc
    split at h
    · rename_i hk
      have hk := known_sound hs hk
      simp only [Option.map_eq_some_iff] at h
      obtain ⟨v, hv, rfl⟩ := h
      refine StepOk.quiet hs ?_
      simp [execOp, hop, hc, hk, asBool, hs.opd hv]
    · rename_i hk
      have hk := known_sound hs hk
      simp only [Option.map_eq_some_iff] at h
      obtain ⟨v, hv, rfl⟩ := h
      refine StepOk.quiet hs ?_
      simp [execOp, hop, hc, hk, asBool, hs.opd hv]
    · simp at h
  · simp at h

theorem new_ptr (ρ : Env) (n b : Nat) : SV.den (ρ.set n { r := some (b, 0) }) (.one (.vptr n (.lit 0) 0 0)) = .pointer (some ⟨b, 0, none⟩) := by
  simp [SV.den, T.den, O0.den, O1.den, addrOf]

theorem step_box {ty : TypeId} {x : Operand} (hs : Holds ρ hF s a w) (hop : o.op = .box ty x) (hsc : s.scopedEH = true) (h : stepOp P s o = some r) : StepOk P ρ hF s a w o r := by
  simp only [stepOp, hop] at h
  split at h
  · rename_i cs hcs
    simp only [Option.some.injEq] at h; subst h
    simp only [Option.bind_eq_some_iff] at hcs
    obtain ⟨v, hv, hc⟩ := hcs
    have hin := cells_in hc (opd_in hsc hv)
    have hev := hs.opd hv
    have hcd := cells_den hs.gd hc
    have hg : denVs (ρ.set s.nx { r := some (w.heap.size, 0) }) cs = denVs ρ cs := denVs_congr (fun m hm => Env.set_ne ρ _ (by omega)) cs hin
    have hsh : s.heap.all (SH.inB s.nx) = true := by simp only [S.scopedEH, Bool.and_eq_true] at hsc; exact hsc.2
    refine ⟨[{ r := some (w.heap.size, 0) }], _, rfl, by simp [U.good, Value.oneCell'], HeapOk.alloc hs.hp hsh (c := (v.den ρ).cells) (by rw [hg, hcd]), ?_, fun h => by cases h⟩
    simp only [Ran, setL, new_ptr]
    simp [execOp, hop, hev, Instr.box, newVar, newRow]
  · simp at h

theorem step_alloc {ty : TypeId} (hs : Holds ρ hF s a w) (hop : o.op = .alloc ty) (hsc : s.scopedEH = true) (h : stepOp P s o = some r) : StepOk P ρ hF s a w o r := by
  simp only [stepOp, hop] at h
  split at h
  · rename_i cs hcs
    simp only [Option.some.injEq] at h; subst h
    obtain ⟨v, hz, hcd⟩ := zeroP_run (P := P) (ρ := ρ.set s.nx { r := some (w.heap.size, 0) }) hcs w
    have hsh : s.heap.all (SH.inB s.nx) = true := by simp only [S.scopedEH, Bool.and_eq_true] at hsc; exact hsc.2
    refine ⟨[{ r := some (w.heap.size, 0) }], _, rfl, by simp [U.good, Value.oneCell'], HeapOk.alloc hs.hp hsh (c := v.cells) (by rw [hcd]), ?_, fun h => by cases h⟩
    simp only [Ran, setL, new_ptr]
    simp [execOp, hop, Instr.alloc, hz, newVar, newRow]
  · simp at h

theorem isLit_eq {t : T} {z : Int} (h : t.isLit = some z) : t = .lit z := by
  unfold T.isLit at h; split at h <;> simp_all

theorem step_load {t : TypeId} {x : Operand} (hs : Holds ρ hF s a w) (hop : o.op = .load t x) (h : stepOp P s o = some r) (hn : ∀ c ∈ r.needs, (c.den ρ).b = true) : StepOk P ρ hF s a w o r := by
  simp only [stepOp, hop] at h
  split at h
  · rename_i rg p c e ag n hx hag hsz
    have hev := hs.opd hx
    split at h
    · rename_i k y hf
      obtain ⟨H, hsub, hro, hreg⟩ := hs.found hf
      split at h
      · rename_i cs needs hrd
        split at h
        · rename_i hagt
          simp only [Option.some.injEq] at h; subst h; subst hagt
          obtain ⟨hl, b, off, c', ty, fr, h1, h2, h3⟩ := readH_sound hrd hro hreg hn
          refine StepOk.quiet hs ?_
          have hrun := run_loadVar (P := P) (w := w) hag hsz (hsub _ _ h2) (by simp [denVs, hl]) h3 (by simp)
          simp only [SV.den, T.den, O1.den, h1, addrOf, Option.map_some] at hev ⊢
          simp [execOp, hop, hev, Instr.loadAt, Instr.sureAddr, hrun]
        · rename_i hagf
          split at h
          · rename_i t' _
            simp only [Option.some.injEq] at h; subst h
            obtain ⟨hl, b, off, c', ty, fr, h1, h2, h3⟩ := readH_sound hrd hro hreg hn
            refine StepOk.quiet hs ?_
            have hagf' : ag = false := by simpa using hagf
            have hrun := run_loadVar (P := P) (w := w) hag hsz (hsub _ _ h2) (by rw [← hl]; simp [denVs]) h3 (fun _ => by rw [← hl]; rfl)
            subst hagf'
            simp only [SV.den, T.den, O1.den, h1, addrOf, Option.map_some] at hev ⊢
            simp [execOp, hop, hev, Instr.loadAt, Instr.sureAddr, hrun, denVs]
          · simp at h
      · simp at h
    · simp at h
  · simp at h

theorem step_store {t : TypeId} {x y : Operand} (hs : Holds ρ hF s a w) (hop : o.op = .store t x y) (h : stepOp P s o = some r) (hn : ∀ c ∈ r.needs, (c.den ρ).b = true) : StepOk P ρ hF s a w o r := by
  simp only [stepOp, hop] at h
  split at h
  · rename_i rg p c e vs n hx hvs hsz
    have hev := hs.opd hx
    split at h
    · rename_i hlen
      have hlen := Nat.eq_of_beq_eq_true hlen
      split at h
      · rename_i k x0 hat
        simp only [Option.map_eq_some_iff, Prod.exists] at h
        obtain ⟨x', needs, hwr, rfl⟩ := h
        simp only [Option.bind_eq_some_iff] at hvs
        obtain ⟨v, hv, hc⟩ := hvs
        have hvev := hs.opd hv
        have hcd := cells_den hs.gd hc
        obtain ⟨hk, hreg⟩ := heapAt_spec hat
        obtain ⟨hO, hd, hst, hsub, hwi⟩ := hs.hp
        obtain ⟨t1, t2, td, tu, tx, ts⟩ := star_take hst hk
        obtain ⟨b, c0, ty, g1, g2, g3, g4⟩ := writeH_sound hwr tx hreg hn
        have hle : Hp.le t1 (Hp.union hF hO) := Hp.le_trans (tu ▸ Hp.le_left t1 t2) (Hp.le_right hd)
        obtain ⟨w', c1, hrun, hw1, hw2, hwrote, hos⟩ := run_storeVar (P := P) (w := w) (off := (e.den ρ).i.toNat * p + c) hsz hcd (by simp [denVs, hlen]) (hsub _ _ (hle _ _ g2)) (denVs_good hs.gd vs)
          (by simpa [denVs] using g3)
        have hdisj : Hp.disj (Hp.upd t1 b (.cells c1 ty (0, 0))) t2 := fun y => by
          rcases td y with h | h
          · unfold Hp.upd
            split
            · rename_i he; subst he; rw [g2] at h; cases h
            · exact .inl h
          · exact .inr h
        refine ⟨[], w', rfl, by simp, ⟨Hp.union (Hp.upd t1 b (.cells c1 ty (0, 0))) t2, ?_, star_set hk ts hdisj (g4 c1 hwrote), ?_, ⟨hos.1.trans hwi.1, hos.2.trans hwi.2⟩⟩, ?_, fun _ h => by cases h⟩
        · intro y
          rcases hd y with h | h
          · exact .inl h
          · right
            rw [tu] at h
            simp only [Hp.union, Option.or_eq_none_iff] at h ⊢
            refine ⟨?_, h.2⟩
            unfold Hp.upd
            split
            · rename_i he; subst he; rw [g2] at h; cases h.1
            · exact h.1
        · intro y ob hy
          by_cases hyb : y = b
          · subst hyb
            have hFn : hF y = none := (hd y).resolve_right (by rw [tu]; simp [Hp.union, g2])
            simp only [Hp.union, hFn, Hp.upd, if_true, Option.none_or, Option.some_or, Option.some.injEq] at hy
            rw [hw1, hy]
          · rw [hw2 y hyb]
            refine hsub y ob ?_
            rw [tu]
            simp only [Hp.union, Hp.upd, hyb, if_false] at hy ⊢
            exact hy
        · simp only [Ran]
          simp only [SV.den, T.den, O1.den, g1, addrOf, Option.map_some] at hev
          simp [execOp, hop, hev, hvev, Instr.storeAt, Instr.sureAddr, hrun]
      · simp at h
    · simp at h
  · simp at h

/-- What is asked so that a place is no nil does its work. -/
theorem there_sound (hs : Holds ρ hF s a w) {r : Nat} {e : T} (h : ∀ c ∈ there s r e, (c.den ρ).b = true) : (ρ r).r.isSome = true := by
  unfold there at h
  split at h
  · rename_i r' ty cs hf
    obtain ⟨H, _, hro, hreg⟩ := hs.found hf
    simp only [SH.reg, Option.some.injEq] at hreg; subst hreg
    obtain ⟨b, o, c, ty', fr, h1, _⟩ := hro
    rw [h1]; rfl
  · rename_i r' ty pat d cap hf
    obtain ⟨H, _, hro, hreg⟩ := hs.found hf
    simp only [SH.reg, Option.some.injEq] at hreg; subst hreg
    have h0 := mkLe0_den (h _ (List.mem_cons_self ..))
    have h1 := lss_dlen (h _ (List.mem_cons_of_mem _ (List.mem_cons_self ..)))
    rcases hro with ⟨_, hd⟩ | ⟨b, o, c, ty', fr, h1, _⟩
    · rw [hd] at h1; simp at h1; omega
    · rw [h1]; rfl
  · have := h _ (List.mem_singleton.2 rfl)
    simp only [T.den, O0.den, O1.den] at this
    cases hr : (ρ r).r <;> simp_all

theorem step_nilCheck {x : Operand} (hs : Holds ρ hF s a w) (hop : o.op = .nilCheck x) (h : stepOp P s o = some r) (hn : ∀ c ∈ r.needs, (c.den ρ).b = true) : StepOk P ρ hF s a w o r := by
  simp only [stepOp, hop] at h
  split at h
  · rename_i rg p c e hx
    have hev := hs.opd hx
    simp only [Option.some.injEq] at h; subst h
    have ht := there_sound hs hn
    obtain ⟨bo, hb⟩ := Option.isSome_iff_exists.1 ht
    refine StepOk.quiet hs ?_
    simp only [SV.den, T.den, O1.den, hb, addrOf, Option.map_some] at hev ⊢
    simp [execOp, hop, hev]
  · simp at h

theorem fieldP_struct {t : TypeId} {f : Nat} {off : Nat} {u : TypeId} (h : fieldP P t f = some (off, u)) : ∃ fs fd n, P.underlying t = some (.struct fs) ∧ fs[f]? = some fd ∧ sizeP P fd.type = some (n + 1) ∧ fd.offset = off ∧ fd.type = u := by
  unfold fieldP at h
  split at h
  · rename_i fs hu
    split at h
    · rename_i fd hfd
      split at h
      · rename_i n hn
        simp only [Option.some.injEq, Prod.mk.injEq] at h
        exact ⟨fs, fd, n, hu, hfd, hn, h.1, h.2⟩
      · simp at h
    · simp at h
  · simp at h

theorem step_fieldAddr {t : TypeId} {x : Operand} {f : Nat} (hs : Holds ρ hF s a w) (hop : o.op = .fieldAddr t x f) (h : stepOp P s o = some r) (hn : ∀ c ∈ r.needs, (c.den ρ).b = true) : StepOk P ρ hF s a w o r := by
  simp only [stepOp, hop] at h
  split at h
  · rename_i rg p c e off u hx hf
    have hev := hs.opd hx
    simp only [Option.some.injEq] at h; subst h
    have ht := there_sound hs hn
    obtain ⟨bo, hb⟩ := Option.isSome_iff_exists.1 ht
    obtain ⟨fs, fd, n, hu, hfd, hsz, rfl, rfl⟩ := fieldP_struct hf
    refine StepOk.quiet hs ?_
    simp only [SV.den, T.den, O1.den, hb, addrOf, Option.map_some] at hev ⊢
    simp [execOp, hop, hev, Instr.fieldAt, Instr.sureAddr, underlying_run hu, hfd, fieldPlace, sizeP_run hsz, addr_add, Nat.add_assoc]
  · simp at h

theorem step_field {t : TypeId} {x : Operand} {f : Nat} (hs : Holds ρ hF s a w) (hop : o.op = .field t x f) (h : stepOp P s o = some r) : StepOk P ρ hF s a w o r := by
  simp only [stepOp, hop] at h
  split at h
  · rename_i cs off u hx hf
    have hev := hs.opd hx
    obtain ⟨fs, fd, n0, hu, hfd, hsz0, rfl, rfl⟩ := fieldP_struct hf
    split at h
    · rename_i n hag hsz
      split at h
      · rename_i hle
        simp only [Option.some.injEq] at h; subst h
        refine StepOk.quiet hs ?_
        simp only [SV.den] at hev ⊢
        simp [execOp, hop, hev, Instr.field, underlying_run hu, hfd, asAgg, part, aggP_run hag, sizeP_run hsz, denVs, List.extract_eq_take_drop]
      · simp at h
    · rename_i hag
      simp only [Option.map_eq_some_iff] at h
      obtain ⟨t', ht', rfl⟩ := h
      refine StepOk.quiet hs ?_
      simp only [SV.den] at hev ⊢
      simp [execOp, hop, hev, Instr.field, underlying_run hu, hfd, asAgg, part, aggP_run hag, denVs, ht']
    · simp at h
  · simp at h

theorem mkPlus_den (x y : T) : ((mkPlus x y).den ρ).i = (x.den ρ).i + (y.den ρ).i := by
  unfold mkPlus
  split
  · rename_i u v hu hv; rw [isLit_eq hu, isLit_eq hv]; simp [T.den, O0.den]
  · rename_i u hu hv
    split
    · rename_i h0; rw [isLit_eq hu, h0]; simp [T.den, O0.den]
    · rfl
  · rename_i u hu hv
    split
    · rename_i h0; rw [isLit_eq hv, h0]; simp [T.den, O0.den]
    · rfl
  · rfl

theorem step_indexAddr {t : TypeId} {x i : Operand} (hs : Holds ρ hF s a w) (hop : o.op = .indexAddr t x i) (h : stepOp P s o = some r) (hn : ∀ c ∈ r.needs, (c.den ρ).b = true) : StepOk P ρ hF s a w o r := by
  simp only [stepOp, hop] at h
  split at h
  · rename_i el rg p off len cap kk j hu hx hi
    have hev := hs.opd hx
    have hei := hs.opd hi
    split at h
    · rename_i n hsz
      split at h
      · rename_i hnp
        have hnp := Nat.eq_of_beq_eq_true hnp
        simp only [Option.some.injEq] at h; subst h
        simp only [List.cons_append, List.nil_append] at hn
        have h0 := mkLe0_den (hn _ (List.mem_cons_self ..))
        have h1 := hn _ (List.mem_cons_of_mem _ (List.mem_cons_self ..))
        rw [mkCmp_den _ _ _ (by simp)] at h1
        have h1 : (j.den ρ).i < (len.den ρ).i := of_decide_eq_true h1
        have h2 := mkLe0_den (hn _ (List.mem_cons_of_mem _ (List.mem_cons_of_mem _ (List.mem_cons_self ..))))
        have ht := there_sound hs (e := mkPlus off j) (fun c hc => hn c (List.mem_cons_of_mem _ (List.mem_cons_of_mem _ (List.mem_cons_of_mem _ hc))))
        obtain ⟨bo, hb⟩ := Option.isSome_iff_exists.1 ht
        refine StepOk.quiet hs ?_
        have hpl : (off.den ρ).i.toNat * p + (j.den ρ).i.toNat * p = ((off.den ρ).i + (j.den ρ).i).toNat * p := by
          rw [← Nat.add_mul]; congr 1; omega
        have hcond : ¬ (max (len.den ρ).i 0 ≤ (j.den ρ).i) := by omega
        simp only [SV.den, T.den, O1.den, O3.den, hb, addrOf, Option.map_some, mkPlus_den] at hev hei ⊢
        subst hnp
        simp [execOp, hop, hev, hei, Instr.indexAt, asIntOf, underlying_run hu, h0, hcond, sizeP_run hsz, addr_add, ← hpl, Nat.add_assoc]
      · simp at h
    · simp at h
  · rename_i m el rg p c e kk j hu hx hi
    have hev := hs.opd hx
    have hei := hs.opd hi
    split at h
    · rename_i n z hsz hz
      split at h
      · rename_i hc
        simp only [Option.some.injEq] at h; subst h
        have ht := there_sound hs hn
        obtain ⟨bo, hb⟩ := Option.isSome_iff_exists.1 ht
        rw [isLit_eq hz] at hei
        refine StepOk.quiet hs ?_
        simp only [SV.den, T.den, O0.den, O1.den, hb, addrOf, Option.map_some] at hev hei ⊢
        simp [execOp, hop, hev, hei, Instr.indexAt, Instr.sureAddr, asIntOf, underlying_run hu, hc, sizeP_run hsz, addr_add, Nat.add_assoc]
      · simp at h
    · simp at h
  · simp at h

theorem mkArith_den (op : BinOp) (k : IntKind) (x y : T) : ((mkArith op k x y).den ρ).i = arithOf op k (x.den ρ).i (y.den ρ).i := by
  unfold mkArith
  split
  · rename_i u v hu hv; rw [isLit_eq hu, isLit_eq hv]; simp [T.den, O0.den]
  · rfl
theorem mkConv_den (k : IntKind) (x : T) : ((mkConv k x).den ρ).i = k.wrap (x.den ρ).i := by
  unfold mkConv
  split
  · rename_i u hu; rw [isLit_eq hu]; simp [T.den, O0.den]
  · rfl
theorem mkNot_den (x : T) : ((mkNot x).den ρ).b = !(x.den ρ).b := by
  unfold mkNot
  split <;> simp [T.den, O0.den, O1.den]
theorem mkBeq_den (x y : T) : ((mkBeq x y).den ρ).b = ((x.den ρ).b == (y.den ρ).b) := by
  unfold mkBeq
  split
  · simp [T.den, O0.den]
  · split
    · rename_i h; rw [T.same_eq h]; simp [T.den, O0.den]
    · rfl
theorem mkMin_den (x y : T) : ((mkMin x y).den ρ).i = if (y.den ρ).i < (x.den ρ).i then (y.den ρ).i else (x.den ρ).i := by
  unfold mkMin
  split
  · rename_i u v hu hv
    rw [isLit_eq hu, isLit_eq hv]
    simp only [T.den, O0.den]
    by_cases h : v < u <;> simp [h]
  · rfl
theorem mkMax_den (x y : T) : ((mkMax x y).den ρ).i = if (y.den ρ).i > (x.den ρ).i then (y.den ρ).i else (x.den ρ).i := by
  unfold mkMax
  split
  · rename_i u v hu hv; rw [isLit_eq hu, isLit_eq hv]; simp [T.den, O0.den]
  · rfl

theorem mkAnd_den (x y : T) : ((mkAnd x y).den ρ).b = ((x.den ρ).b && (y.den ρ).b) := by
  unfold mkAnd; split <;> simp [T.den, O0.den, O2.den]

theorem nilT_den (hs : Holds ρ hF s a w) (r : Nat) : ((nilT s r).den ρ).b = (ρ r).r.isNone := by
  unfold nilT
  split
  · rename_i r' ty cs hf
    obtain ⟨H, _, hro, hreg⟩ := hs.found hf
    simp only [SH.reg, Option.some.injEq] at hreg; subst hreg
    obtain ⟨b, o, c, ty', fr, h1, _⟩ := hro
    simp [T.den, O0.den, h1]
  · rename_i r' ty pat d cap hf
    obtain ⟨H, _, hro, hreg⟩ := hs.found hf
    simp only [SH.reg, Option.some.injEq] at hreg; subst hreg
    rw [mkAnd_den, mkCmp_den _ _ _ (by simp), mkDlen_den]
    rcases hro with ⟨h1, h2⟩ | ⟨b, o, c, ty', fr, h1, _⟩
    · simp [T.den, O0.den, h1, h2, cmpOf]
    · simp [T.den, O0.den, h1]
  · rfl

theorem run_eqGuard_int {op : BinOp} {t : TypeId} {x y : Operand} {k k' : IntKind} {m n : Int} : (eqGuard op t x y (.int k m) (.int k' n)).run P w = .ok () w := by
  unfold eqGuard; split <;> simp
theorem run_eqGuard_bool {op : BinOp} {t : TypeId} {x y : Operand} {m n : Bool} : (eqGuard op t x y (.bool m) (.bool n)).run P w = .ok () w := by
  unfold eqGuard; split <;> simp
theorem run_eqGuard_ptr {op : BinOp} {t : TypeId} {x y : Operand} {m n : Option Addr} : (eqGuard op t x y (.pointer m) (.pointer n)).run P w = .ok () w := by
  unfold eqGuard; split <;> simp

theorem run_eql_bool {ty : TypeId} (hu : P.underlying ty = some .bool) (m n : Bool) : (binOp .eql ty (.bool m) (.bool n)).run P w = .ok (.bool (m == n)) w := by
  simp only [binOp, Op.equal]
  rw [show Op.maxDepth = 9999 + 1 from rfl]
  simp only [Sem.run_bind, run_equalIn_bool' w 9999 ty m n hu, Result.andThen_ok, Sem.run_pure]
theorem run_neq_bool {ty : TypeId} (hu : P.underlying ty = some .bool) (m n : Bool) : (binOp .neq ty (.bool m) (.bool n)).run P w = .ok (.bool (!(m == n))) w := by
  simp only [binOp, Op.equal]
  rw [show Op.maxDepth = 9999 + 1 from rfl]
  simp only [Sem.run_bind, run_equalIn_bool' w 9999 ty m n hu, Result.andThen_ok, Sem.run_pure]
theorem run_equalIn_nilptr (d : Nat) {ty el : TypeId} (hu : P.underlying ty = some (.pointer el)) (m : Option Addr) : (Op.equalIn (d + 1) ty (.pointer m) (.pointer none)).run P w = .ok m.isNone w := by
  unfold Op.equalIn
  simp only [Sem.run_bind, underlying_run hu, Result.andThen_ok]
  cases m <;> simp
theorem run_eql_nilptr {ty el : TypeId} (hu : P.underlying ty = some (.pointer el)) (m : Option Addr) : (binOp .eql ty (.pointer m) (.pointer none)).run P w = .ok (.bool m.isNone) w := by
  have h : binOp .eql ty (.pointer m) (.pointer none) = (do pure (.bool (← Op.equal ty (.pointer m) (.pointer none)))) := by cases m <;> rfl
  rw [h]
  simp only [Op.equal]
  rw [show Op.maxDepth = 9999 + 1 from rfl]
  simp only [Sem.run_bind, run_equalIn_nilptr 9999 hu, Result.andThen_ok, Sem.run_pure]
theorem run_neq_nilptr {ty el : TypeId} (hu : P.underlying ty = some (.pointer el)) (m : Option Addr) : (binOp .neq ty (.pointer m) (.pointer none)).run P w = .ok (.bool (!m.isNone)) w := by
  have h : binOp .neq ty (.pointer m) (.pointer none) = (do pure (.bool (!(← Op.equal ty (.pointer m) (.pointer none))))) := by cases m <;> rfl
  rw [h]
  simp only [Op.equal]
  rw [show Op.maxDepth = 9999 + 1 from rfl]
  simp only [Sem.run_bind, run_equalIn_nilptr 9999 hu, Result.andThen_ok, Sem.run_pure]

theorem run_eqGuard_slice {op : BinOp} {t : TypeId} {x y : Operand} {m n : Option Addr} {i j k l : Nat} : (eqGuard op t x y (.slice m i j) (.slice n k l)).run P w = .ok () w := by
  cases op <;> simp [eqGuard]
theorem run_equalIn_nilslice (d : Nat) {ty el : TypeId} (hu : P.underlying ty = some (.slice el)) (m : Option Addr) (i j : Nat) : (Op.equalIn (d + 1) ty (.slice m i j) (.slice none 0 0)).run P w = .ok m.isNone w := by
  unfold Op.equalIn
  simp only [Sem.run_bind, underlying_run hu, Result.andThen_ok]
  cases m <;> simp
theorem run_eql_nilslice {ty el : TypeId} (hu : P.underlying ty = some (.slice el)) (m : Option Addr) (i j : Nat) : (binOp .eql ty (.slice m i j) (.slice none 0 0)).run P w = .ok (.bool m.isNone) w := by
  have h : binOp .eql ty (.slice m i j) (.slice none 0 0) = (do pure (.bool (← Op.equal ty (.slice m i j) (.slice none 0 0)))) := by cases m <;> rfl
  rw [h]
  simp only [Op.equal]
  rw [show Op.maxDepth = 9999 + 1 from rfl]
  simp only [Sem.run_bind, run_equalIn_nilslice 9999 hu, Result.andThen_ok, Sem.run_pure]
theorem run_neq_nilslice {ty el : TypeId} (hu : P.underlying ty = some (.slice el)) (m : Option Addr) (i j : Nat) : (binOp .neq ty (.slice m i j) (.slice none 0 0)).run P w = .ok (.bool (!m.isNone)) w := by
  have h : binOp .neq ty (.slice m i j) (.slice none 0 0) = (do pure (.bool (!(← Op.equal ty (.slice m i j) (.slice none 0 0))))) := by cases m <;> rfl
  rw [h]
  simp only [Op.equal]
  rw [show Op.maxDepth = 9999 + 1 from rfl]
  simp only [Sem.run_bind, run_equalIn_nilslice 9999 hu, Result.andThen_ok, Sem.run_pure]

/-! ### Structs compared -/

def valOf (P : Program) (ρ : Env) (t : TypeId) (cs : List T) : Value :=
  match aggP P t with
  | some true => .agg (denVs ρ cs).toArray
  | _ => (denVs ρ cs).headD .nilFunc

theorem part_run {t : TypeId} {ag : Bool} {n off : Nat} {cs : List T} (hag : aggP P t = some ag) (hn : sizeP P t = some n) (h1 : (ag || Nat.beq n 1) = true) (hl : off + n ≤ cs.length) (w : World) :
    (part t (denVs ρ cs).toArray off).run P w = .ok (valOf P ρ t ((cs.drop off).take n)) w := by
  cases ag with
  | true => simp [part, aggP_run hag, sizeP_run hn, valOf, hag, denVs, List.extract_eq_take_drop]
  | false =>
    simp only [Bool.false_or] at h1
    have := Nat.eq_of_beq_eq_true h1
    subst this
    have hlt : off < cs.length := by omega
    simp only [part, Sem.run_bind, aggP_run hag, Result.andThen_ok, valOf, hag]
    have e1 : (denVs ρ cs).toArray[off]? = some ((cs[off]).den ρ).v := by simp [denVs, hlt]
    have e2 : (cs.drop off).take 1 = [cs[off]] := by rw [List.drop_eq_getElem_cons hlt]; rfl
    rw [e2]
    simp [e1, denVs, hlt]

theorem eqFs_sound {f : TypeId → List T → List T → Option T} {d : Nat} {cs ds : List T} (hf : ∀ t a b c (w : World), f t a b = some c → (Op.equalIn d t (valOf P ρ t a) (valOf P ρ t b)).run P w = .ok (c.den ρ).b w) :
    ∀ {fs : List Field} {c : T} (w : World), eqFs P f cs ds fs = some c → (Op.eqFields d (denVs ρ cs).toArray (denVs ρ ds).toArray fs).run P w = .ok (c.den ρ).b w
  | [], c, w, h => by simp only [eqFs, Option.some.injEq] at h; subst h; simp [Op.eqFields, T.den, O0.den]
  | x :: fs, c, w, h => by
    simp only [eqFs] at h
    split at h
    · rename_i hname
      split at h
      · rename_i ag n r hag hn hr
        split at h
        · rename_i hc
          simp only [Bool.and_eq_true, Nat.ble_eq] at hc
          simp only [Option.map_eq_some_iff] at h
          obtain ⟨a, ha, rfl⟩ := h
          simp only [Op.eqFields, hname, ne_eq, not_false_eq_true, if_true, Sem.run_bind, part_run (ρ := ρ) hag hn hc.1.1 hc.1.2, part_run (ρ := ρ) hag hn hc.1.1 hc.2, Result.andThen_ok, hf _ _ _ _ _ ha]
          have := eqFs_sound hf w hr
          cases hb : (a.den ρ).b with
          | true => simp [this, mkAnd_den, hb]
          | false => simp [mkAnd_den, hb]
        · simp at h
      · simp at h
    · rename_i hname
      simp only [Op.eqFields, hname, if_false]
      exact eqFs_sound hf w h

theorem eqT_sound : ∀ (n d : Nat), n ≤ d → ∀ (t : TypeId) (cs ds : List T) (c : T) (w : World), eqT P n t cs ds = some c → (Op.equalIn d t (valOf P ρ t cs) (valOf P ρ t ds)).run P w = .ok (c.den ρ).b w := by
  intro n
  induction n with
  | zero => intro d _ t cs ds c w h; simp [eqT] at h
  | succ n ih =>
    intro d hd t cs ds c w h
    obtain ⟨d', rfl⟩ : ∃ d', d = d' + 1 := ⟨d - 1, by omega⟩
    simp only [eqT] at h
    split at h
    · rename_i k0 hu
      split at h
      · rename_i k a k' b
        split at h
        · rename_i hk
          subst hk
          simp only [Option.some.injEq] at h; subst h
          simp only [valOf, aggP, hu, denVs, List.map_cons, List.map_nil, List.headD_cons, T.den, O1.den]
          rw [run_equalIn_int w d' t k k0 _ _ hu, mkCmp_den _ _ _ (by simp)]; rfl
        · simp at h
      · simp at h
    · rename_i hu
      split at h
      · rename_i a b
        simp only [Option.some.injEq] at h; subst h
        simp only [valOf, aggP, hu, denVs, List.map_cons, List.map_nil, List.headD_cons, T.den, O1.den]
        rw [run_equalIn_bool' w d' t _ _ hu, mkBeq_den]
      · simp at h
    · rename_i fs hu
      split at h
      · simp at h
      · rename_i hst
        have hfs : P.fieldsOf t = fs := by simp [Program.fieldsOf, hu]
        simp only [valOf, aggP, hu]
        rw [run_equalIn_struct w d' t _ _ (by rw [hfs]; exact hu) (by simpa using hst), hfs]
        exact eqFs_sound (fun t a b c w hc => ih d' (by omega) t a b c w hc) w h
    · simp at h

theorem eqAgg_sound {t : TypeId} {cs ds : List T} {c : T} (h : eqAgg P t cs ds = some c) : P.eqGuardType P.depth t = false ∧ (Op.equalIn 10000 t (.agg (denVs ρ cs).toArray) (.agg (denVs ρ ds).toArray)).run P w = .ok (c.den ρ).b w := by
  unfold eqAgg at h
  split at h
  · simp at h
  · rename_i hg
    split at h
    · rename_i fs hu
      refine ⟨by simpa using hg, ?_⟩
      have := eqT_sound (P := P) (ρ := ρ) 8 10000 (by omega) t cs ds c w h
      simpa only [valOf, aggP, hu] using this
    · simp at h

theorem isNone_addrOf (r : Option (Nat × Nat)) (n : Nat) : (addrOf r n).isNone = r.isNone := by cases r <;> rfl

theorem step_bin {op : BinOp} {ty u : TypeId} {x y : Operand} (hs : Holds ρ hF s a w) (hop : o.op = .binOp op ty x y u) (h : stepOp P s o = some r) (hn : ∀ c ∈ r.needs, (c.den ρ).b = true) : StepOk P ρ hF s a w o r := by
  simp only [stepOp, hop] at h
  split at h
  · rename_i va vb hx hy
    have hex := hs.opd hx
    have hey := hs.opd hy
    unfold stepBin at h
    split at h
    · rename_i k x1 k' y1
      simp only [SV.den, T.den, O1.den] at hex hey
      split at h
      · simp only [Option.some.injEq] at h; subst h
        have h0 := hn _ (List.mem_singleton.2 rfl)
        rw [mkCmp_den _ _ _ (by simp)] at h0
        have h0 : (y1.den ρ).i ≥ 0 := of_decide_eq_true h0
        refine StepOk.quiet hs ?_
        simp [execOp, hop, hex, hey, run_eqGuard_int, binOp, Op.shift, Int.not_lt.2 h0, SV.den, T.den, O1.den, mkArith_den, arithOf]
      · simp only [Option.some.injEq] at h; subst h
        have h0 := hn _ (List.mem_singleton.2 rfl)
        rw [mkCmp_den _ _ _ (by simp)] at h0
        have h0 : (y1.den ρ).i ≥ 0 := of_decide_eq_true h0
        refine StepOk.quiet hs ?_
        simp [execOp, hop, hex, hey, run_eqGuard_int, binOp, Op.shift, Int.not_lt.2 h0, SV.den, T.den, O1.den, mkArith_den, arithOf]
      all_goals split at h
      all_goals first | (simp at h; done) | skip
      all_goals (rename_i hk; subst hk; simp only [Option.some.injEq] at h; subst h)
      · have h0 := hn _ (List.mem_singleton.2 rfl)
        rw [mkCmp_den _ _ _ (by simp)] at h0
        have h0 : (y1.den ρ).i ≠ 0 := by simpa [cmpOf, T.den, O0.den] using h0
        refine StepOk.quiet hs ?_
        simp [execOp, hop, hex, hey, run_eqGuard_int, binOp, Op.intDiv, h0, SV.den, T.den, O1.den, mkArith_den, arithOf]
      · have h0 := hn _ (List.mem_singleton.2 rfl)
        rw [mkCmp_den _ _ _ (by simp)] at h0
        have h0 : (y1.den ρ).i ≠ 0 := by simpa [cmpOf, T.den, O0.den] using h0
        refine StepOk.quiet hs ?_
        simp [execOp, hop, hex, hey, run_eqGuard_int, binOp, Op.intDiv, h0, SV.den, T.den, O1.den, mkArith_den, arithOf]
      all_goals
        refine StepOk.quiet hs ?_
        first
          | (simp [execOp, hop, hex, hey, run_eqGuard_int, binOp, Op.intArith, Op.intBits, SV.den, T.den, O1.den, mkArith_den, arithOf]; done)
          | (simp [execOp, hop, hex, hey, run_eqGuard_int, binOp, Op.intCmp, SV.den, T.den, O1.den, mkCmp_den, cmpOf]; done)
    · rename_i x1 y1
      simp only [SV.den, T.den, O1.den] at hex hey
      split at h
      · rename_i hu
        simp only [Option.some.injEq] at h; subst h
        refine StepOk.quiet hs ?_
        simp only [execOp, hop, hex, hey, Sem.run_bind, run_eqGuard_bool, run_eql_bool hu, Result.andThen_ok, Sem.run_pure, SV.den, T.den, O1.den, mkBeq_den]
      · rename_i hu
        simp only [Option.some.injEq] at h; subst h
        refine StepOk.quiet hs ?_
        simp only [execOp, hop, hex, hey, Sem.run_bind, run_eqGuard_bool, run_neq_bool hu, Result.andThen_ok, Sem.run_pure, SV.den, T.den, O1.den, mkBeq_den, mkNot_den]
      · simp at h
    · rename_i rg p c e
      simp only [SV.den, T.den, O0.den, O1.den] at hex hey
      split at h
      · rename_i el hu
        simp only [Option.some.injEq] at h; subst h
        refine StepOk.quiet hs ?_
        simp only [execOp, hop, hex, hey, Sem.run_bind, run_eqGuard_ptr, run_eql_nilptr hu, Result.andThen_ok, Sem.run_pure, SV.den, T.den, O1.den, nilT_den hs, isNone_addrOf]
      · rename_i el hu
        simp only [Option.some.injEq] at h; subst h
        refine StepOk.quiet hs ?_
        simp only [execOp, hop, hex, hey, Sem.run_bind, run_eqGuard_ptr, run_neq_nilptr hu, Result.andThen_ok, Sem.run_pure, SV.den, T.den, O1.den, mkNot_den, nilT_den hs, isNone_addrOf]
      · simp at h
    · simp only [SV.den, T.den, O0.den, O1.den] at hex hey
      split at h
      · rename_i el hu
        simp only [Option.some.injEq] at h; subst h
        refine StepOk.quiet hs ?_
        simp only [execOp, hop, hex, hey, Sem.run_bind, run_eqGuard_ptr, run_eql_nilptr hu, Result.andThen_ok, Sem.run_pure, SV.den, T.den, O0.den, O1.den, Option.isNone_none]
      · rename_i el hu
        simp only [Option.some.injEq] at h; subst h
        refine StepOk.quiet hs ?_
        simp only [execOp, hop, hex, hey, Sem.run_bind, run_eqGuard_ptr, run_neq_nilptr hu, Result.andThen_ok, Sem.run_pure, SV.den, T.den, O0.den, O1.den, Option.isNone_none, Bool.not_true]
      · simp at h
    · rename_i rg p off len cap
      simp only [SV.den, T.den, O0.den, O3.den] at hex hey
      split at h
      · rename_i el hu
        simp only [Option.some.injEq] at h; subst h
        refine StepOk.quiet hs ?_
        simp only [execOp, hop, hex, hey, Sem.run_bind, run_eqGuard_slice, run_eql_nilslice hu, Result.andThen_ok, Sem.run_pure, SV.den, T.den, O1.den, nilT_den hs, isNone_addrOf]
      · rename_i el hu
        simp only [Option.some.injEq] at h; subst h
        refine StepOk.quiet hs ?_
        simp only [execOp, hop, hex, hey, Sem.run_bind, run_eqGuard_slice, run_neq_nilslice hu, Result.andThen_ok, Sem.run_pure, SV.den, T.den, O1.den, mkNot_den, nilT_den hs, isNone_addrOf]
      · simp at h
    · simp only [SV.den, T.den, O0.den, O3.den] at hex hey
      split at h
      · rename_i el hu
        simp only [Option.some.injEq] at h; subst h
        refine StepOk.quiet hs ?_
        simp only [execOp, hop, hex, hey, Sem.run_bind, run_eqGuard_slice, run_eql_nilslice hu, Result.andThen_ok, Sem.run_pure, SV.den, T.den, O0.den, O1.den, Option.isNone_none]
      · rename_i el hu
        simp only [Option.some.injEq] at h; subst h
        refine StepOk.quiet hs ?_
        simp only [execOp, hop, hex, hey, Sem.run_bind, run_eqGuard_slice, run_neq_nilslice hu, Result.andThen_ok, Sem.run_pure, SV.den, T.den, O0.den, O1.den, Option.isNone_none, Bool.not_true]
      · simp at h
    · rename_i cs ds
      simp only [SV.den] at hex hey
      split at h
      · rename_i c hc
        simp only [Option.some.injEq] at h; subst h
        obtain ⟨g1, g2⟩ := eqAgg_sound (ρ := ρ) (w := w) hc
        refine StepOk.quiet hs ?_
        simp only [execOp, hop, hex, hey, Sem.run_bind, run_eqGuard_agg w _ _ _ _ _ _ g1, run_eql_struct, g2, Result.andThen_ok, Sem.run_pure, SV.den, T.den, O1.den]
      · rename_i c hc
        simp only [Option.some.injEq] at h; subst h
        obtain ⟨g1, g2⟩ := eqAgg_sound (ρ := ρ) (w := w) hc
        refine StepOk.quiet hs ?_
        simp only [execOp, hop, hex, hey, Sem.run_bind, run_eqGuard_agg w _ _ _ _ _ _ g1, run_neq_struct, g2, Result.andThen_ok, Sem.run_pure, SV.den, T.den, O1.den, mkNot_den]
      · simp at h
    · simp at h
  · simp at h

theorem step_unOp {op : UnOp} {t : TypeId} {x : Operand} (hs : Holds ρ hF s a w) (hop : o.op = .unOp op t x) (h : stepOp P s o = some r) : StepOk P ρ hF s a w o r := by
  simp only [stepOp, hop] at h
  split at h
  · rename_i t' hx
    have hev := hs.opd hx
    simp only [Option.some.injEq] at h; subst h
    refine StepOk.quiet hs ?_
    simp only [SV.den, T.den, O1.den] at hev ⊢
    simp [execOp, hop, hev, Op.unary, mkNot_den]
  · rename_i k t' hx
    have hev := hs.opd hx
    simp only [Option.some.injEq] at h; subst h
    refine StepOk.quiet hs ?_
    simp only [SV.den, T.den, O1.den] at hev ⊢
    simp [execOp, hop, hev, Op.unary, Op.intArith, mkArith_den, arithOf, T.den, O0.den]
  · simp at h

theorem step_convert {src dst : TypeId} {x : Operand} (hs : Holds ρ hF s a w) (hop : o.op = .convert src dst x) (h : stepOp P s o = some r) : StepOk P ρ hF s a w o r := by
  simp only [stepOp, hop] at h
  split at h
  · rename_i d k k' t' hsrc hdst hx
    have hev := hs.opd hx
    simp only [Option.some.injEq] at h; subst h
    refine StepOk.quiet hs ?_
    simp only [SV.den, T.den, O1.den] at hev ⊢
    simp [execOp, hop, hev, convert, underlying_run hsrc, underlying_run hdst, Conv.intToInt, mkConv_den]
  · simp at h

theorem step_extract {x : Operand} {i : Nat} (hs : Holds ρ hF s a w) (hop : o.op = .extract x i) (h : stepOp P s o = some r) : StepOk P ρ hF s a w o r := by
  simp only [stepOp, hop] at h
  split at h
  · rename_i vs hx
    have hev := hs.opd hx
    split at h
    · rename_i ts hi
      simp only [Option.some.injEq] at h; subst h
      refine StepOk.quiet hs ?_
      simp only [SV.den] at hev ⊢
      simp [execOp, hop, hev, Instr.extract, hi, den1]
    · rename_i t' hi
      simp only [Option.some.injEq] at h; subst h
      refine StepOk.quiet hs ?_
      simp only [SV.den] at hev ⊢
      simp [execOp, hop, hev, Instr.extract, hi, den1, denVs]
    · simp at h
  · simp at h

theorem cellsAll_den : ∀ {vs : List SV} {ts : List T}, cellsAll vs = some ts → vs.map (SV.den ρ) = denVs ρ ts
  | [], ts, h => by simp only [cellsAll, Option.some.injEq] at h; subst h; rfl
  | .one t :: r, ts, h => by
    simp only [cellsAll, Option.map_eq_some_iff] at h
    obtain ⟨ts', h1, rfl⟩ := h
    have := cellsAll_den h1
    simp only [List.map_cons, this, denVs, SV.den]
  | .agg _ :: r, ts, h => by simp [cellsAll] at h
  | .tup _ :: r, ts, h => by simp [cellsAll] at h
  | .fn _ _ _ :: r, ts, h => by simp [cellsAll] at h

theorem step_makeFunc {fn : Fn} {first captured : Array Operand} (hs : Holds ρ hF s a w) (hop : o.op = .makeFunc fn first captured) (h : stepOp P s o = some r) : StepOk P ρ hF s a w o r := by
  simp only [stepOp, hop] at h
  split at h
  · rename_i x y hx hy
    simp only [Option.bind_eq_some_iff] at hx hy
    obtain ⟨vx, hx1, hx2⟩ := hx
    obtain ⟨vy, hy1, hy2⟩ := hy
    simp only [Option.some.injEq] at h; subst h
    refine StepOk.quiet hs ?_
    have ex := hs.opds hx1
    have ey := hs.opds hy1
    rw [cellsAll_den hx2] at ex
    rw [cellsAll_den hy2] at ey
    simp only [SV.den]
    simp only [execOp, hop, Instr.makeFunc, Sem.run_bind, Sem.run_pure, Result.andThen_ok]
    rw [← ex, ← ey]
    congr 3
    · apply Array.ext'; simp
    · apply Array.ext'; simp
  · simp at h

theorem step_len {args : Array Operand} {tys : Array TypeId} (hs : Holds ρ hF s a w) (hop : o.op = .call { callee := .builtin .len, args, argTypes := tys }) (h : stepOp P s o = some r) (hn : ∀ c ∈ r.needs, (c.den ρ).b = true) : StepOk P ρ hF s a w o r := by
  simp only [stepOp, hop] at h
  split at h
  · rename_i el x ht ha
    simp only [Option.bind_eq_some_iff] at ht
    obtain ⟨t, ht0, htu⟩ := ht
    have hargs : args = #[x] := by apply Array.ext'; simpa using ha
    split at h
    · rename_i rg p off len cap hx
      have hev := hs.opd hx
      simp only [Option.some.injEq] at h; subst h
      have h0 := mkLe0_den (hn _ (List.mem_singleton.2 rfl))
      refine StepOk.quiet hs ?_
      simp only [SV.den, T.den, O1.den, O3.den] at hev ⊢
      have : ((len.den ρ).i.toNat : Int) = (len.den ρ).i := by omega
      simp [execOp, hop, resolve, invoke, builtin, Builtin.len_, hargs, ht0, underlying_run htu, hev, goInt]
      omega
    · rename_i hx
      have hev := hs.opd hx
      simp only [Option.some.injEq] at h; subst h
      refine StepOk.quiet hs ?_
      simp only [SV.den, T.den, O0.den, O1.den] at hev ⊢
      simp [execOp, hop, resolve, invoke, builtin, Builtin.len_, hargs, ht0, underlying_run htu, hev, goInt]
    · simp at h
  · simp at h

theorem step_min {args : Array Operand} {tys : Array TypeId} (hs : Holds ρ hF s a w) (hop : o.op = .call { callee := .builtin .min, args, argTypes := tys }) (h : stepOp P s o = some r) : StepOk P ρ hF s a w o r := by
  simp only [stepOp, hop] at h
  split at h
  · rename_i k x k' y hx
    have he := hs.opds hx
    simp only [Option.some.injEq] at h; subst h
    refine StepOk.quiet hs ?_
    simp only [List.map_cons, List.map_nil, SV.den, T.den, O1.den] at he ⊢
    have hargs : args.map a.eval = #[.int k (x.den ρ).i, .int k' (y.den ρ).i] := by apply Array.ext'; simpa using he
    simp [execOp, hop, resolve, invoke, builtin, Builtin.min_, hargs, Builtin.min2, mkMin_den]
  · simp at h

theorem step_max {args : Array Operand} {tys : Array TypeId} (hs : Holds ρ hF s a w) (hop : o.op = .call { callee := .builtin .max, args, argTypes := tys }) (h : stepOp P s o = some r) : StepOk P ρ hF s a w o r := by
  simp only [stepOp, hop] at h
  split at h
  · rename_i k x k' y hx
    have he := hs.opds hx
    simp only [Option.some.injEq] at h; subst h
    refine StepOk.quiet hs ?_
    simp only [List.map_cons, List.map_nil, SV.den, T.den, O1.den] at he ⊢
    have hargs : args.map a.eval = #[.int k (x.den ρ).i, .int k' (y.den ρ).i] := by apply Array.ext'; simpa using he
    simp [execOp, hop, resolve, invoke, builtin, Builtin.max_, hargs, Builtin.max2, mkMax_den]
  · simp at h

theorem replaceAt_in {n : Nat} {l vs : List T} {i : Nat} (h : l.all (T.inB n) = true) (h' : vs.all (T.inB n) = true) : (replaceAt l i vs).all (T.inB n) = true := by
  rw [List.all_eq_true] at *
  intro x hx
  unfold replaceAt at hx
  rcases List.mem_append.1 hx with hx | hx
  · rcases List.mem_append.1 hx with hx | hx
    · exact h x (List.mem_of_mem_take hx)
    · exact h' x hx
  · exact h x (List.mem_of_mem_drop hx)

theorem fold_splice (off : Nat) : ∀ (l : List Value) (k : Nat) (cells : Array Value), off + k + l.length ≤ cells.size →
    let r := (l.zipIdx k).foldl (fun (cs : Array Value) (x : Value × Nat) => cs.setIfInBounds (off + x.2) x.1) cells
    r.size = cells.size ∧ ∀ j, r[j]? = if off + k ≤ j ∧ j < off + k + l.length then l[j - (off + k)]? else cells[j]?
  | [], k, cells, _ => ⟨rfl, fun j => by rw [if_neg (by simp)]; rfl⟩
  | v :: l, k, cells, h => by
    simp only [List.length_cons] at h
    have ih := fold_splice off l (k + 1) (cells.setIfInBounds (off + k) v) (by simp only [Array.size_setIfInBounds]; omega)
    simp only [List.zipIdx_cons, List.foldl_cons] at ih ⊢
    refine ⟨by simpa using ih.1, fun j => ?_⟩
    rw [ih.2 j]
    simp only [List.length_cons]
    by_cases hj : j = off + k
    · subst hj
      rw [if_neg (by omega), if_pos (by omega)]
      have : off + k < cells.size := by omega
      simp [this]
    · by_cases hin : off + (k + 1) ≤ j ∧ j < off + (k + 1) + l.length
      · rw [if_pos hin, if_pos (by omega), show j - (off + k) = (j - (off + (k + 1))) + 1 from by omega, List.getElem?_cons_succ]
      · rw [if_neg hin, if_neg (by omega), Array.getElem?_setIfInBounds_ne (fun h => hj h.symm)]

theorem fold_splice_eq (off : Nat) (l : List Value) (cells : List Value) (h : off + l.length ≤ cells.length) :
    l.toArray.zipIdx.foldl (fun (cs : Array Value) (x : Value × Nat) => cs.setIfInBounds (off + x.2) x.1) cells.toArray = (splice cells off l).toArray := by
  have := fold_splice off l 0 cells.toArray (by simpa using h)
  simp only [Nat.add_zero] at this
  have e : l.toArray.zipIdx.foldl (fun (cs : Array Value) (x : Value × Nat) => cs.setIfInBounds (off + x.2) x.1) cells.toArray =
      (l.zipIdx 0).foldl (fun (cs : Array Value) (x : Value × Nat) => cs.setIfInBounds (off + x.2) x.1) cells.toArray := by
    rw [← Array.foldl_toList]; simp
  rw [e]
  apply Array.ext_getElem?
  intro j
  rw [this.2 j]
  simp only [List.getElem?_toArray]
  rw [splice_get h]

/-- Parts, each with its value. -/
def PartsDen (ρ : Env) : List (Nat × List T) → List (Nat × Value) → Prop
  | [], [] => True
  | (i, ts) :: r, (j, v) :: r' => i = j ∧ v.cells = (denVs ρ ts).toArray ∧ PartsDen ρ r r'
  | _, _ => False

theorem fillT_sound {pl : Nat → Option (Nat × Nat)} : ∀ {ps : List (Nat × List T)} {vs : List (Nat × Value)} {z cs : List T}, PartsDen ρ ps vs → fillT pl z ps = some cs →
    Instr.fill pl (denVs ρ z).toArray vs = some (denVs ρ cs).toArray
  | [], [], z, cs, _, h => by simp only [fillT, Option.some.injEq] at h; subst h; rfl
  | (i, ts) :: r, (j, v) :: r', z, cs, hd, h => by
    obtain ⟨rfl, hv, hr⟩ := hd
    simp only [fillT] at h
    split at h
    · simp at h
    · rename_i off size hpl
      split at h
      · rename_i hc
        simp only [Bool.and_eq_true, Nat.ble_eq] at hc
        have hsz := Nat.eq_of_beq_eq_true hc.1
        have hl : (denVs ρ ts).length = ts.length := by simp [denVs]
        have hl2 : (denVs ρ z).length = z.length := by simp [denVs]
        simp only [Instr.fill, hpl, hv]
        rw [if_neg]
        · have := fillT_sound (pl := pl) (z := replaceAt z off ts) hr h
          rw [replaceAt_den] at this
          rw [← this]
          congr 1
          exact fold_splice_eq off _ _ (by rw [hl, hl2]; exact hc.2)
        · simp [hl, hl2, hsz]
          omega
      · simp at h
  | [], _ :: _, _, _, hd, _ => hd.elim
  | _ :: _, [], _, _, hd, _ => hd.elim

theorem partsT_den (hs : Holds ρ hF s a w) : ∀ {l : List (Nat × Operand)} {ps : List (Nat × List T)}, partsT s l = some ps → PartsDen ρ ps (l.map fun x => (x.1, a.eval x.2))
  | [], ps, h => by simp only [partsT, Option.some.injEq] at h; subst h; trivial
  | (i, x) :: r, ps, h => by
    simp only [partsT] at h
    split at h
    · rename_i cs l' hc hl
      simp only [Option.some.injEq] at h; subst h
      simp only [Option.bind_eq_some_iff] at hc
      obtain ⟨v, hv, hcs⟩ := hc
      exact ⟨rfl, by rw [hs.opd hv]; exact cells_den hs.gd hcs, partsT_den hs hl⟩
    · simp at h

theorem placesOf_mapM : ∀ {fs : List Field} {l : List (Nat × Nat)}, placesOf P fs = some l → fs.mapM (fun f => (P.info? f.type).map fun i => (f.offset, i.size)) = some l
  | [], l, h => by simp only [placesOf, Option.some.injEq] at h; subst h; rfl
  | f :: fs, l, h => by
    simp only [placesOf] at h
    split at h
    · rename_i i l' hi hl
      simp only [Option.some.injEq] at h; subst h
      simp [List.mapM_cons, hi, placesOf_mapM hl]
    · simp at h

theorem zeroP_info {t : TypeId} {cs : List T} (h : zeroP P t = some cs) : ∃ i v, P.info? t = some i ∧ i.zero = some v ∧ v.cells = (denVs ρ cs).toArray := by
  unfold zeroP at h
  split at h
  · rename_i v hv
    simp only [Option.bind_eq_some_iff] at hv
    obtain ⟨i, hi, hz⟩ := hv
    exact ⟨i, v, hi, hz, by rw [ofCells_den h]⟩
  · simp at h

theorem step_build {t : TypeId} {parts : Array (Nat × Operand)} (hs : Holds ρ hF s a w) (hop : o.op = .build t parts) (h : stepOp P s o = some r) : StepOk P ρ hF s a w o r := by
  simp only [stepOp, hop] at h
  split at h
  · rename_i z pl ps hz hpl hps
    simp only [Option.map_eq_some_iff] at h
    obtain ⟨cs, hfill, rfl⟩ := h
    refine StepOk.quiet hs ?_
    obtain ⟨i, v, hi, hiz, hzc⟩ := zeroP_info (ρ := ρ) hz
    have hfs := fillT_sound (partsT_den hs hps) hfill
    have hb : P.built t (parts.map fun x => (x.1, a.eval x.2)).toList = some (denVs ρ cs).toArray := by
      rw [Array.toList_map]
      unfold placeP at hpl
      unfold Program.built
      split at hpl
      · rename_i fs hu
        simp only [Option.map_eq_some_iff] at hpl
        obtain ⟨l, hl, rfl⟩ := hpl
        simp only [hi, hu, hiz, placesOf_mapM hl, hzc]
        simpa using hfs
      · rename_i n e hu
        simp only [Option.map_eq_some_iff, sizeP] at hpl
        obtain ⟨n', ⟨ie, hie, rfl⟩, rfl⟩ := hpl
        simp only [hi, hu, hiz, hie, hzc]
        exact hfs
      · simp at hpl
    simp only [SV.den]
    simp only [execOp, hop, Sem.run_bind, run_build w t _ _ hb, Result.andThen_ok, Sem.run_pure]
  · simp at h

theorem repeatT_len (z : List T) : ∀ n, (repeatT z n).length = n * z.length
  | 0 => by simp [repeatT]
  | n + 1 => by simp [repeatT, repeatT_len z n, Nat.add_mul]; omega

theorem repeatT_get (z : List Value) (hz : 0 < z.length) : ∀ (n j : Nat) (l : List T), denVs ρ l = z → j < n * z.length → (denVs ρ (repeatT l n))[j]? = z[j % z.length]?
  | 0, j, l, _, hj => by simp at hj
  | n + 1, j, l, hl, hj => by
    have hd : denVs ρ (repeatT l (n + 1)) = z ++ denVs ρ (repeatT l n) := by simp only [repeatT, denVs, List.map_append] at hl ⊢; rw [hl]
    rw [hd]
    by_cases h : j < z.length
    · rw [List.getElem?_append_left h, Nat.mod_eq_of_lt h]
    · rw [List.getElem?_append_right (by omega), repeatT_get z hz n (j - z.length) l hl (by rw [Nat.add_mul] at hj; omega)]
      rw [Nat.mod_eq_sub_mod (Nat.le_of_not_lt h)]

theorem repeatT_in {n : Nat} {z : List T} (h : z.all (T.inB n) = true) : ∀ m, (repeatT z m).all (T.inB n) = true
  | 0 => rfl
  | m + 1 => by simp [repeatT, List.all_append, h, repeatT_in h m]

theorem fillT_in {n : Nat} {pl : Nat → Option (Nat × Nat)} : ∀ {ps : List (Nat × List T)} {z cs : List T}, z.all (T.inB n) = true → (∀ x ∈ ps, x.2.all (T.inB n) = true) → fillT pl z ps = some cs → cs.all (T.inB n) = true
  | [], z, cs, hz, _, h => by simp only [fillT, Option.some.injEq] at h; subst h; exact hz
  | (i, ts) :: r, z, cs, hz, hp, h => by
    simp only [fillT] at h
    split at h
    · simp at h
    · split at h
      · exact fillT_in (replaceAt_in hz (hp _ (List.mem_cons_self ..))) (fun x hx => hp x (List.mem_cons_of_mem _ hx)) h
      · simp at h

theorem partsT_in (hsc : s.scopedEH = true) : ∀ {l : List (Nat × Operand)} {ps : List (Nat × List T)}, partsT s l = some ps → ∀ x ∈ ps, x.2.all (T.inB s.nx) = true
  | [], ps, h, x, hx => by simp only [partsT, Option.some.injEq] at h; subst h; cases hx
  | (i, y) :: r, ps, h, x, hx => by
    simp only [partsT] at h
    split at h
    · rename_i cs l' hc hl
      simp only [Option.some.injEq] at h; subst h
      simp only [Option.bind_eq_some_iff] at hc
      obtain ⟨v, hv, hcs⟩ := hc
      cases hx with
      | head => exact cells_in hcs (opd_in hsc hv)
      | tail _ hx => exact partsT_in hsc hl x hx
    · simp at h

theorem zeroP_in {t : TypeId} {cs : List T} {n : Nat} (h : zeroP P t = some cs) : cs.all (T.inB n) = true := by
  unfold zeroP at h
  split at h
  · exact ofCells_in h
  · simp at h

theorem step_buildSlice {t : TypeId} {len : Nat} {parts : Array (Nat × Operand)} (hs : Holds ρ hF s a w) (hop : o.op = .buildSlice t len parts) (hsc : s.scopedEH = true) (h : stepOp P s o = some r) : StepOk P ρ hF s a w o r := by
  simp only [stepOp, hop] at h
  split at h
  · rename_i el hu
    split at h
    · rename_i z n ps hz hn hps
      split at h
      · rename_i hc
        simp only [Bool.and_eq_true, Nat.ble_eq, Nat.blt_eq] at hc
        have hzl := Nat.eq_of_beq_eq_true hc.1.1
        split at h
        · rename_i cs hfill
          simp only [Option.some.injEq] at h; subst h
          obtain ⟨i, v, hi, hiz, hzc⟩ := zeroP_info (ρ := ρ) hz
          have hin : i.size = n := by simpa [sizeP, hi] using hn
          have hfs := fillT_sound (partsT_den hs hps) hfill
          have hcin : cs.all (T.inB s.nx) = true := fillT_in (repeatT_in (zeroP_in hz) len) (partsT_in hsc hps) hfill
          have hg : denVs (ρ.set s.nx { r := some (w.heap.size, 0) }) cs = denVs ρ cs := denVs_congr (fun m hm => Env.set_ne ρ _ (by omega)) cs hcin
          have hsh : s.heap.all (SH.inB s.nx) = true := by simp only [S.scopedEH, Bool.and_eq_true] at hsc; exact hsc.2
          have hdl : (denVs ρ z).length = n := by simp [denVs, hzl]
          have hzero : (Array.range (len * n)).map (fun x => (denVs ρ z).toArray[x % (denVs ρ z).toArray.size]!) = (denVs ρ (repeatT z len)).toArray := by
            apply Array.ext_getElem?
            intro j
            by_cases hj : j < len * n
            · have := repeatT_get (ρ := ρ) (denVs ρ z) (by rw [hdl]; exact hc.1.2) len j z rfl (by rw [hdl]; exact hj)
              rw [show (denVs ρ (repeatT z len)).toArray[j]? = (denVs ρ (repeatT z len))[j]? from List.getElem?_toArray, this, hdl]
              have hm : j % n < (denVs ρ z).length := by rw [hdl]; exact Nat.mod_lt _ hc.1.2
              simp [hj, hdl, List.getElem?_eq_getElem hm]
            · rw [Array.getElem?_eq_none (by simp; omega), Array.getElem?_eq_none (by simp [denVs, repeatT_len, hzl]; omega)]
          refine ⟨[{ r := some (w.heap.size, 0) }], _, rfl, by simp [U.good, Value.oneCell'], HeapOk.alloc hs.hp hsh (c := (denVs ρ cs).toArray) (by rw [hg]), ?_, fun h => by cases h⟩
          have hv : SV.den (ρ.set s.nx { r := some (w.heap.size, 0) }) (.one (.vslice s.nx (.lit 0) (.lit len) (.lit len) n)) = .slice (some ⟨w.heap.size, 0, none⟩) len len := by
            simp [SV.den, T.den, O0.den, O3.den, addrOf]
          simp only [Ran, setL, hv]
          have hparts : (parts.map fun x => (x.1, a.eval x.2)).toList = parts.toList.map fun x => (x.1, a.eval x.2) := Array.toList_map ..
          by_cases h0 : len * n = 0
          · have hl0 : len = 0 := by rcases Nat.mul_eq_zero.1 h0 with h | h; exact h; omega
            subst hl0
            have hz0 : (denVs ρ (repeatT z 0)).toArray = #[] := rfl
            rw [hz0] at hfs
            have hfs2 : Instr.fill (fun i => some (i * n, n)) (Array.map (fun _ => (default : Value)) (Array.range 0)) (List.map (fun x => (x.fst, a.eval x.snd)) parts.toList) = some (denVs ρ cs).toArray := by rw [show (Array.map (fun _ => (default : Value)) (Array.range 0)) = #[] from by simp]; exact hfs
            simp [execOp, hop, Instr.buildSlice, underlying_run hu, sizeOf, typeInfo, hi, hin, newRow, hfs2]
          · have hrun := run_buildSlice (P := P) w t el len (parts.map fun x => (x.1, a.eval x.2)) (denVs ρ cs).toArray i v hu hi hiz (by rw [hin]; have := hc.2; omega) (by rw [hin]; exact h0)
              (by rw [hin, hzc, hparts]; rw [hzero]; exact hfs)
            simp only [execOp, hop, Sem.run_bind, Result.andThen_ok, Sem.run_pure]
            rw [show (parts.map fun x => (x.1, a.eval x.2)) = (parts.map fun (i, x) => (i, a.eval x)) from rfl] at hrun
            rw [hrun]
            rfl
        · simp at h
      · simp at h
    · simp at h
  · simp at h

end Go.Eng
