/- Matching: what fits a pattern is what the pattern says, under what it binds. -/
import Derived.Test.YtlmkkphojjodhaaE4b
set_option linter.unusedSimpArgs false
set_option linter.unusedVariables false
namespace Go.Eng
open Go

/-! ### Pieces of memory -/

theorem Hp.disj.symm {a b : Hp} (h : Hp.disj a b) : Hp.disj b a := fun x => (h x).symm
theorem Hp.union_comm {a b : Hp} (h : Hp.disj a b) : Hp.union a b = Hp.union b a := by
  funext x; unfold Hp.union; rcases h x with h | h <;> rw [h] <;> simp
theorem Hp.union_assoc (a b c : Hp) : Hp.union (Hp.union a b) c = Hp.union a (Hp.union b c) := by
  funext x; simp [Hp.union, Option.or_assoc]
theorem Hp.disj_union {a b c : Hp} : Hp.disj a (Hp.union b c) ↔ Hp.disj a b ∧ Hp.disj a c := by
  constructor
  · intro h
    refine ⟨fun x => ?_, fun x => ?_⟩
    · rcases h x with h | h
      · exact .inl h
      · simp only [Hp.union, Option.or_eq_none_iff] at h; exact .inr h.1
    · rcases h x with h | h
      · exact .inl h
      · simp only [Hp.union, Option.or_eq_none_iff] at h; exact .inr h.2
  · rintro ⟨h1, h2⟩ x
    rcases h1 x with h | h
    · exact .inl h
    · rcases h2 x with h' | h'
      · exact .inl h'
      · exact .inr (by simp [Hp.union, h, h'])
theorem Hp.disj_union' {a b c : Hp} : Hp.disj (Hp.union b c) a ↔ Hp.disj b a ∧ Hp.disj c a := by
  rw [show Hp.disj (Hp.union b c) a ↔ Hp.disj a (Hp.union b c) from ⟨Hp.disj.symm, Hp.disj.symm⟩, Hp.disj_union]
  exact ⟨fun h => ⟨h.1.symm, h.2.symm⟩, fun h => ⟨h.1.symm, h.2.symm⟩⟩
theorem Hp.union_emp (a : Hp) : Hp.union a Hp.emp = a := by funext x; simp [Hp.union, Hp.emp]
theorem Hp.emp_union (a : Hp) : Hp.union Hp.emp a = a := by funext x; simp [Hp.union, Hp.emp]
theorem Hp.disj_emp (a : Hp) : Hp.disj a Hp.emp := fun _ => .inr rfl
theorem Hp.emp_disj (a : Hp) : Hp.disj Hp.emp a := fun _ => .inl rfl

theorem Hp.le_refl (a : Hp) : Hp.le a a := fun _ _ h => h
theorem Hp.le_trans {a b c : Hp} (h : Hp.le a b) (h' : Hp.le b c) : Hp.le a c := fun x o hx => h' x o (h x o hx)
theorem Hp.le_left (a b : Hp) : Hp.le a (Hp.union a b) := fun x o h => by simp [Hp.union, h]
theorem Hp.le_right {a b : Hp} (hd : Hp.disj a b) : Hp.le b (Hp.union a b) := fun x o h => by
  rcases hd x with h' | h'
  · simp [Hp.union, h', h]
  · rw [h'] at h; cases h
theorem Hp.sub_le {a b : Hp} {w : World} (h : b.sub w) (hl : Hp.le a b) : a.sub w := fun x o hx => h x o (hl x o hx)

theorem star_take {ρ : Env} : ∀ {l : List SH} {k : Nat} {x : SH} {h : Hp}, star ρ l h → l[k]? = some x →
    ∃ h1 h2, Hp.disj h1 h2 ∧ h = Hp.union h1 h2 ∧ x.den ρ h1 ∧ star ρ (l.eraseIdx k) h2
  | [], k, x, h, _, hx => by simp at hx
  | y :: ys, 0, x, h, ⟨h1, h2, hd, hu, hy, hs⟩, hx => by
    simp only [List.getElem?_cons_zero, Option.some.injEq] at hx
    subst hx
    exact ⟨h1, h2, hd, hu, hy, by simpa using hs⟩
  | y :: ys, k + 1, x, h, ⟨h1, h2, hd, hu, hy, hs⟩, hx => by
    simp only [List.getElem?_cons_succ] at hx
    obtain ⟨g1, g2, gd, gu, gx, gs⟩ := star_take hs hx
    subst hu; subst gu
    rw [Hp.disj_union] at hd
    refine ⟨g1, Hp.union h1 g2, Hp.disj_union.2 ⟨hd.1.symm, gd⟩, ?_, gx, ?_⟩
    · rw [← Hp.union_assoc, ← Hp.union_assoc, Hp.union_comm hd.1]
    · simp only [List.eraseIdx_cons_succ]
      exact ⟨h1, g2, hd.2, rfl, hy, gs⟩

theorem star_set {ρ : Env} : ∀ {l : List SH} {k : Nat} {x x' : SH} {g1 g2 : Hp}, l[k]? = some x → star ρ (l.eraseIdx k) g2 → Hp.disj g1 g2 → x'.den ρ g1 →
    star ρ (l.set k x') (Hp.union g1 g2)
  | [], k, x, x', g1, g2, hx, _, _, _ => by simp at hx
  | y :: ys, 0, x, x', g1, g2, hx, hs, hd, hx' => by
    simp only [List.set_cons_zero]
    exact ⟨g1, g2, hd, rfl, hx', by simpa using hs⟩
  | y :: ys, k + 1, x, x', g1, g2, hx, hs, hd, hx' => by
    simp only [List.getElem?_cons_succ] at hx
    simp only [List.eraseIdx_cons_succ] at hs
    obtain ⟨h1, h2, hd', hu, hy, hs'⟩ := hs
    subst hu
    rw [Hp.disj_union] at hd
    simp only [List.set_cons_succ]
    refine ⟨h1, Hp.union g1 h2, Hp.disj_union.2 ⟨hd.1.symm, hd'⟩, ?_, hy, star_set hx hs' hd.2 hx'⟩
    rw [← Hp.union_assoc, ← Hp.union_assoc, Hp.union_comm hd.1]

theorem star_append {ρ : Env} : ∀ {l l' : List SH} {g1 g2 : Hp}, star ρ l g1 → star ρ l' g2 → Hp.disj g1 g2 → star ρ (l ++ l') (Hp.union g1 g2)
  | [], l', g1, g2, _, h2, hd => by
    simp only [List.nil_append]
    cases l' with
    | nil => trivial
    | cons y ys =>
      obtain ⟨a, b, hd', hu, hy, hs⟩ := h2
      subst hu
      rw [Hp.disj_union] at hd
      refine ⟨a, Hp.union g1 b, Hp.disj_union.2 ⟨hd.1.symm, hd'⟩, ?_, hy, ?_⟩
      · rw [← Hp.union_assoc, ← Hp.union_assoc, Hp.union_comm hd.1]
      · exact star_weaken hs (Hp.le_right hd.2)
  | x :: xs, l', g1, g2, ⟨a, b, hd', hu, hx, hs⟩, h2, hd => by
    subst hu
    rw [Hp.disj_union'] at hd
    exact ⟨a, Hp.union b g2, Hp.disj_union.2 ⟨hd', hd.1⟩, Hp.union_assoc _ _ _, hx, star_append hs h2 hd.2⟩
where
  star_weaken {ρ : Env} : ∀ {l : List SH} {h h' : Hp}, star ρ l h → Hp.le h h' → star ρ l h'
  | [], _, _, _, _ => trivial
  | x :: xs, h, h', ⟨a, b, hd, hu, hx, hs⟩, hl => by
    subst hu
    refine ⟨a, fun y => if (a y).isSome then none else h' y, fun y => ?_, ?_, hx, star_weaken hs fun y o hy => ?_⟩
    · cases ha : a y <;> simp [ha]
    · funext y
      cases ha : a y with
      | none => simp [Hp.union, ha]
      | some o => simp [Hp.union, ha]; exact hl y o (by simp [Hp.union, ha])
    · rcases hd y with h0 | h0
      · simp only [h0, Option.isSome_none, Bool.false_eq_true, if_false]; exact hl y o (by simp [Hp.union, h0, hy])
      · rw [h0] at hy; cases hy

theorem star_weaken {ρ : Env} {l : List SH} {h h' : Hp} (hs : star ρ l h) (hl : Hp.le h h') : star ρ l h' := star_append.star_weaken hs hl

theorem SH.den_ro {ρ : Env} {x : SH} {h H : Hp} (hx : x.den ρ h) (hl : Hp.le h H) : x.roden ρ H := by
  cases x with
  | cells r ty cs =>
    obtain ⟨b, hb, ho⟩ := hx
    exact ⟨b, 0, _, ty, (0, 0), hb, hl _ _ ho, fun k v hv => by simpa using hv⟩
  | arr r ty pat d cap =>
    rcases hx with ⟨h1, h2, _⟩ | ⟨b, c, h1, h2, _, _, h5⟩
    · exact .inl ⟨h1, h2⟩
    · exact .inr ⟨b, 0, c, ty, (0, 0), h1, hl _ _ h2, h5⟩
  | abs n t => exact Hp.le_trans hx hl

theorem SH.ro_mono {ρ : Env} {x : SH} {h H : Hp} (hx : x.roden ρ h) (hl : Hp.le h H) : x.roden ρ H := by
  cases x with
  | cells r ty cs =>
    obtain ⟨b, o, c, ty', fr, hb, ho, hc⟩ := hx
    exact ⟨b, o, c, ty', fr, hb, hl _ _ ho, hc⟩
  | arr r ty pat d cap =>
    rcases hx with ⟨h1, h2⟩ | ⟨b, o, c, ty', fr, h1, h2, h5⟩
    · exact .inl ⟨h1, h2⟩
    · exact .inr ⟨b, o, c, ty', fr, h1, hl _ _ h2, h5⟩
  | abs n t => exact Hp.le_trans hx hl

theorem heapAt_spec {r : Nat} : ∀ {l : List SH} {k : Nat} {x : SH}, heapAt r l = some (k, x) → l[k]? = some x ∧ x.reg = some r
  | [], k, x, h => by simp [heapAt] at h
  | .cells r' ty cs :: l, k, x, h => by
    simp only [heapAt] at h
    split at h
    · rename_i hr
      simp only [Option.some.injEq, Prod.mk.injEq] at h
      obtain ⟨rfl, rfl⟩ := h
      have := Nat.eq_of_beq_eq_true hr
      simp [SH.reg, this]
    · simp only [Option.map_eq_some_iff, Prod.mk.injEq, Prod.exists] at h
      obtain ⟨k', x', h', rfl, rfl⟩ := h
      have := heapAt_spec h'
      simpa using this
  | .arr r' ty pat d cap :: l, k, x, h => by
    simp only [heapAt] at h
    split at h
    · rename_i hr
      simp only [Option.some.injEq, Prod.mk.injEq] at h
      obtain ⟨rfl, rfl⟩ := h
      have := Nat.eq_of_beq_eq_true hr
      simp [SH.reg, this]
    · simp only [Option.map_eq_some_iff, Prod.mk.injEq, Prod.exists] at h
      obtain ⟨k', x', h', rfl, rfl⟩ := h
      have := heapAt_spec h'
      simpa using this
  | .abs n t :: l, k, x, h => by
    simp only [heapAt] at h
    simp only [Option.map_eq_some_iff, Prod.mk.injEq, Prod.exists] at h
    obtain ⟨k', x', h', rfl, rfl⟩ := h
    have := heapAt_spec h'
    simpa using this

/-! ### One binding after another -/

structure Ext (σ σ' : Sg) : Prop where
  th : σ'.th = σ.th
  bd : ∀ n b, look n σ.bd = some b → look n σ'.bd = some b
  eqI : ∀ x ∈ σ.eqI, x ∈ σ'.eqI
  eqB : ∀ x ∈ σ.eqB, x ∈ σ'.eqB
  eqD : ∀ x ∈ σ.eqD, x ∈ σ'.eqD
theorem Ext.refl (σ : Sg) : Ext σ σ := ⟨rfl, fun _ _ h => h, fun _ h => h, fun _ h => h, fun _ h => h⟩
theorem Ext.trans {a b c : Sg} (h : Ext a b) (h' : Ext b c) : Ext a c :=
  ⟨h'.th.trans h.th, fun n x hx => h'.bd n x (h.bd n x hx), fun x hx => h'.eqI x (h.eqI x hx), fun x hx => h'.eqB x (h.eqB x hx), fun x hx => h'.eqD x (h.eqD x hx)⟩

structure Sat (σ : Sg) (ρ : Env) : Prop where
  eqI : ∀ p a, (p, a) ∈ σ.eqI → (p.den (σ.env ρ)).i = (a.den ρ).i
  eqB : ∀ p a, (p, a) ∈ σ.eqB → (p.den (σ.env ρ)).b = (a.den ρ).b
  eqD : ∀ p a, (p, a) ∈ σ.eqD → (p.den (σ.env ρ)).d = (a.den ρ).d

theorem Ext.bind {σ : Sg} {n : Nat} {b : Bd} (h : look n σ.bd = none) : Ext σ (σ.bind n b) :=
  ⟨rfl, fun m x hx => by
    simp only [Sg.bind, look]
    split
    · rename_i hm; rw [Nat.eq_of_beq_eq_true hm, h] at hx; cases hx
    · exact hx, fun _ h => h, fun _ h => h, fun _ h => h⟩
theorem look_bind (σ : Sg) (n : Nat) (b : Bd) : look n (σ.bind n b).bd = some b := by simp [Sg.bind, look]

variable {ρ : Env}

theorem mI_sound (p a : T) (σ : Sg) : Ext σ (mI p a σ) ∧ ∀ σf, Ext (mI p a σ) σf → Sat σf ρ → (p.den (σf.env ρ)).i = (a.den ρ).i := by
  have other : Ext σ { σ with eqI := (p, a) :: σ.eqI } ∧ ∀ σf, Ext { σ with eqI := (p, a) :: σ.eqI } σf → Sat σf ρ → (p.den (σf.env ρ)).i = (a.den ρ).i :=
    ⟨⟨rfl, fun _ _ h => h, fun x h => List.mem_cons_of_mem _ h, fun _ h => h, fun _ h => h⟩, fun σf he hs => hs.eqI p a (he.eqI _ (List.mem_cons_self ..))⟩
  unfold mI
  split
  · rename_i n
    split
    · rename_i hc
      simp only [Bool.and_eq_true, Bool.not_eq_true', Option.isNone_iff_eq_none] at hc
      refine ⟨Ext.bind hc.2, fun σf he _ => ?_⟩
      have hn : ¬ n < σf.th := by rw [he.th]; intro h; rw [show (σ.bind n (.t a)).th = σ.th from rfl] at h; rw [blt_true h] at hc; simp at hc
      simp only [T.den, Sg.env_look hn (he.bd _ _ (look_bind σ n (.t a))), Bd.den]
    · exact other
  · exact other
theorem mB_sound (p a : T) (σ : Sg) : Ext σ (mB p a σ) ∧ ∀ σf, Ext (mB p a σ) σf → Sat σf ρ → (p.den (σf.env ρ)).b = (a.den ρ).b := by
  have other : Ext σ { σ with eqB := (p, a) :: σ.eqB } ∧ ∀ σf, Ext { σ with eqB := (p, a) :: σ.eqB } σf → Sat σf ρ → (p.den (σf.env ρ)).b = (a.den ρ).b :=
    ⟨⟨rfl, fun _ _ h => h, fun _ h => h, fun x h => List.mem_cons_of_mem _ h, fun _ h => h⟩, fun σf he hs => hs.eqB p a (he.eqB _ (List.mem_cons_self ..))⟩
  unfold mB
  split
  · rename_i n
    split
    · rename_i hc
      simp only [Bool.and_eq_true, Bool.not_eq_true', Option.isNone_iff_eq_none] at hc
      refine ⟨Ext.bind hc.2, fun σf he _ => ?_⟩
      have hn : ¬ n < σf.th := by rw [he.th]; intro h; rw [show (σ.bind n (.t a)).th = σ.th from rfl] at h; rw [blt_true h] at hc; simp at hc
      simp only [T.den, Sg.env_look hn (he.bd _ _ (look_bind σ n (.t a))), Bd.den]
    · exact other
  · exact other
theorem mR_sound {p a : Nat} {σ σ' : Sg} (h : mR p a σ = some σ') : Ext σ σ' ∧ ∀ σf, Ext σ' σf → σf.env ρ p = ρ a := by
  unfold mR at h
  by_cases hp : p < σ.th
  · rw [blt_true hp] at h
    simp only [if_true] at h
    split at h
    · rename_i he
      simp only [Option.some.injEq] at h; subst h
      have := Nat.eq_of_beq_eq_true he
      exact ⟨Ext.refl _, fun σf hx => by rw [Sg.env_lt (by rw [hx.th]; exact hp), this]⟩
    · simp at h
  · rw [blt_false hp] at h
    simp only [Bool.false_eq_true, if_false] at h
    split at h
    · rename_i hl
      simp only [Option.some.injEq] at h; subst h
      exact ⟨Ext.bind hl, fun σf hx => by rw [Sg.env_look (by rw [hx.th]; exact hp) (hx.bd _ _ (look_bind _ _ _))]; rfl⟩
    · rename_i a' hl
      split at h
      · rename_i he
        simp only [Option.some.injEq] at h; subst h
        have := Nat.eq_of_beq_eq_true he
        exact ⟨Ext.refl _, fun σf hx => by rw [Sg.env_look (by rw [hx.th]; exact hp) (hx.bd _ _ hl), this]; rfl⟩
      · simp at h
    · simp at h

theorem mNil_sound {p : Nat} {σ σ' : Sg} (h : mNil p σ = some σ') : Ext σ σ' ∧ ∀ σf, Ext σ' σf → (σf.env ρ p).r = none := by
  unfold mNil at h
  by_cases hp : p < σ.th
  · rw [blt_true hp] at h; simp at h
  · rw [blt_false hp] at h
    simp only [Bool.false_eq_true, if_false] at h
    split at h
    · rename_i hl
      simp only [Option.some.injEq] at h; subst h
      exact ⟨Ext.bind hl, fun σf hx => by rw [Sg.env_look (by rw [hx.th]; exact hp) (hx.bd _ _ (look_bind _ _ _))]; rfl⟩
    · rename_i hl
      simp only [Option.some.injEq] at h; subst h
      exact ⟨Ext.refl _, fun σf hx => by rw [Sg.env_look (by rw [hx.th]; exact hp) (hx.bd _ _ hl)]; rfl⟩
    · simp at h

theorem mV_sound {p a : T} {σ σ' : Sg} (h : mV p a σ = some σ') : Ext σ σ' ∧ ∀ σf, Ext σ' σf → Sat σf ρ → (p.den (σf.env ρ)).v = (a.den ρ).v := by
  unfold mV at h
  split at h
  · rename_i k x k' y
    split at h
    · rename_i hk
      simp only [Option.some.injEq] at h; subst h; subst hk
      have := mI_sound (ρ := ρ) x y σ
      exact ⟨this.1, fun σf he hs => by simp only [T.den, O1.den]; rw [this.2 σf he hs]⟩
    · simp at h
  · rename_i x y
    simp only [Option.some.injEq] at h; subst h
    have := mB_sound (ρ := ρ) x y σ
    exact ⟨this.1, fun σf he hs => by simp only [T.den, O1.den]; rw [this.2 σf he hs]⟩
  · rename_i r p c e r' p' c' e'
    split at h
    · rename_i hpc
      obtain ⟨rfl, rfl⟩ := hpc
      simp only [Option.map_eq_some_iff] at h
      obtain ⟨σ1, h1, rfl⟩ := h
      have g1 := mR_sound (ρ := ρ) h1
      have g2 := mI_sound (ρ := ρ) e e' σ1
      exact ⟨g1.1.trans g2.1, fun σf he hs => by simp only [T.den, O1.den]; rw [g2.2 σf he hs, g1.2 σf (g2.1.trans he)]⟩
    · simp at h
  · rename_i r p o l c r' p' o' l' c'
    split at h
    · rename_i hp
      subst hp
      simp only [Option.map_eq_some_iff] at h
      obtain ⟨σ1, h1, rfl⟩ := h
      have g1 := mR_sound (ρ := ρ) h1
      have g2 := mI_sound (ρ := ρ) o o' σ1
      have g3 := mI_sound (ρ := ρ) l l' (mI o o' σ1)
      have g4 := mI_sound (ρ := ρ) c c' (mI l l' (mI o o' σ1))
      exact ⟨((g1.1.trans g2.1).trans g3.1).trans g4.1, fun σf he hs => by
        simp only [T.den, O3.den]
        rw [g2.2 σf ((g3.1.trans g4.1).trans he) hs, g3.2 σf (g4.1.trans he) hs, g4.2 σf he hs, g1.2 σf (((g2.1.trans g3.1).trans g4.1).trans he)]⟩
    · simp at h
  · rename_i r p o l c
    simp only [Option.map_eq_some_iff] at h
    obtain ⟨σ1, h1, rfl⟩ := h
    have g1 := mNil_sound (ρ := ρ) h1
    have g2 := mI_sound (ρ := ρ) o (.lit 0) σ1
    have g3 := mI_sound (ρ := ρ) l (.lit 0) (mI o (.lit 0) σ1)
    have g4 := mI_sound (ρ := ρ) c (.lit 0) (mI l (.lit 0) (mI o (.lit 0) σ1))
    exact ⟨((g1.1.trans g2.1).trans g3.1).trans g4.1, fun σf he hs => by
      simp only [T.den, O3.den, O0.den]
      rw [g3.2 σf (g4.1.trans he) hs, g4.2 σf he hs, g1.2 σf (((g2.1.trans g3.1).trans g4.1).trans he)]
      simp [T.den, O0.den, addrOf]⟩
  · simp only [Option.some.injEq] at h; subst h; exact ⟨Ext.refl _, fun _ _ _ => rfl⟩
  · simp only [Option.some.injEq] at h; subst h; exact ⟨Ext.refl _, fun _ _ _ => rfl⟩
  · rename_i n
    split at h
    · rename_i hc
      simp only [Bool.and_eq_true, Bool.not_eq_true', Option.isNone_iff_eq_none] at hc
      simp only [Option.some.injEq] at h; subst h
      refine ⟨Ext.bind hc.2, fun σf he _ => ?_⟩
      have hn : ¬ n < σf.th := by rw [he.th]; intro h; rw [show (σ.bind n (.t a)).th = σ.th from rfl] at h; rw [blt_true h] at hc; simp at hc
      simp only [T.den, Sg.env_look hn (he.bd _ _ (look_bind σ n (.t a))), Bd.den]
    · split at h
      · rename_i hc
        simp only [Bool.and_eq_true, Nat.blt_eq] at hc
        simp only [Option.some.injEq] at h; subst h
        refine ⟨Ext.refl _, fun σf he _ => ?_⟩
        rw [← T.same_eq hc.2]
        simp only [T.den, Sg.env_lt (show n < σf.th by rw [he.th]; exact hc.1)]
      · simp at h
  · simp at h

theorem mRw_sound : ∀ {p a : T} {σ σ' : Sg}, mRw p a σ = some σ' → Ext σ σ' ∧ ∀ σf, Ext σ' σf → Sat σf ρ → (p.den (σf.env ρ)).d = (a.den ρ).d := by
  intro p
  induction p with
  | c2 o v r _ ih =>
    intro a σ σ' h
    cases a with
    | c2 o' v' r' =>
      cases o <;> cases o' <;> simp only [mRw] at h <;> try (cases h; done)
      simp only [Option.bind_eq_some_iff] at h
      obtain ⟨σ1, h1, h2⟩ := h
      have g1 := mV_sound (ρ := ρ) h1
      have g2 := ih h2
      exact ⟨g1.1.trans g2.1, fun σf he hs => by simp only [T.den, O2.den]; rw [g1.2 σf (g2.1.trans he) hs, g2.2 σf he hs]⟩
    | _ => cases o <;> simp [mRw] at h
  | c0 o =>
    intro a σ σ' h
    cases a with
    | c0 o' =>
      cases o <;> cases o' <;> simp only [mRw] at h <;> try (cases h; done)
      simp only [Option.some.injEq] at h; subst h
      exact ⟨Ext.refl _, fun _ _ _ => rfl⟩
    | _ => cases o <;> simp [mRw] at h
  | _ => intro a σ σ' h; cases a <;> simp [mRw] at h

theorem mD_sound : ∀ (p a : T) (σ : Sg), Ext σ (mD p a σ) ∧ ∀ σf, Ext (mD p a σ) σf → Sat σf ρ → (p.den (σf.env ρ)).d = (a.den ρ).d := by
  have other : ∀ (p a : T) (σ : Sg), Ext σ { σ with eqD := (p, a) :: σ.eqD } ∧ ∀ σf, Ext { σ with eqD := (p, a) :: σ.eqD } σf → Sat σf ρ → (p.den (σf.env ρ)).d = (a.den ρ).d := fun p a σ =>
    ⟨⟨rfl, fun _ _ h => h, fun _ h => h, fun _ h => h, fun x h => List.mem_cons_of_mem _ h⟩, fun σf he hs => hs.eqD p a (he.eqD _ (List.mem_cons_self ..))⟩
  intro p a σ
  fun_induction mD p a σ with
  | case1 n a σ hc =>
    simp only [Bool.and_eq_true, Bool.not_eq_true', Option.isNone_iff_eq_none] at hc
    refine ⟨Ext.bind hc.2, fun σf he _ => ?_⟩
    have hn : ¬ n < σf.th := by rw [he.th]; intro h; rw [show (σ.bind n (.t a)).th = σ.th from rfl] at h; rw [blt_true h] at hc; simp at hc
    simp only [T.den, Sg.env_look hn (he.bd _ _ (look_bind σ n (.t a))), Bd.den]
  | case2 => exact other _ _ _
  | case3 d e r c d' e' r' σ σ1 hr ih =>
    have g1 := mRw_sound (ρ := ρ) hr
    have g3 := mI_sound (ρ := ρ) e e' (mD d d' σ1)
    exact ⟨(g1.1.trans ih.1).trans g3.1, fun σf he hs => by
      simp only [T.den, O3.den]
      rw [g1.2 σf ((ih.1.trans g3.1).trans he) hs, ih.2 σf (g3.1.trans he) hs, g3.2 σf he hs]⟩
  | case4 => exact other _ _ _
  | case5 => exact other _ _ _
  | case6 x y x' y' σ ih1 ih2 =>
    exact ⟨ih1.1.trans ih2.1, fun σf he hs => by
      simp only [T.den, O2.den]
      rw [ih1.2 σf (ih2.1.trans he) hs, ih2.2 σf he hs]⟩
  | case7 v r a σ σ1 hr => exact mRw_sound (ρ := ρ) hr
  | case8 => exact other _ _ _
  | case9 => exact other _ _ _

theorem mVs_sound : ∀ {ps as : List T} {σ σ' : Sg}, mVs ps as σ = some σ' → Ext σ σ' ∧ ∀ σf, Ext σ' σf → Sat σf ρ → denVs (σf.env ρ) ps = denVs ρ as
  | [], [], σ, σ', h => by simp only [mVs, Option.some.injEq] at h; subst h; exact ⟨Ext.refl _, fun _ _ _ => rfl⟩
  | p :: ps, a :: as, σ, σ', h => by
    simp only [mVs, Option.bind_eq_some_iff] at h
    obtain ⟨σ1, h1, h2⟩ := h
    have g1 := mV_sound (ρ := ρ) h1
    have g2 := mVs_sound h2
    exact ⟨g1.1.trans g2.1, fun σf he hs => by
      have := g2.2 σf he hs
      simp only [denVs, List.map_cons] at this ⊢
      rw [this, g1.2 σf (g2.1.trans he) hs]⟩
  | [], _ :: _, σ, σ', h => by simp [mVs] at h
  | _ :: _, [], σ, σ', h => by simp [mVs] at h

theorem mTup_sound : ∀ {ps as : List (Bool × List T)} {σ σ' : Sg}, mSV.mTup ps as σ = some σ' → Ext σ σ' ∧ ∀ σf, Ext σ' σf → Sat σf ρ → ps.map (den1 (σf.env ρ)) = as.map (den1 ρ)
  | [], [], σ, σ', h => by simp only [mSV.mTup, Option.some.injEq] at h; subst h; exact ⟨Ext.refl _, fun _ _ _ => rfl⟩
  | (g, p) :: ps, (g', a) :: as, σ, σ', h => by
    simp only [mSV.mTup] at h
    split at h
    · rename_i hg
      subst hg
      simp only [Option.bind_eq_some_iff] at h
      obtain ⟨σ1, h1, h2⟩ := h
      have g1 := mVs_sound (ρ := ρ) h1
      have g2 := mTup_sound h2
      exact ⟨g1.1.trans g2.1, fun σf he hs => by
        simp only [List.map_cons]
        rw [g2.2 σf he hs]
        have := g1.2 σf (g2.1.trans he) hs
        cases g <;> simp only [den1] <;> rw [this]⟩
    · simp at h
  | [], _ :: _, σ, σ', h => by simp [mSV.mTup] at h
  | _ :: _, [], σ, σ', h => by simp [mSV.mTup] at h

theorem mSV_sound {p a : SV} {σ σ' : Sg} (h : mSV p a σ = some σ') : Ext σ σ' ∧ ∀ σf, Ext σ' σf → Sat σf ρ → p.den (σf.env ρ) = a.den ρ := by
  unfold mSV at h
  split at h
  · have g := mV_sound (ρ := ρ) h
    exact ⟨g.1, fun σf he hs => by simp only [SV.den]; rw [g.2 σf he hs]⟩
  · have g := mVs_sound (ρ := ρ) h
    exact ⟨g.1, fun σf he hs => by simp only [SV.den]; rw [g.2 σf he hs]⟩
  · split at h
    · rename_i hf
      subst hf
      simp only [Option.bind_eq_some_iff] at h
      obtain ⟨σ1, h1, h2⟩ := h
      have g1 := mVs_sound (ρ := ρ) h1
      have g2 := mVs_sound (ρ := ρ) h2
      exact ⟨g1.1.trans g2.1, fun σf he hs => by simp only [SV.den]; rw [g2.2 σf he hs, g1.2 σf (g2.1.trans he) hs]⟩
    · simp at h
  · have g := mTup_sound (ρ := ρ) h
    exact ⟨g.1, fun σf he hs => by simp only [SV.den]; rw [g.2 σf he hs]⟩
  · simp at h

theorem mSVs_sound : ∀ {ps as : List SV} {σ σ' : Sg}, mSVs ps as σ = some σ' → Ext σ σ' ∧ ∀ σf, Ext σ' σf → Sat σf ρ → ps.map (SV.den (σf.env ρ)) = as.map (SV.den ρ)
  | [], [], σ, σ', h => by simp only [mSVs, Option.some.injEq] at h; subst h; exact ⟨Ext.refl _, fun _ _ _ => rfl⟩
  | p :: ps, a :: as, σ, σ', h => by
    simp only [mSVs, Option.bind_eq_some_iff] at h
    obtain ⟨σ1, h1, h2⟩ := h
    have g1 := mSV_sound (ρ := ρ) h1
    have g2 := mSVs_sound h2
    exact ⟨g1.1.trans g2.1, fun σf he hs => by
      simp only [List.map_cons]
      rw [g2.2 σf he hs, g1.2 σf (g2.1.trans he) hs]⟩
  | [], _ :: _, σ, σ', h => by simp [mSVs] at h
  | _ :: _, [], σ, σ', h => by simp [mSVs] at h

theorem mH1_sound {p a : SH} {σ σ' : Sg} (h : mH1 p a σ = some σ') : Ext σ σ' ∧ ∀ σf r r', p.reg = some r → a.reg = some r' → σf.env ρ r = ρ r' → Ext σ' σf → Sat σf ρ →
    (∀ hp, a.den ρ hp → p.den (σf.env ρ) hp) ∧ (∀ hp, a.roden ρ hp → p.roden (σf.env ρ) hp) := by
  unfold mH1 at h
  split at h
  · rename_i r0 ty ps r1 ty' as
    split at h
    · rename_i ht
      have ht := Nat.eq_of_beq_eq_true ht
      subst ht
      have g := mVs_sound (ρ := ρ) h
      refine ⟨g.1, fun σf r r' hr hr' hrr he hs => ?_⟩
      simp only [SH.reg, Option.some.injEq] at hr hr'
      subst hr; subst hr'
      have := g.2 σf he hs
      refine ⟨fun hp => ?_, fun hp => ?_⟩
      · simp only [SH.den]; rw [this, hrr]; exact id
      · simp only [SH.roden]; rw [this, hrr]; exact id
    · simp at h
  · rename_i r0 ty pat d cap r1 ty' pat' d' cap'
    split at h
    · rename_i ht
      simp only [Bool.and_eq_true, decide_eq_true_eq] at ht
      obtain ⟨ht, hpat⟩ := ht
      have ht := Nat.eq_of_beq_eq_true ht
      subst ht; subst hpat
      simp only [Option.some.injEq] at h; subst h
      have g1 := mD_sound (ρ := ρ) d d' σ
      have g2 := mI_sound (ρ := ρ) cap cap' (mD d d' σ)
      refine ⟨g1.1.trans g2.1, fun σf r r' hr hr' hrr he hs => ?_⟩
      simp only [SH.reg, Option.some.injEq] at hr hr'
      subst hr; subst hr'
      have e1 := g1.2 σf (g2.1.trans he) hs
      have e2 := g2.2 σf he hs
      refine ⟨fun hp => ?_, fun hp => ?_⟩
      · simp only [SH.den]; rw [e1, e2, hrr]; exact id
      · simp only [SH.roden]; rw [e1, hrr]; exact id
    · simp at h
  · rename_i r0 ty pat d cap r1 ty' as
    split at h
    · rename_i ht
      simp only [Bool.and_eq_true] at ht
      obtain ⟨⟨ht, hpos⟩, hmod⟩ := ht
      have ht := Nat.eq_of_beq_eq_true ht
      have hmod := Nat.eq_of_beq_eq_true hmod
      simp only [Nat.blt_eq] at hpos
      subst ht
      split at h
      · rename_i D hD
        simp only [Option.some.injEq] at h; subst h
        have g1 := mD_sound (ρ := ρ) d D σ
        have g2 := mI_sound (ρ := ρ) cap (.lit ((as.length / pat.length : Nat) : Int)) (mD d D σ)
        refine ⟨g1.1.trans g2.1, fun σf r r' hr hr' hrr he hs => ?_⟩
        simp only [SH.reg, Option.some.injEq] at hr hr'
        subst hr; subst hr'
        have e1 := g1.2 σf (g2.1.trans he) hs
        have e2 := g2.2 σf he hs
        obtain ⟨l1, l2, l3⟩ := rowsLit_den (ρ := ρ) rfl hD
        have hlen : (as.length / pat.length) * pat.length = as.length := by
          have := Nat.div_add_mod as.length pat.length
          rw [hmod, Nat.mul_comm] at this; omega
        refine ⟨fun hp hx => ?_, fun hp hx => ?_⟩
        · obtain ⟨b, h1, h2⟩ := hx
          refine .inr ⟨b, _, by rw [hrr]; exact h1, h2, ?_, ?_, ?_⟩
          · rw [e2]; show _ = (((as.length / pat.length : Nat) : Int)).toNat * pat.length; rw [Int.toNat_natCast, hlen]; simp [denVs]
          · rw [e1, e2, l1]; exact Int.le_refl _
          · rw [e1]; exact rowsAt_of_flat l3 (fun j v hv => by rw [l2] at hv; simpa using hv)
        · obtain ⟨b, o, c, ty', fr, h1, h2, h3⟩ := hx
          refine .inr ⟨b, o, c, ty', fr, by rw [hrr]; exact h1, h2, ?_⟩
          rw [e1]; exact rowsAt_of_flat l3 (fun j v hv => by rw [l2] at hv; exact h3 j v hv)
      · simp at h
    · simp at h
  · simp at h

/-- What is found among the heap assertions, owned or only read. -/
theorem isAbs_spec {p : SH} {n t : Nat} (h : p.isAbs = some (n, t)) : p = .abs n t := by
  cases p <;> simp_all [SH.isAbs]
theorem absAt_spec {t : Nat} : ∀ {l : List SH} {k m : Nat}, absAt t l = some (k, m) → l[k]? = some (.abs m t)
  | [], k, m, h => by simp [absAt] at h
  | .abs m' t' :: l, k, m, h => by
    simp only [absAt] at h
    split at h
    · rename_i ht
      simp only [Option.some.injEq, Prod.mk.injEq] at h
      obtain ⟨rfl, rfl⟩ := h
      rw [Nat.eq_of_beq_eq_true ht]; rfl
    · simp only [Option.map_eq_some_iff, Prod.mk.injEq, Prod.exists] at h
      obtain ⟨k', x', h', rfl, rfl⟩ := h
      simpa using absAt_spec h'
  | .cells _ _ _ :: l, k, m, h => by
    simp only [absAt, Option.map_eq_some_iff, Prod.mk.injEq, Prod.exists] at h
    obtain ⟨k', x', h', rfl, rfl⟩ := h
    simpa using absAt_spec h'
  | .arr _ _ _ _ _ :: l, k, m, h => by
    simp only [absAt, Option.map_eq_some_iff, Prod.mk.injEq, Prod.exists] at h
    obtain ⟨k', x', h', rfl, rfl⟩ := h
    simpa using absAt_spec h'
theorem mHs_own : ∀ {ps h ro rest : List SH} {σ σ' : Sg} {hO : Hp}, mHs true ps h ro σ = some (rest, σ') → star ρ h hO → Ext σ σ' ∧ ∀ σf, Ext σ' σf → Sat σf ρ →
    ∃ h1 h2, Hp.disj h1 h2 ∧ hO = Hp.union h1 h2 ∧ star (σf.env ρ) ps h1 ∧ star ρ rest h2
  | [], h, ro, rest, σ, σ', hO, hm, hs => by
    simp only [mHs, Option.some.injEq, Prod.mk.injEq] at hm
    obtain ⟨rfl, rfl⟩ := hm
    exact ⟨Ext.refl _, fun _ _ _ => ⟨Hp.emp, hO, Hp.emp_disj _, (Hp.emp_union _).symm, trivial, hs⟩⟩
  | p :: ps, h, ro, rest, σ, σ', hO, hm, hs => by
    simp only [mHs] at hm
    split at hm
    · rename_i n t hp
      have hp := isAbs_spec hp
      subst hp
      split at hm
      · rename_i k m hat
        simp only [Option.bind_eq_some_iff, if_true] at hm
        obtain ⟨σ1, h1, h2⟩ := hm
        have hk := absAt_spec hat
        have g1 := mR_sound (ρ := ρ) h1
        obtain ⟨t1, t2, td, tu, tx, ts⟩ := star_take hs hk
        have g2 := mHs_own h2 ts
        refine ⟨g1.1.trans g2.1, fun σf he hsat => ?_⟩
        obtain ⟨u1, u2, ud, uu, a1, a2⟩ := g2.2 σf he hsat
        have hx : SH.den (σf.env ρ) (.abs n t) t1 := by
          simp only [SH.den]
          rw [g1.2 σf (g2.1.trans he)]; exact tx
        subst tu; subst uu
        rw [Hp.disj_union] at td
        exact ⟨Hp.union t1 u1, u2, Hp.disj_union'.2 ⟨td.2, ud⟩, (Hp.union_assoc _ _ _).symm, ⟨t1, u1, td.1, rfl, hx, a1⟩, a2⟩
      · simp at hm
    split at hm
    · simp at hm
    · rename_i r hr
      split at hm
      · rename_i hc
        simp only [Bool.and_eq_true, Bool.not_eq_true'] at hc
        obtain ⟨hc1, hc2⟩ := hc
        have hn : ¬ r < σ.th := fun h => by rw [blt_true h] at hc1; cases hc1
        have hl : look r σ.bd = some .nil := by
          revert hc2; cases hl : look r σ.bd with
          | none => simp [isNilBd]
          | some b => cases b <;> simp [isNilBd]
        split at hm
        · rename_i r' ty pat d cap _
          simp only [SH.reg, Option.some.injEq] at hr; subst hr
          have g1 := mD_sound (ρ := ρ) d .dnil σ
          have g2 := mI_sound (ρ := ρ) cap (.lit 0) (mD d .dnil σ)
          have g3 := mHs_own hm hs
          refine ⟨(g1.1.trans g2.1).trans g3.1, fun σf he hsat => ?_⟩
          obtain ⟨h1, h2, hd, hu, a1, a2⟩ := g3.2 σf he hsat
          refine ⟨h1, h2, hd, hu, ⟨Hp.emp, h1, Hp.emp_disj _, (Hp.emp_union _).symm, .inl ⟨?_, ?_, ?_⟩, a1⟩, a2⟩
          · rw [Sg.env_look (by rw [he.th, g3.1.th, g2.1.th, g1.1.th]; exact hn) (he.bd _ _ (g3.1.bd _ _ (g2.1.bd _ _ (g1.1.bd _ _ hl))))]; rfl
          · rw [g1.2 σf ((g2.1.trans g3.1).trans he) hsat]; rfl
          · rw [g2.2 σf (g3.1.trans he) hsat]; rfl
        · simp at hm
      · split at hm
        · simp at hm
        · rename_i r' hreg
          split at hm
          · rename_i k a hat
            simp only [Option.bind_eq_some_iff, if_true] at hm
            obtain ⟨σ1, h1, h2⟩ := hm
            obtain ⟨hk, ha⟩ := heapAt_spec hat
            have g1 := mH1_sound (ρ := ρ) h1
            obtain ⟨t1, t2, td, tu, tx, ts⟩ := star_take hs hk
            have g2 := mHs_own h2 ts
            refine ⟨g1.1.trans g2.1, fun σf he hsat => ?_⟩
            obtain ⟨u1, u2, ud, uu, a1, a2⟩ := g2.2 σf he hsat
            have hrr : σf.env ρ r = ρ r' := by
              have hx : Ext σ σf := (g1.1.trans g2.1).trans he
              unfold Sg.reg at hreg
              by_cases hlt : r < σ.th
              · rw [blt_true hlt] at hreg
                simp only [if_true, Option.some.injEq] at hreg
                rw [Sg.env_lt (by rw [hx.th]; exact hlt), hreg]
              · rw [blt_false hlt] at hreg
                simp only [Bool.false_eq_true, if_false] at hreg
                split at hreg
                · rename_i m hl
                  simp only [Option.some.injEq] at hreg
                  rw [Sg.env_look (by rw [hx.th]; exact hlt) (hx.bd _ _ hl), ← hreg]; rfl
                · simp at hreg
            have hx := (g1.2 σf r r' hr ha hrr (g2.1.trans he) hsat).1 t1 tx
            subst tu; subst uu
            rw [Hp.disj_union] at td
            refine ⟨Hp.union t1 u1, u2, Hp.disj_union'.2 ⟨td.2, ud⟩, (Hp.union_assoc _ _ _).symm, ⟨t1, u1, td.1, rfl, hx, a1⟩, a2⟩
          · simp at hm

theorem reg_ext {σ σf : Sg} {r r' : Nat} (hreg : σ.reg r = some r') (hx : Ext σ σf) : σf.env ρ r = ρ r' := by
  unfold Sg.reg at hreg
  by_cases hlt : r < σ.th
  · rw [blt_true hlt] at hreg
    simp only [if_true, Option.some.injEq] at hreg
    rw [Sg.env_lt (by rw [hx.th]; exact hlt), hreg]
  · rw [blt_false hlt] at hreg
    simp only [Bool.false_eq_true, if_false] at hreg
    split at hreg
    · rename_i m hl
      simp only [Option.some.injEq] at hreg
      rw [Sg.env_look (by rw [hx.th]; exact hlt) (hx.bd _ _ hl), ← hreg]; rfl
    · simp at hreg

theorem mHs_ro : ∀ {ps h ro rest : List SH} {σ σ' : Sg} {hF hO H : Hp}, mHs false ps h ro σ = some (rest, σ') → star ρ h hO → (∀ x ∈ ro, x.roden ρ hF) → Hp.le hO H → Hp.le hF H →
    Ext σ σ' ∧ rest = h ∧ ∀ σf, Ext σ' σf → Sat σf ρ → ∀ p ∈ ps, p.roden (σf.env ρ) H
  | [], h, ro, rest, σ, σ', hF, hO, H, hm, hs, hr, _, _ => by
    simp only [mHs, Option.some.injEq, Prod.mk.injEq] at hm
    obtain ⟨rfl, rfl⟩ := hm
    exact ⟨Ext.refl _, rfl, fun _ _ _ p hp => by cases hp⟩
  | p :: ps, h, ro, rest, σ, σ', hF, hO, H, hm, hs, hro, hl1, hl2 => by
    simp only [mHs] at hm
    split at hm
    · rename_i n t hp
      have hp := isAbs_spec hp
      subst hp
      split at hm
      · rename_i k m hat
        simp only [Option.bind_eq_some_iff, Bool.false_eq_true, if_false] at hm
        obtain ⟨σ1, h1, h2⟩ := hm
        have hk := absAt_spec hat
        have g1 := mR_sound (ρ := ρ) h1
        have g2 := mHs_ro h2 hs hro hl1 hl2
        refine ⟨g1.1.trans g2.1, g2.2.1, fun σf he hsat q hq => ?_⟩
        cases hq with
        | head =>
          obtain ⟨t1, t2, td, tu, tx, ts⟩ := star_take hs hk
          simp only [SH.roden]
          rw [g1.2 σf (g2.1.trans he)]
          exact Hp.le_trans tx (Hp.le_trans (tu ▸ Hp.le_left t1 t2) hl1)
        | tail _ hq => exact g2.2.2 σf he hsat q hq
      · simp only [Bool.false_eq_true, if_false] at hm
        split at hm
        · rename_i k m hat
          simp only [Option.bind_eq_some_iff] at hm
          obtain ⟨σ1, h1, h2⟩ := hm
          have hk := absAt_spec hat
          have g1 := mR_sound (ρ := ρ) h1
          have g2 := mHs_ro h2 hs hro hl1 hl2
          refine ⟨g1.1.trans g2.1, g2.2.1, fun σf he hsat q hq => ?_⟩
          cases hq with
          | head =>
            simp only [SH.roden]
            rw [g1.2 σf (g2.1.trans he)]
            exact Hp.le_trans (hro _ (List.mem_of_getElem? hk)) hl2
          | tail _ hq => exact g2.2.2 σf he hsat q hq
        · simp at hm
    split at hm
    · simp at hm
    · rename_i r hr
      split at hm
      · rename_i hc
        simp only [Bool.and_eq_true, Bool.not_eq_true'] at hc
        obtain ⟨hc1, hc2⟩ := hc
        have hn : ¬ r < σ.th := fun h => by rw [blt_true h] at hc1; cases hc1
        have hl : look r σ.bd = some .nil := by
          revert hc2; cases hl : look r σ.bd with
          | none => simp [isNilBd]
          | some b => cases b <;> simp [isNilBd]
        split at hm
        · rename_i r' ty pat d cap _
          simp only [SH.reg, Option.some.injEq] at hr; subst hr
          have g1 := mD_sound (ρ := ρ) d .dnil σ
          have g2 := mI_sound (ρ := ρ) cap (.lit 0) (mD d .dnil σ)
          have g3 := mHs_ro hm hs hro hl1 hl2
          refine ⟨(g1.1.trans g2.1).trans g3.1, g3.2.1, fun σf he hsat q hq => ?_⟩
          cases hq with
          | head =>
            refine .inl ⟨?_, ?_⟩
            · rw [Sg.env_look (by rw [he.th, g3.1.th, g2.1.th, g1.1.th]; exact hn) (he.bd _ _ (g3.1.bd _ _ (g2.1.bd _ _ (g1.1.bd _ _ hl))))]; rfl
            · rw [g1.2 σf ((g2.1.trans g3.1).trans he) hsat]; rfl
          | tail _ hq => exact g3.2.2 σf he hsat q hq
        · simp at hm
      · split at hm
        · simp at hm
        · rename_i r' hreg
          split at hm
          · rename_i k a hat
            simp only [Option.bind_eq_some_iff, Bool.false_eq_true, if_false] at hm
            obtain ⟨σ1, h1, h2⟩ := hm
            obtain ⟨hk, ha⟩ := heapAt_spec hat
            have g1 := mH1_sound (ρ := ρ) h1
            have g2 := mHs_ro h2 hs hro hl1 hl2
            refine ⟨g1.1.trans g2.1, g2.2.1, fun σf he hsat q hq => ?_⟩
            cases hq with
            | head =>
              obtain ⟨t1, t2, td, tu, tx, ts⟩ := star_take hs hk
              have hrr := reg_ext (ρ := ρ) hreg ((g1.1.trans g2.1).trans he)
              refine (g1.2 σf r r' hr ha hrr (g2.1.trans he) hsat).2 H (SH.den_ro tx ?_)
              exact Hp.le_trans (tu ▸ Hp.le_left t1 t2) hl1
            | tail _ hq => exact g2.2.2 σf he hsat q hq
          · simp only [Bool.false_eq_true, if_false] at hm
            split at hm
            · rename_i k a hat
              simp only [Option.bind_eq_some_iff] at hm
              obtain ⟨σ1, h1, h2⟩ := hm
              obtain ⟨hk, ha⟩ := heapAt_spec hat
              have g1 := mH1_sound (ρ := ρ) h1
              have g2 := mHs_ro h2 hs hro hl1 hl2
              refine ⟨g1.1.trans g2.1, g2.2.1, fun σf he hsat q hq => ?_⟩
              cases hq with
              | head =>
                have hrr := reg_ext (ρ := ρ) hreg ((g1.1.trans g2.1).trans he)
                exact (g1.2 σf r r' hr ha hrr (g2.1.trans he) hsat).2 H (SH.ro_mono (hro a (List.mem_of_getElem? hk)) hl2)
              | tail _ hq => exact g2.2.2 σf he hsat q hq
            · simp at hm

theorem mHs_ro_ext : ∀ {ps h ro rest : List SH} {σ σ' : Sg}, mHs false ps h ro σ = some (rest, σ') → Ext σ σ'
  | [], h, ro, rest, σ, σ', hm => by
    simp only [mHs, Option.some.injEq, Prod.mk.injEq] at hm
    obtain ⟨rfl, rfl⟩ := hm
    exact Ext.refl _
  | p :: ps, h, ro, rest, σ, σ', hm => by
    simp only [mHs] at hm
    split at hm
    · split at hm
      · simp only [Option.bind_eq_some_iff, Bool.false_eq_true, if_false] at hm
        obtain ⟨σ1, h1, h2⟩ := hm
        exact (mR_sound (ρ := fun _ => {}) h1).1.trans (mHs_ro_ext h2)
      · simp only [Bool.false_eq_true, if_false] at hm
        split at hm
        · simp only [Option.bind_eq_some_iff] at hm
          obtain ⟨σ1, h1, h2⟩ := hm
          exact (mR_sound (ρ := fun _ => {}) h1).1.trans (mHs_ro_ext h2)
        · simp at hm
    split at hm
    · simp at hm
    · rename_i r hr
      split at hm
      · split at hm
        · rename_i r' ty pat d cap _
          exact ((mD_sound (ρ := fun _ => {}) d .dnil σ).1.trans (mI_sound (ρ := fun _ => {}) cap (.lit 0) (mD d .dnil σ)).1).trans (mHs_ro_ext hm)
        · simp at hm
      · split at hm
        · simp at hm
        · split at hm
          · simp only [Option.bind_eq_some_iff, Bool.false_eq_true, if_false] at hm
            obtain ⟨σ1, h1, h2⟩ := hm
            exact (mH1_sound (ρ := fun _ => {}) h1).1.trans (mHs_ro_ext h2)
          · simp only [Bool.false_eq_true, if_false] at hm
            split at hm
            · simp only [Option.bind_eq_some_iff] at hm
              obtain ⟨σ1, h1, h2⟩ := hm
              exact (mH1_sound (ρ := fun _ => {}) h1).1.trans (mHs_ro_ext h2)
            · simp at hm

/-- What was left to be compared, once its conditions are true. -/
theorem eqs_sound {σ : Sg} (f : T → T → Option T) (R : T → T → Prop) (hsame : ∀ p p' a, σ.sub p = some p' → p'.same a = true → R p a)
    (hf : ∀ p p' a c, σ.sub p = some p' → f p' a = some c → (c.den ρ).b = true → R p a) :
    ∀ {l : List (T × T)} {cs : List T}, σ.eqs f l = some cs → (∀ c ∈ cs, (c.den ρ).b = true) → ∀ p a, (p, a) ∈ l → R p a
  | [], _, _, _, p, a, h => by cases h
  | (p, a) :: r, cs, hm, hc, q, b, hq => by
    simp only [Sg.eqs] at hm
    split at hm
    · rename_i p' cs' hp hcs
      split at hm
      · rename_i hs
        simp only [Option.some.injEq] at hm; subst hm
        cases hq with
        | head => exact hsame _ _ _ hp hs
        | tail _ hq => exact eqs_sound f R hsame hf hcs hc q b hq
      · split at hm
        · rename_i c hfc
          simp only [Option.some.injEq] at hm; subst hm
          cases hq with
          | head => exact hf _ _ _ _ hp hfc (hc c (List.mem_cons_self ..))
          | tail _ hq => exact eqs_sound f R hsame hf hcs (fun c h => hc c (List.mem_cons_of_mem _ h)) q b hq
        · simp at hm
    · simp at hm

end Go.Eng
