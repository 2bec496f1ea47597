/- The tree's meaning, and that the whole walk is sound. -/
import Derived.Test.YtlmkkphojjodhaaE8d
set_option linter.unusedSimpArgs false
set_option linter.unusedVariables false
namespace Go.Eng
open Go
variable {P : Program} {ρ : Env} {hF : Fr} {s : S} {a : Act} {w : World}

/-! ### Scopes by a predicate -/

theorem T.den_congrS {p : Nat → Bool} {ρ ρ' : Env} (h : ∀ m, p m = true → ρ m = ρ' m) : ∀ (t : T), t.inS p = true → t.den ρ = t.den ρ'
  | .var m, hb => by simp [T.inS] at hb; simpa [T.den] using h m hb
  | .c0 o, hb => by
    cases o <;> simp_all [T.inS, T.den, O0.den]
  | .c1 o a, hb => by
    cases o <;> (simp only [T.inS, Bool.and_eq_true] at hb) <;>
      first
        | (simp only [T.den]; rw [T.den_congrS h a hb]; rfl)
        | (simp only [T.den]; rw [T.den_congrS h a hb.2]; simp [O1.den, h _ hb.1])
  | .c2 o a b, hb => by
    simp only [T.inS, Bool.and_eq_true] at hb
    simp only [T.den]; rw [T.den_congrS h a hb.1, T.den_congrS h b hb.2]
  | .c3 o a b c, hb => by
    cases o <;> (simp only [T.inS, Bool.and_eq_true] at hb)
    · simp only [T.den]; rw [T.den_congrS h a hb.1.1.2, T.den_congrS h b hb.1.2, T.den_congrS h c hb.2]; simp [O3.den, h _ hb.1.1.1]
    · simp only [T.den]; rw [T.den_congrS h a hb.1.1, T.den_congrS h b hb.1.2, T.den_congrS h c hb.2]; rfl
  | .ife a b x y, hb => by
    simp only [T.inS, Bool.and_eq_true] at hb
    simp only [T.den]; rw [T.den_congrS h a hb.1.1.1, T.den_congrS h b hb.1.1.2, T.den_congrS h x hb.1.2, T.den_congrS h y hb.2]

theorem denVs_congrS {p : Nat → Bool} {ρ ρ' : Env} (h : ∀ m, p m = true → ρ m = ρ' m) (ts : List T) (hb : ts.all (T.inS p) = true) : denVs ρ ts = denVs ρ' ts := by
  unfold denVs
  refine List.map_congr_left fun t ht => ?_
  rw [T.den_congrS h t (List.all_eq_true.1 hb t ht)]

theorem SV.den_congrS {p : Nat → Bool} {ρ ρ' : Env} (h : ∀ m, p m = true → ρ m = ρ' m) (v : SV) (hb : v.inS p = true) : v.den ρ = v.den ρ' := by
  cases v with
  | one t => simp only [SV.inS] at hb; simp only [SV.den]; rw [T.den_congrS h t hb]
  | agg ts => simp only [SV.inS] at hb; simp only [SV.den]; rw [denVs_congrS h ts hb]
  | tup vs =>
    simp only [SV.inS] at hb; simp only [SV.den]
    congr 2
    refine List.map_congr_left fun x hx => ?_
    have := List.all_eq_true.1 hb x hx
    obtain ⟨g, ts⟩ := x
    cases g <;> simp only [den1] <;> rw [denVs_congrS h ts this]
  | fn f a b =>
    simp only [SV.inS, Bool.and_eq_true] at hb; simp only [SV.den]
    rw [denVs_congrS h a hb.1, denVs_congrS h b hb.2]

theorem SH.den_congrS {p : Nat → Bool} {ρ ρ' : Env} (h : ∀ m, p m = true → ρ m = ρ' m) (x : SH) (hb : x.inS p = true) (hp : Hp) : x.den ρ hp ↔ x.den ρ' hp := by
  cases x with
  | cells r ty cs => simp only [SH.inS, Bool.and_eq_true] at hb; simp only [SH.den]; rw [denVs_congrS h cs hb.2, h r hb.1]
  | arr r ty pat d cap =>
    simp only [SH.inS, Bool.and_eq_true] at hb; simp only [SH.den]
    rw [T.den_congrS h d hb.1.2, T.den_congrS h cap hb.2, h r hb.1.1]
  | abs m t => simp only [SH.inS] at hb; simp only [SH.den]; rw [h m hb]

theorem star_congrS {p : Nat → Bool} {ρ ρ' : Env} (h : ∀ m, p m = true → ρ m = ρ' m) : ∀ (l : List SH), l.all (SH.inS p) = true → ∀ hp, star ρ l hp → star ρ' l hp
  | [], _, _, _ => trivial
  | x :: xs, hb, hp, ⟨h1, h2, hd, hu, hx, hs⟩ => by
    simp only [List.all_cons, Bool.and_eq_true] at hb
    exact ⟨h1, h2, hd, hu, (SH.den_congrS h x hb.1 h1).1 hx, star_congrS h xs hb.2 h2 hs⟩

/-! ### What a tree says -/

def mixE (nv k base : Nat) (ρ1 ρ : Env) : Env := fun n => if n < nv then ρ1 n else if n < nv + k then ρ (base + (n - nv)) else {}
def Env.upto (n : Nat) (ρ : Env) : Env := fun m => if m < n then ρ m else {}
def cutE (base nv : Nat) (ρ : Env) : Env := fun n => if n < 1000 then (if n < base then ρ n else {}) else if n < 1000 + nv then ρ n else {}
def relE (base nv : Nat) (ρ : Env) : Env := fun n => if n < 1000 then (if n < base then ρ n else {}) else if n < 1000 + nv then ρ (base + (n - 1000)) else {}

def Out.den (E : Ctx) : Out → Env → Prop
  | .stuck _ _ _, _ => False
  | .need c o, ρ => (c.den ρ).b = true ∧ o.den E ρ
  | .br c x y, ρ => ((c.den ρ).b = true → x.den E ρ) ∧ ((c.den ρ).b = false → y.den E ρ)
  | .fresh n o, ρ => ∀ u : U, u.good → o.den E (ρ.set n u)
  | .both x y, ρ => x.den E ρ ∧ y.den E ρ
  | .top, _ => True
  | .pre ci σ o, ρ => (match E.ctrs[ci]? with | some c => c.pre (σ.env ρ) | none => False) ∧ o.den E ρ
  | .post ci ai σ base o, ρ => (match E.ctrs[ci]? with | some c => (match c.alts[ai]? with | some al => al.post (mixE c.nv al.k base (σ.env ρ) ρ) | none => False) | none => False) → o.den E ρ
  | .inv li base σ o, ρ => (match E.invs[li]? with | some I => I.inv (cutE base I.nv (σ.env ρ)) | none => False) ∧ o.den E ρ
  | .hyp li base o, ρ => (match E.invs[li]? with | some I => I.inv (relE base I.nv ρ) | none => False) → o.den E ρ
  | .back li base σ, ρ => match E.invs[li]? with | some I => I.inv (cutE base I.nv (σ.env ρ)) ∧ I.mu (cutE base I.nv (σ.env ρ)) < I.mu (relE base I.nv ρ) | none => False
  | .pack l n o, ρ => ∀ u : U, u.good → star ρ l u.h → o.den E (ρ.set n u)
  | .view x pat ms base o, ρ => ∃ d : List (List Value), (∃ m ∈ ms, Rd (ρ m).h pat (x.den ρ).v d) ∧ ∀ u0 : U, u0.good → ∀ u1 : U, u1.good → o.den E (((ρ.set base u0).set (base + 1) u1).set (base + 2) { d := d })
  | .know c o, ρ => (c.den ρ).b = true → o.den E ρ
  | .ret ai σ, ρ => match E.me.alts[ai]? with | some al => al.post ((σ.env ρ).upto (E.me.nv + al.k)) | none => False

/-- A contract holds. -/
def Ctr.ok (P : Program) (c : Ctr) : Prop :=
  (∀ (args : Array Value) (w : World), (callFunc c.fn args).run P w = .ok (.enter c.fn args) w) ∧
  ∀ (ρ : Env) (w : World) (hF : Fr) (hO : Hp), ρ.good → Hp.disj hF hO → ((Hp.union hF hO).sub w ∧ hF.wi w) → star ρ c.heap hO → (∀ x ∈ c.ro, x.roden ρ hF) → c.pre ρ →
    Calls P c.fn (c.args.map (SV.den ρ)).toArray w fun e w' =>
      ∃ (ai : Nat) (al : Alt) (ρ' : Env), c.alts[ai]? = some al ∧ ρ'.good ∧ (∀ n, n < c.nv → ρ' n = ρ n) ∧ e = .returned (al.ret.den ρ') ∧ al.post (ρ'.upto (c.nv + al.k)) ∧ HeapOk ρ' hF al.heap w'

/-! ### The tree's small steps -/

variable {E : Ctx}

theorem Holds.withPc (hs : Holds ρ hF s a w) (pc : List (T × Bool)) (h : ∀ c b, (c, b) ∈ pc → (c.den ρ).b = b) : Holds ρ hF { s with pc := pc } a w :=
  ⟨hs.gd, hs.nt, hs.df, hs.env, hs.ro, hs.hp, h, hs.vw⟩

theorem liven_sound (hs : Holds ρ hF s a w) {c : T} (h : ((liven s c).den ρ).b = true) : (c.den ρ).b = true := by
  unfold liven at h
  split at h
  · rename_i r
    split at h
    · rename_i r' ty cs hf
      obtain ⟨H, _, hro, hreg⟩ := hs.found hf
      simp only [SH.reg, Option.some.injEq] at hreg; subst hreg
      obtain ⟨b, o, c, ty', fr, h1, _⟩ := hro
      simp [T.den, O0.den, O1.den, h1]
    · rename_i r' ty pat d cap hf
      obtain ⟨H, _, hro, hreg⟩ := hs.found hf
      simp only [SH.reg, Option.some.injEq] at hreg; subst hreg
      rw [mkCmp_den _ _ _ (by simp), mkDlen_den] at h
      rcases hro with ⟨h1, h2⟩ | ⟨b, o, c, ty', fr, h1, _⟩
      · simp [T.den, O0.den, h2, cmpOf] at h
      · simp [T.den, O0.den, O1.den, h1]
    · exact h
  · exact h

theorem needs_den : ∀ {cs : List T} {s : S} {k : S → Out}, Holds ρ hF s a w → (needs s cs k).den E ρ →
    (∀ c ∈ cs, (c.den ρ).b = true) ∧ ∃ pc, Holds ρ hF { s with pc := pc } a w ∧ (k { s with pc := pc }).den E ρ
  | [], s, k, hs, h => ⟨fun _ h => (by cases h), s.pc, hs, h⟩
  | c :: cs, s, k, hs, h => by
    simp only [needs] at h
    split at h
    · rename_i hk
      have hk := known_sound hs hk
      obtain ⟨h1, h2⟩ := needs_den hs h
      exact ⟨fun c' hc' => by
        cases hc' with
        | head => exact liven_sound hs hk
        | tail _ hc' => exact h1 c' hc', h2⟩
    · exact h.elim
    · obtain ⟨hc, h⟩ := h
      obtain ⟨h1, pc, h2⟩ := needs_den (s := { s with pc := (liven s c, true) :: s.pc })
        (hs.withPc _ fun c' b hm => by
          cases hm with
          | head => exact hc
          | tail _ hm => exact hs.pc c' b hm) h
      exact ⟨fun c' hc' => by
        cases hc' with
        | head => exact liven_sound hs hc
        | tail _ hc' => exact h1 c' hc', pc, h2⟩

theorem pcOf_den {c c' : T} {b b' : Bool} (h : (c.den ρ).b = b) (he : pcOf c b = (c', b')) : (c'.den ρ).b = b' := by
  unfold pcOf at he
  split at he
  · simp only [Prod.mk.injEq] at he
    obtain ⟨rfl, rfl⟩ := he
    rw [← h]; simp [T.den, O1.den]
  · simp only [Prod.mk.injEq] at he
    obtain ⟨rfl, rfl⟩ := he
    exact h

theorem branch_den {c : T} {k : Bool → S → Out} (hs : Holds ρ hF s a w) (h : (branch s c k).den E ρ) :
    ∃ b pc, (c.den ρ).b = b ∧ Holds ρ hF { s with pc := pc } a w ∧ (k b { s with pc := pc }).den E ρ := by
  unfold branch at h
  split at h
  · rename_i b hk
    exact ⟨b, s.pc, known_sound hs hk, hs, h⟩
  · obtain ⟨h1, h2⟩ := h
    cases hb : (c.den ρ).b with
    | true =>
      exact ⟨true, pcOf c true :: s.pc, rfl, hs.withPc _ (fun c' b hm => by
        rcases List.mem_cons.1 hm with hm | hm
        · exact pcOf_den hb hm.symm
        · exact hs.pc c' b hm), h1 hb⟩
    | false =>
      exact ⟨false, pcOf c false :: s.pc, rfl, hs.withPc _ (fun c' b hm => by
        rcases List.mem_cons.1 hm with hm | hm
        · exact pcOf_den hb hm.symm
        · exact hs.pc c' b hm), h2 hb⟩

theorem scoped_parts (h : s.inNx = true) : s.env.all (fun x => x.2.inB s.nx) = true ∧ s.heap.all (SH.inB s.nx) = true ∧ s.ro.all (SH.inB s.nx) = true ∧ s.pc.all (fun x => x.1.inB s.nx) = true := by
  simp only [S.inNx, Bool.and_eq_true] at h
  exact ⟨h.1.1.1.1, h.1.1.1.2, h.1.1.2, h.1.2⟩
theorem inNx_vw (h : s.inNx = true) : ∀ x ∈ s.vw, (∀ m ∈ x.1, m < s.nx) ∧ x.2.inB s.nx = true := by
  simp only [S.inNx, Bool.and_eq_true] at h
  intro x hx
  have := List.all_eq_true.1 h.2 x hx
  simp only [Bool.and_eq_true, List.all_eq_true, Nat.blt_eq] at this
  exact ⟨this.1, this.2⟩

/-- The state under another valuation that agrees where the state looks. -/
theorem Holds.congr {ρ' : Env} (hs : Holds ρ hF s a w) (hsc : s.inNx = true) (hg : ρ'.good) (h : ∀ m, m < s.nx → ρ m = ρ' m) : Holds ρ' hF s a w := by
  obtain ⟨h1, h2, h3, h4⟩ := scoped_parts hsc
  refine ⟨hg, hs.nt, hs.df, fun t v hv => ?_, fun x hx => ?_, ?_, fun c b hc => ?_, fun x hx => ?_⟩
  · rw [hs.env t v hv]; exact SV.den_congr h v (lookE_in h1 hv)
  · exact (SH.roden_congr h x (List.all_eq_true.1 h3 x hx) hF).1 (hs.ro x hx)
  · obtain ⟨hO, hd, hst, hsub, hwi⟩ := hs.hp
    exact ⟨hO, hd, star_congr h _ h2 hO hst, hsub, hwi⟩
  · rw [← hs.pc c b hc]; exact congrArg U.b (T.den_congr h c (List.all_eq_true.1 h4 (c, b) hc)).symm
  · obtain ⟨m, hm, hr⟩ := hs.vw x hx
    obtain ⟨g1, g2⟩ := inNx_vw hsc x hx
    refine ⟨m, hm, ?_⟩
    rw [← h m (g1 m hm)]
    exact (SH.roden_congr h x.2 g2 _).1 hr

theorem setL_lt : ∀ (us : List U) (ρ : Env) (n m : Nat), m < n → setL ρ n us m = ρ m
  | [], ρ, n, m, _ => rfl
  | u :: us, ρ, n, m, h => by
    simp only [setL]
    rw [setL_lt us _ (n + 1) m (by omega), Env.set_ne ρ u (by omega)]
theorem setL_good : ∀ (us : List U) (ρ : Env) (n : Nat), ρ.good → (∀ u ∈ us, u.good) → (setL ρ n us).good
  | [], ρ, n, h, _ => h
  | u :: us, ρ, n, h, hu => by
    simp only [setL]
    refine setL_good us _ _ (fun m => ?_) (fun v hv => hu v (List.mem_cons_of_mem _ hv))
    by_cases hm : m = n
    · subst hm; rw [Env.set_same]; exact hu u (List.mem_cons_self ..)
    · rw [Env.set_ne ρ u hm]; exact h m
theorem setL_get : ∀ (us : List U) (ρ : Env) (n j : Nat) (u : U), us[j]? = some u → setL ρ n us (n + j) = u
  | [], ρ, n, j, u, h => by simp at h
  | u' :: us, ρ, n, 0, u, h => by
    simp only [List.getElem?_cons_zero, Option.some.injEq] at h
    simp only [setL, Nat.add_zero]
    rw [setL_lt us _ (n + 1) n (by omega), Env.set_same, h]
  | u' :: us, ρ, n, j + 1, u, h => by
    simp only [List.getElem?_cons_succ] at h
    simp only [setL]
    have := setL_get us (ρ.set n u') (n + 1) j u h
    rwa [show n + 1 + j = n + (j + 1) from by omega] at this

theorem freshes_den : ∀ {us : List U} {ρ : Env} {s : S} {k : S → Out}, (∀ u ∈ us, u.good) → (freshes s us.length k).den E ρ →
    (us = [] ∨ s.inNx = true) ∧ (k { s with nx := s.nx + us.length }).den E (setL ρ s.nx us)
  | [], ρ, s, k, _, h => ⟨.inl rfl, h⟩
  | u :: us, ρ, s, k, hu, h => by
    simp only [List.length_cons, freshes] at h
    split at h
    · rename_i hsc
      have := freshes_den (us := us) (s := { s with nx := s.nx + 1 }) (fun v hv => hu v (List.mem_cons_of_mem _ hv)) (h u (hu u (List.mem_cons_self ..)))
      refine ⟨.inr hsc, ?_⟩
      have h2 := this.2
      simp only [List.length_cons, setL]
      rwa [show s.nx + (us.length + 1) = s.nx + 1 + us.length from by omega]
    · exact h.elim

theorem Holds.fresh {us : List U} (hs : Holds ρ hF s a w) (hsc : us = [] ∨ s.inNx = true) (hu : ∀ u ∈ us, u.good) (n : Nat) : Holds (setL ρ s.nx us) hF { s with nx := n } a w := by
  rcases hsc with rfl | hsc
  · exact ⟨hs.gd, hs.nt, hs.df, hs.env, hs.ro, hs.hp, hs.pc, hs.vw⟩
  · have := hs.congr hsc (setL_good us ρ s.nx hs.gd hu) (fun m hm => (setL_lt us ρ s.nx m hm).symm)
    exact ⟨this.gd, this.nt, this.df, this.env, this.ro, this.hp, this.pc, this.vw⟩

theorem lookE_putE (d : Nat) (v : SV) : ∀ (l : List (Nat × SV)) (t : Nat) (u : SV), lookE t (putE d v l) = some u → (t = d ∧ u = v) ∨ (t ≠ d ∧ lookE t l = some u)
  | [], t, u, h => by
    simp only [putE, lookE] at h
    split at h
    · rename_i ht
      simp only [Option.some.injEq] at h
      exact .inl ⟨Nat.eq_of_beq_eq_true ht, h.symm⟩
    · simp at h
  | (k, x) :: r, t, u, h => by
    simp only [putE] at h
    split at h
    · rename_i hdk
      have hdk := Nat.eq_of_beq_eq_true hdk
      simp only [lookE] at h ⊢
      split at h
      · rename_i ht
        simp only [Option.some.injEq] at h
        exact .inl ⟨Nat.eq_of_beq_eq_true ht, h.symm⟩
      · rename_i ht
        have htd : t ≠ d := fun he => ht (by rw [he]; simp)
        refine .inr ⟨htd, ?_⟩
        rw [if_neg (by rw [← hdk]; exact ht)]
        exact h
    · split at h
      · simp only [lookE] at h ⊢
        split at h
        · rename_i ht
          simp only [Option.some.injEq] at h
          exact .inl ⟨Nat.eq_of_beq_eq_true ht, h.symm⟩
        · rename_i ht
          exact .inr ⟨fun he => ht (by rw [he]; simp), h⟩
      · simp only [lookE] at h ⊢
        split at h
        · rename_i hdk _ ht
          have ht' := Nat.eq_of_beq_eq_true ht
          exact .inr ⟨fun he => hdk (by rw [← he, ht']; simp), by simp [ht, h]⟩
        · rename_i ht
          rcases lookE_putE d v r t u h with h' | h'
          · exact .inl h'
          · exact .inr ⟨h'.1, by rw [if_neg ht]; exact h'.2⟩

/-- A value is put into its temporary. -/
theorem Holds.put {dst : Option Nat} {v : SV} {s' : S} (hs : Holds ρ hF s a w) (h : putDst dst (some v) s = some s') : Holds ρ hF s' (a.put dst (v.den ρ)) w ∧ s'.nx = s.nx ∧ s'.ro = s.ro ∧ s'.nt = s.nt ∧ s'.heap = s.heap := by
  cases dst with
  | none =>
    simp only [putDst, Option.some.injEq] at h; subst h
    exact ⟨hs, rfl, rfl, rfl, rfl⟩
  | some d =>
    simp only [putDst] at h
    split at h
    · rename_i hd
      simp only [Option.some.injEq] at h; subst h
      simp only [Nat.blt_eq] at hd
      have hsz : d < a.tmps.size := Nat.lt_of_lt_of_le hd hs.nt
      refine ⟨⟨hs.gd, by simpa [Act.put] using hs.nt, hs.df, fun t u hu => ?_, hs.ro, hs.hp, hs.pc, hs.vw⟩, rfl, rfl, rfl, rfl⟩
      rcases lookE_putE d v s.env t u hu with ⟨rfl, rfl⟩ | ⟨hne, hl⟩
      · simp [Act.put, Array.getD, hsz]
      · rw [← hs.env t u hl]
        simp only [Act.put, Array.getD_eq_getD_getElem?]
        rw [Array.getElem?_setIfInBounds_ne (fun h => hne h.symm)]
    · simp at h

theorem putDst_none {dst : Option Nat} {s' : S} (h : putDst dst none s = some s') : dst = none ∧ s' = s := by
  cases dst with
  | none => simp only [putDst, Option.some.injEq] at h; exact ⟨rfl, h.symm⟩
  | some d => simp [putDst] at h

/-! ### Pieces put together, slices told of -/

theorem star_filter (sel : SH → Bool) : ∀ {l : List SH} {h : Hp}, star ρ l h → ∃ h1 h2, Hp.disj h1 h2 ∧ h = Hp.union h1 h2 ∧ star ρ (l.filter sel) h1 ∧ star ρ (l.filter fun x => !sel x) h2
  | [], h, _ => ⟨Hp.emp, h, Hp.emp_disj _, (Hp.emp_union _).symm, trivial, trivial⟩
  | x :: l, h, ⟨a1, a2, hd, hu, hx, hs⟩ => by
    obtain ⟨b1, b2, e1, e2, e3, e4⟩ := star_filter sel hs
    subst e2; subst hu
    rw [Hp.disj_union] at hd
    cases hsel : sel x with
    | true =>
      refine ⟨Hp.union a1 b1, b2, Hp.disj_union'.2 ⟨hd.2, e1⟩, (Hp.union_assoc _ _ _).symm, ?_, ?_⟩
      · simp only [List.filter_cons, hsel, if_true]; exact ⟨a1, b1, hd.1, rfl, hx, e3⟩
      · simp only [List.filter_cons, hsel, Bool.not_true, Bool.false_eq_true, if_false]; exact e4
    | false =>
      refine ⟨b1, Hp.union a1 b2, Hp.disj_union.2 ⟨hd.1.symm, e1⟩, ?_, ?_, ?_⟩
      · rw [← Hp.union_assoc, Hp.union_comm hd.1, Hp.union_assoc]
      · simp only [List.filter_cons, hsel, Bool.false_eq_true, if_false]; exact e3
      · simp only [List.filter_cons, hsel, Bool.not_false, if_true]; exact ⟨a1, b2, hd.2, rfl, hx, e4⟩

/-- What a step that only looks anew at the state comes to. -/
def Anew (E : Ctx) (hF : Fr) (ρ : Env) (s : S) (a : Act) (w : World) (k : S → Out) : Prop :=
  ∃ ρ' s', (∀ m, m < s.nx → ρ' m = ρ m) ∧ s.nx ≤ s'.nx ∧ Holds ρ' hF s' a w ∧ s'.ro = s.ro ∧ s'.nt = s.nt ∧ (k s').den E ρ'

theorem Anew.self {k : S → Out} (hs : Holds ρ hF s a w) (h : (k s).den E ρ) : Anew E hF ρ s a w k := ⟨ρ, s, fun _ _ => rfl, Nat.le_refl _, hs, rfl, rfl, h⟩

theorem packOne_den {sel : SH → Bool} {t : Nat} {k : S → Out} (hs : Holds ρ hF s a w) (h : (packOne s sel t k).den E ρ) : Anew E hF ρ s a w k := by
  unfold packOne at h
  split at h
  · exact Anew.self hs h
  · split at h
    · rename_i hsc
      simp only [Out.den] at h
      obtain ⟨hO, hd, hst, hsub, hwi⟩ := hs.hp
      obtain ⟨h1, h2, e1, e2, e3, e4⟩ := star_filter sel hst
      have hu : ({ h := h1 } : U).good := by simp [U.good, Value.oneCell']
      have h := h { h := h1 } hu e3
      have hag : ∀ m, m < s.nx → (ρ.set s.nx { h := h1 }) m = ρ m := fun m hm => Env.set_ne ρ _ (by omega)
      have hg' : (ρ.set s.nx { h := h1 }).good := fun m => by
        by_cases hm : m = s.nx
        · subst hm; rw [Env.set_same]; exact hu
        · rw [Env.set_ne ρ _ hm]; exact hs.gd m
      have hc := hs.congr hsc hg' (fun m hm => (hag m hm).symm)
      refine ⟨_, { s with heap := .abs s.nx t :: s.heap.filter (fun x => !sel x), nx := s.nx + 1 }, hag, ?_, ⟨hc.gd, hc.nt, hc.df, hc.env, hc.ro, ⟨hO, hd, ?_, hsub, hwi⟩, hc.pc, hc.vw⟩, rfl, rfl, h⟩
      · exact Nat.le_succ _
      · subst e2
        refine ⟨h1, h2, e1, rfl, ?_, ?_⟩
        · simp only [SH.den, Env.set_same]; exact Hp.le_refl _
        · refine star_congr (n := s.nx) (fun m hm => (hag m hm).symm) _ ?_ _ e4
          have := (scoped_parts hsc).2.1
          exact List.all_eq_true.2 fun x hx => List.all_eq_true.1 this x (List.mem_filter.1 hx).1
    · exact h.elim

theorem Anew.bind {k k' : S → Out} (h : Anew E hF ρ s a w k) (hk : ∀ ρ' s', s'.ro = s.ro → s'.nt = s.nt → Holds ρ' hF s' a w → (k s').den E ρ' → Anew E hF ρ' s' a w k') : Anew E hF ρ s a w k' := by
  obtain ⟨ρ1, s1, a1, a2, a3, a4, a5, a6⟩ := h
  obtain ⟨ρ2, s2, b1, b2, b3, b4, b5, b6⟩ := hk ρ1 s1 a4 a5 a3 a6
  exact ⟨ρ2, s2, fun m hm => (b1 m (by omega)).trans (a1 m hm), by omega, b3, b4.trans a4, b5.trans a5, b6⟩

theorem packAll_den {left : List SH} : ∀ {ts : List Nat} {s : S} {ρ : Env} {k : S → Out}, Holds ρ hF s a w → (packAll s left ts k).den E ρ → Anew E hF ρ s a w k
  | [], s, ρ, k, hs, h => Anew.self hs h
  | t :: ts, s, ρ, k, hs, h => by
    simp only [packAll] at h
    exact (packOne_den hs h).bind fun ρ' s' _ _ hs' h' => packAll_den hs' h'

theorem packCall_den : ∀ {ts : List Nat} {s : S} {ρ : Env} {k : S → Out}, Holds ρ hF s a w → (packCall s ts k).den E ρ → Anew E hF ρ s a w k
  | [], s, ρ, k, hs, h => Anew.self hs h
  | t :: ts, s, ρ, k, hs, h => by
    simp only [packCall] at h
    split at h
    · exact (packOne_den hs h).bind fun ρ' s' _ _ hs' h' => packCall_den hs' h'
    · exact packCall_den hs h

theorem rowsAt_good {c : Array Value} {o : Nat} {pat : List CK} {d : List (List Value)} (h : rowsAt c o pat d) : ∀ row ∈ d, ∀ v ∈ row, v.oneCell' = true := fun row hr v hv =>
  flat_good (rowsAt_fits h) v (List.mem_flatten.2 ⟨row, hr, hv⟩)

theorem viewT_den {t el : Nat} {pat : List CK} {k : S → Out} (hs : Holds ρ hF s a w) (h : (viewT s t el pat k).den E ρ) : Anew E hF ρ s a w k := by
  unfold viewT at h
  split at h
  · rename_i x hl
    split at h
    · split at h
      · rename_i hsc
        simp only [Bool.and_eq_true, Nat.blt_eq] at hsc
        obtain ⟨hsc, htn⟩ := hsc
        simp only [Out.den] at h
        obtain ⟨d, ⟨m, hm, hrd⟩, h⟩ := h
        have hdg : ({ d := d } : U).good := by
          refine ⟨rfl, ?_⟩
          rcases hrd with ⟨_, h2⟩ | ⟨b, o, cap, c, ty, fr, _, _, _, h4⟩
          · rw [h2]; simp
          · exact rowsAt_good h4
        obtain ⟨r, cap, hval, hro⟩ : ∃ (r : Option (Nat × Nat)) (cap : Nat), (x.den ρ).v = .slice (addrOf r 0) d.length cap ∧
            ((r = none ∧ d = []) ∨ ∃ b o c ty fr, r = some (b, o) ∧ (ρ m).h b = some (.cells c ty fr) ∧ rowsAt c o pat d) := by
          rcases hrd with ⟨h1, h2⟩ | ⟨b, o, cap, c, ty, fr, h1, h2, h3, h4⟩
          · exact ⟨none, 0, by rw [h1, h2]; rfl, .inl ⟨rfl, h2⟩⟩
          · exact ⟨some (b, o), cap, by rw [h1]; rfl, .inr ⟨b, o, c, ty, fr, rfl, h3, h4⟩⟩
        have hu0 : ({ r := r } : U).good := by simp [U.good, Value.oneCell']
        have hu1 : ({ i := (cap : Int) } : U).good := by simp [U.good, Value.oneCell']
        have h := h { r := r } hu0 { i := (cap : Int) } hu1
        let ρ' : Env := ((ρ.set s.nx { r := r }).set (s.nx + 1) { i := (cap : Int) }).set (s.nx + 2) { d := d }
        have hag : ∀ m, m < s.nx → ρ' m = ρ m := fun m hm => by
          simp only [ρ']
          rw [Env.set_ne _ _ (by omega), Env.set_ne _ _ (by omega), Env.set_ne _ _ (by omega)]
        have e0 : ρ' s.nx = { r := r } := by
          simp only [ρ']
          rw [Env.set_ne _ _ (by omega), Env.set_ne _ _ (by omega), Env.set_same]
        have e1 : ρ' (s.nx + 1) = { i := (cap : Int) } := by
          simp only [ρ']
          rw [Env.set_ne _ _ (by omega), Env.set_same]
        have e2 : ρ' (s.nx + 2) = { d := d } := by simp only [ρ']; rw [Env.set_same]
        have hg' : ρ'.good := fun n => by
          by_cases h2 : n = s.nx + 2
          · subst h2; rw [e2]; exact hdg
          · by_cases h1 : n = s.nx + 1
            · subst h1; rw [e1]; exact hu1
            · by_cases h0 : n = s.nx
              · subst h0; rw [e0]; exact hu0
              · simp only [ρ']
                rw [Env.set_ne _ _ h2, Env.set_ne _ _ h1, Env.set_ne _ _ h0]; exact hs.gd n
        have hc := hs.congr hsc hg' (fun m hm => (hag m hm).symm)
        have hmlt : m < s.nx := by
          have hin : ∀ {l : List SH}, l.all (SH.inB s.nx) = true → m ∈ absVars l → m < s.nx := by
            intro l
            induction l with
            | nil => intro _ h; simp [absVars] at h
            | cons y l ih =>
              intro hall hmem
              simp only [List.all_cons, Bool.and_eq_true] at hall
              cases y with
              | cells r ty cs => exact ih hall.2 (by simpa [absVars] using hmem)
              | arr r ty pat d cap => exact ih hall.2 (by simpa [absVars] using hmem)
              | abs n t =>
                simp only [absVars, List.mem_cons] at hmem
                rcases hmem with rfl | hmem
                · simpa [SH.inB] using hall.1
                · exact ih hall.2 hmem
          obtain ⟨p1, p2, p3, p4⟩ := scoped_parts hsc
          rcases List.mem_append.1 hm with hm | hm
          · exact hin p2 hm
          · exact hin p3 hm
        refine ⟨ρ', { s with
          env := putE t (.one (.vslice s.nx (.lit 0) (.dlen (.var (s.nx + 2))) (.var (s.nx + 1)) pat.length)) s.env
          vw := (absVars s.heap ++ absVars s.ro, .arr s.nx el pat (.var (s.nx + 2)) (.var (s.nx + 1))) :: s.vw
          nx := s.nx + 3 }, hag, ?_, ⟨hc.gd, hc.nt, hc.df, fun t' u hu => ?_, hc.ro, hc.hp, hc.pc, fun y hy => ?_⟩, rfl, rfl, h⟩
        · exact Nat.le_add_right _ _
        · rcases lookE_putE t _ s.env t' u hu with ⟨rfl, rfl⟩ | ⟨hne, hl'⟩
          · rw [hs.env t' _ hl]
            simp only [SV.den, T.den, O0.den, O1.den, O3.den, e0, e1, e2, hval]
            simp
          · exact hc.env t' u hl'
        · rcases List.mem_cons.1 hy with rfl | hy
          · refine ⟨m, hm, ?_⟩
            rw [hag m hmlt]
            simp only [SH.roden, T.den, e0, e2]
            exact hro
          · exact hc.vw y hy
      · exact h.elim
    · exact Anew.self hs h
  · exact Anew.self hs h

theorem viewsK_den : ∀ {l : List (Nat × Nat × List CK)} {s : S} {ρ : Env} {k : S → Out}, Holds ρ hF s a w → (viewsK s l k).den E ρ → Anew E hF ρ s a w k
  | [], s, ρ, k, hs, h => Anew.self hs h
  | (t, el, pat) :: l, s, ρ, k, hs, h => by
    simp only [viewsK] at h
    exact (viewT_den hs h).bind fun ρ' s' _ _ hs' h' => viewsK_den hs' h'

theorem knowOf_sound {ip : List (Nat × Nat)} {o : Oper} {c : T} (hs : Holds ρ hF s a w) (h : knowOf ip s o = some c) : (c.den ρ).b = true := by
  have key : ∀ {x : Operand} {c : T}, (match opd s x with
    | some (.one (.c3 (.vslice r _) _ _ _)) =>
      match heapAt r s.heap with
      | some (_, .arr _ _ _ d cap) => some (mkCmp .leq (mkDlen d) cap)
      | _ => none
    | _ => none) = some c → (c.den ρ).b = true := by
    intro x c h
    split at h
    · split at h
      · rename_i r' p' off len cap' hx _ k rr ty pat d cap hat
        simp only [Option.some.injEq] at h; subst h
        obtain ⟨hk, hreg⟩ := heapAt_spec hat
        obtain ⟨hO, hd, hst, hsub, hwi⟩ := hs.hp
        obtain ⟨t1, t2, td, tu, tx, ts⟩ := star_take hst hk
        rw [mkCmp_den _ _ _ (by simp), mkDlen_den]
        simp only [cmpOf, decide_eq_true_eq]
        rcases tx with ⟨_, h2, h3⟩ | ⟨b, c, h1, h2, h3, h4, h5⟩
        · rw [h2, h3]; simp
        · exact h4
      · cases h
    · cases h
  unfold knowOf at h
  simp only at h
  split at h
  · exact key h
  · split at h
    · split at h
      · exact key h
      · cases h
    · cases h
  · cases h

theorem knowK_den {ip : List (Nat × Nat)} {o : Oper} {k : S → Out} (hs : Holds ρ hF s a w) (h : (knowK ip s o k).den E ρ) : Anew E hF ρ s a w k := by
  unfold knowK at h
  split at h
  · rename_i c hc
    split at h
    · exact Anew.self hs h
    · have hc := knowOf_sound hs hc
      exact ⟨ρ, { s with pc := (c, true) :: s.pc }, fun _ _ => rfl, Nat.le_refl _, hs.withPc _ (fun c' b hm => by
        cases hm with
        | head => exact hc
        | tail _ hm => exact hs.pc c' b hm), rfl, rfl, h hc⟩
  · exact Anew.self hs h

theorem viewsOf_roden {s' : S} {H : Hp} (hvw : ∀ x ∈ s'.vw, ∃ m ∈ x.1, x.2.roden ρ (ρ m).h) (hp : ∀ m, s'.piece m = true → Hp.le (ρ m).h H) : ∀ x ∈ viewsOf s', x.roden ρ H := by
  intro x hx
  unfold viewsOf at hx
  obtain ⟨y, hy, rfl⟩ := List.mem_map.1 hx
  obtain ⟨h1, h2⟩ := List.mem_filter.1 hy
  obtain ⟨m, hm, hr⟩ := hvw y h1
  exact SH.ro_mono hr (hp m (List.all_eq_true.1 h2 m hm))

end Go.Eng
