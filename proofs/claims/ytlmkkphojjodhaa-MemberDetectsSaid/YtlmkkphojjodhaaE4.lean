/- What matching and putting in mean. -/
import Derived.Test.YtlmkkphojjodhaaE3
set_option linter.unusedSimpArgs false
set_option linter.unusedVariables false
namespace Go.Eng
open Go

theorem blt_true {a b : Nat} (h : a < b) : Nat.blt a b = true := by simpa using h
theorem blt_false {a b : Nat} (h : ¬ a < b) : Nat.blt a b = false := by
  cases h' : Nat.blt a b
  · rfl
  · exact absurd (by simpa using h') h

/-! ### Scopes -/

theorem T.den_congr {n : Nat} {ρ ρ' : Env} (h : ∀ m, m < n → ρ m = ρ' m) : ∀ (t : T), t.inB n = true → t.den ρ = t.den ρ'
  | .var m, hb => by simp [T.inB] at hb; simpa [T.den] using h m hb
  | .c0 o, hb => by
    cases o <;> simp_all [T.inB, T.den, O0.den]
  | .c1 o a, hb => by
    cases o <;> (simp only [T.inB, Bool.and_eq_true, Nat.blt_eq] at hb) <;>
      first
        | (simp only [T.den]; rw [T.den_congr h a hb]; rfl)
        | (simp only [T.den]; rw [T.den_congr h a hb.2]; simp [O1.den, h _ hb.1])
  | .c2 o a b, hb => by
    simp only [T.inB, Bool.and_eq_true] at hb
    simp only [T.den]; rw [T.den_congr h a hb.1, T.den_congr h b hb.2]
  | .c3 o a b c, hb => by
    cases o <;> (simp only [T.inB, Bool.and_eq_true, Nat.blt_eq] at hb)
    · simp only [T.den]; rw [T.den_congr h a hb.1.1.2, T.den_congr h b hb.1.2, T.den_congr h c hb.2]; simp [O3.den, h _ hb.1.1.1]
    · simp only [T.den]; rw [T.den_congr h a hb.1.1, T.den_congr h b hb.1.2, T.den_congr h c hb.2]; rfl
  | .ife a b x y, hb => by
    simp only [T.inB, Bool.and_eq_true] at hb
    simp only [T.den]; rw [T.den_congr h a hb.1.1.1, T.den_congr h b hb.1.1.2, T.den_congr h x hb.1.2, T.den_congr h y hb.2]

theorem denVs_congr {n : Nat} {ρ ρ' : Env} (h : ∀ m, m < n → ρ m = ρ' m) (ts : List T) (hb : ts.all (T.inB n) = true) : denVs ρ ts = denVs ρ' ts := by
  unfold denVs
  refine List.map_congr_left fun t ht => ?_
  rw [T.den_congr h t (List.all_eq_true.1 hb t ht)]

theorem SV.den_congr {n : Nat} {ρ ρ' : Env} (h : ∀ m, m < n → ρ m = ρ' m) (v : SV) (hb : v.inB n = true) : v.den ρ = v.den ρ' := by
  cases v with
  | one t => simp only [SV.inB] at hb; simp only [SV.den]; rw [T.den_congr h t hb]
  | agg ts => simp only [SV.inB] at hb; simp only [SV.den]; rw [denVs_congr h ts hb]
  | tup vs =>
    simp only [SV.inB] at hb; simp only [SV.den]
    congr 2
    refine List.map_congr_left fun x hx => ?_
    have := List.all_eq_true.1 hb x hx
    obtain ⟨g, ts⟩ := x
    cases g <;> simp only [den1] <;> rw [denVs_congr h ts this]
  | fn f a b =>
    simp only [SV.inB, Bool.and_eq_true] at hb; simp only [SV.den]
    rw [denVs_congr h a hb.1, denVs_congr h b hb.2]

theorem SH.den_congr {n : Nat} {ρ ρ' : Env} (h : ∀ m, m < n → ρ m = ρ' m) (x : SH) (hb : x.inB n = true) (hp : Hp) : x.den ρ hp ↔ x.den ρ' hp := by
  cases x with
  | cells r ty cs => simp only [SH.inB, Bool.and_eq_true, Nat.blt_eq] at hb; simp only [SH.den]; rw [denVs_congr h cs hb.2, h r hb.1]
  | arr r ty pat d cap =>
    simp only [SH.inB, Bool.and_eq_true, Nat.blt_eq] at hb; simp only [SH.den]
    rw [T.den_congr h d hb.1.2, T.den_congr h cap hb.2, h r hb.1.1]
  | abs m t => simp only [SH.inB, Nat.blt_eq] at hb; simp only [SH.den]; rw [h m hb]

theorem SH.roden_congr {n : Nat} {ρ ρ' : Env} (h : ∀ m, m < n → ρ m = ρ' m) (x : SH) (hb : x.inB n = true) (hp : Hp) : x.roden ρ hp ↔ x.roden ρ' hp := by
  cases x with
  | cells r ty cs => simp only [SH.inB, Bool.and_eq_true, Nat.blt_eq] at hb; simp only [SH.roden]; rw [denVs_congr h cs hb.2, h r hb.1]
  | arr r ty pat d cap =>
    simp only [SH.inB, Bool.and_eq_true, Nat.blt_eq] at hb; simp only [SH.roden]
    rw [T.den_congr h d hb.1.2, h r hb.1.1]
  | abs m t => simp only [SH.inB, Nat.blt_eq] at hb; simp only [SH.roden]; rw [h m hb]

theorem star_congr {n : Nat} {ρ ρ' : Env} (h : ∀ m, m < n → ρ m = ρ' m) : ∀ (l : List SH), l.all (SH.inB n) = true → ∀ hp, star ρ l hp → star ρ' l hp
  | [], _, _, _ => trivial
  | x :: xs, hb, hp, ⟨h1, h2, hd, hu, hx, hs⟩ => by
    simp only [List.all_cons, Bool.and_eq_true] at hb
    exact ⟨h1, h2, hd, hu, (SH.den_congr h x hb.1 h1).1 hx, star_congr h xs hb.2 h2 hs⟩

/-! ### What is bound -/

def Bd.den (ρ : Env) : Bd → U
  | .t x => x.den ρ
  | .r m => ρ m
  | .nil => {}

/-- The variables of a pattern, as they are bound. -/
def Sg.env (σ : Sg) (ρ : Env) : Env := fun n =>
  if n < σ.th then ρ n else
  match look n σ.bd with
  | some b => b.den ρ
  | none => {}

theorem Sg.env_lt {σ : Sg} {ρ : Env} {n : Nat} (h : n < σ.th) : σ.env ρ n = ρ n := by simp [Sg.env, h]
theorem Sg.env_look {σ : Sg} {ρ : Env} {n : Nat} {b : Bd} (h : ¬ n < σ.th) (hl : look n σ.bd = some b) : σ.env ρ n = b.den ρ := by simp [Sg.env, h, hl]

theorem Sg.reg_env {σ : Sg} {ρ : Env} {r r' : Nat} (h : σ.reg r = some r') : σ.env ρ r = ρ r' := by
  unfold Sg.reg at h
  by_cases hr : r < σ.th
  · have := blt_true hr
    simp only [this, if_true, Option.some.injEq] at h
    rw [Sg.env_lt hr, h]
  · have := blt_false hr
    simp only [this, Bool.false_eq_true, if_false] at h
    split at h
    · rename_i m hl
      simp only [Option.some.injEq] at h
      rw [Sg.env_look hr hl, ← h]; rfl
    · simp at h

theorem Sg.sub_den {σ : Sg} {ρ : Env} : ∀ {t t' : T}, σ.sub t = some t' → t'.den ρ = t.den (σ.env ρ)
  | .var n, t', h => by
    simp only [Sg.sub] at h
    by_cases hr : n < σ.th
    · have := blt_true hr
      simp only [this, if_true, Option.some.injEq] at h
      rw [← h]; simp [T.den, Sg.env_lt hr]
    · have := blt_false hr
      simp only [this, Bool.false_eq_true, if_false] at h
      split at h
      · rename_i t hl; simp only [Option.some.injEq] at h; rw [← h]; simp [T.den, Sg.env_look hr hl, Bd.den]
      · rename_i t hl; simp only [Option.some.injEq] at h; rw [← h]; simp [T.den, Sg.env_look hr hl, Bd.den]
      · simp at h
  | .c0 o, t', h => by
    cases o
    case isnil r =>
      simp only [Sg.sub] at h
      by_cases hr : r < σ.th
      · have := blt_true hr
        simp only [this, if_true, Option.some.injEq] at h
        rw [← h]; simp [T.den, O0.den, Sg.env_lt hr]
      · have := blt_false hr
        simp only [this, Bool.false_eq_true, if_false] at h
        split at h
        · rename_i t hl; simp only [Option.some.injEq] at h; rw [← h]; simp [T.den, O0.den, Sg.env_look hr hl, Bd.den]
        · rename_i hl; simp only [Option.some.injEq] at h; rw [← h]; simp [T.den, O0.den, Sg.env_look hr hl, Bd.den]
        · simp at h
    all_goals (simp only [Sg.sub, Option.some.injEq] at h; rw [← h]; rfl)
  | .c1 o a, t', h => by
    cases o
    case vptr r p c =>
      simp only [Sg.sub] at h
      split at h
      · rename_i r' a' hr ha
        simp only [Option.some.injEq] at h
        rw [← h]; simp only [T.den, O1.den]; rw [Sg.sub_den ha, Sg.reg_env hr]
      · simp at h
    all_goals
      simp only [Sg.sub, Option.map_eq_some_iff] at h
      obtain ⟨a', ha, rfl⟩ := h
      simp only [T.den]; rw [Sg.sub_den ha]; rfl
  | .c2 o a b, t', h => by
    simp only [Sg.sub] at h
    split at h
    · rename_i a' b' ha hb
      simp only [Option.some.injEq] at h
      rw [← h]; simp only [T.den]; rw [Sg.sub_den ha, Sg.sub_den hb]
    · simp at h
  | .c3 o a b c, t', h => by
    cases o
    case vslice r p =>
      simp only [Sg.sub] at h
      split at h
      · rename_i r' a' b' c' hr ha hb hc
        simp only [Option.some.injEq] at h
        rw [← h]; simp only [T.den, O3.den]; rw [Sg.sub_den ha, Sg.sub_den hb, Sg.sub_den hc, Sg.reg_env hr]
      · simp at h
    case dput k =>
      simp only [Sg.sub] at h
      split at h
      · rename_i a' b' c' ha hb hc
        simp only [Option.some.injEq] at h
        rw [← h]; simp only [T.den, O3.den]; rw [Sg.sub_den ha, Sg.sub_den hb, Sg.sub_den hc]
      · simp at h
  | .ife a b x y, t', h => by
    simp only [Sg.sub] at h
    split at h
    · rename_i a' b' x' y' ha hb hx hy
      simp only [Option.some.injEq] at h
      rw [← h]; simp only [T.den]; rw [Sg.sub_den ha, Sg.sub_den hb, Sg.sub_den hx, Sg.sub_den hy]
    · simp at h

theorem Sg.subs_den {σ : Sg} {ρ : Env} : ∀ {ts ts' : List T}, σ.subs ts = some ts' → denVs ρ ts' = denVs (σ.env ρ) ts
  | [], ts', h => by simp only [Sg.subs, Option.some.injEq] at h; rw [← h]; rfl
  | t :: ts, ts', h => by
    simp only [Sg.subs] at h
    split at h
    · rename_i a b ha hb
      simp only [Option.some.injEq] at h
      rw [← h]
      have := Sg.subs_den (ρ := ρ) hb
      simp only [denVs, List.map_cons] at this ⊢
      rw [Sg.sub_den ha, this]
    · simp at h

theorem Sg.tup_den {σ : Sg} {ρ : Env} : ∀ {vs vs' : List (Bool × List T)}, Sg.subSV.tup σ vs = some vs' → vs'.map (den1 ρ) = vs.map (den1 (σ.env ρ))
  | [], vs', h => by simp only [Sg.subSV.tup, Option.some.injEq] at h; rw [← h]; rfl
  | (g, ts) :: r, vs', h => by
    simp only [Sg.subSV.tup] at h
    split at h
    · rename_i a b ha hb
      simp only [Option.some.injEq] at h
      rw [← h]
      simp only [List.map_cons]
      rw [Sg.tup_den hb]
      congr 1
      cases g <;> simp only [den1] <;> rw [Sg.subs_den ha]
    · simp at h

theorem Sg.subSV_den {σ : Sg} {ρ : Env} {v v' : SV} (h : σ.subSV v = some v') : v'.den ρ = v.den (σ.env ρ) := by
  cases v with
  | one t =>
    simp only [Sg.subSV, Option.map_eq_some_iff] at h
    obtain ⟨a, ha, rfl⟩ := h
    simp only [SV.den]; rw [Sg.sub_den ha]
  | agg ts =>
    simp only [Sg.subSV, Option.map_eq_some_iff] at h
    obtain ⟨a, ha, rfl⟩ := h
    simp only [SV.den]; rw [Sg.subs_den ha]
  | tup vs =>
    simp only [Sg.subSV, Option.map_eq_some_iff] at h
    obtain ⟨a, ha, rfl⟩ := h
    simp only [SV.den]; rw [Sg.tup_den ha]
  | fn f a b =>
    simp only [Sg.subSV] at h
    split at h
    · rename_i x y hx hy
      simp only [Option.some.injEq] at h
      rw [← h]; simp only [SV.den]; rw [Sg.subs_den hx, Sg.subs_den hy]
    · simp at h

theorem Sg.subH_den {σ : Sg} {ρ : Env} {x x' : SH} (h : σ.subH x = some x') (hp : Hp) : x'.den ρ hp ↔ x.den (σ.env ρ) hp := by
  cases x with
  | cells r ty cs =>
    simp only [Sg.subH] at h
    split at h
    · rename_i r' cs' hr hc
      simp only [Option.some.injEq] at h
      rw [← h]; simp only [SH.den]; rw [Sg.subs_den hc, Sg.reg_env hr]
    · simp at h
  | arr r ty pat d cap =>
    simp only [Sg.subH] at h
    split at h
    · rename_i r' d' cap' hr hd hc
      simp only [Option.some.injEq] at h
      rw [← h]; simp only [SH.den]; rw [Sg.sub_den hd, Sg.sub_den hc, Sg.reg_env hr]
    · simp at h
  | abs n t =>
    simp only [Sg.subH, Option.map_eq_some_iff] at h
    obtain ⟨m, hm, rfl⟩ := h
    simp only [SH.den]; rw [Sg.reg_env hm]

theorem Sg.subHs_den {σ : Sg} {ρ : Env} : ∀ {l l' : List SH}, σ.subHs l = some l' → ∀ hp, star ρ l' hp ↔ star (σ.env ρ) l hp
  | [], l', h, hp => by simp only [Sg.subHs, Option.some.injEq] at h; rw [← h]; rfl
  | x :: r, l', h, hp => by
    simp only [Sg.subHs] at h
    split at h
    · rename_i a b ha hb
      simp only [Option.some.injEq] at h
      rw [← h]
      simp only [star]
      constructor
      · rintro ⟨h1, h2, hd, hu, hx, hs⟩; exact ⟨h1, h2, hd, hu, (Sg.subH_den ha h1).1 hx, (Sg.subHs_den hb h2).1 hs⟩
      · rintro ⟨h1, h2, hd, hu, hx, hs⟩; exact ⟨h1, h2, hd, hu, (Sg.subH_den ha h1).2 hx, (Sg.subHs_den hb h2).2 hs⟩
    · simp at h

end Go.Eng
