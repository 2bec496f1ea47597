/- The whole walk is sound. -/
import Derived.Test.YtlmkkphojjodhaaE9
set_option linter.unusedSimpArgs false
set_option linter.unusedVariables false
namespace Go.Eng
open Go
variable {ρ : Env} {hF : Fr} {s : S} {a : Act} {w : World} {E : Ctx}

theorem left_sound {σ : Sg} {cs : List T} (h : σ.left = some cs) (hc : ∀ c ∈ cs, (c.den ρ).b = true) : Sat σ ρ := by
  unfold Sg.left at h
  split at h
  · rename_i x y z hx hy hz
    simp only [Option.some.injEq] at h; subst h
    refine ⟨?_, ?_, ?_⟩
    · exact eqs_sound (ρ := ρ) _ (fun p a => (p.den (σ.env ρ)).i = (a.den ρ).i) (fun p p' a hp hs => by rw [← Sg.sub_den hp, T.same_eq hs])
        (fun p p' a c hp hf hb => by
          simp only [Option.some.injEq] at hf; subst hf
          rw [mkCmp_den _ _ _ (by simp)] at hb
          rw [← Sg.sub_den hp]
          simpa [cmpOf] using hb) hx (fun c hm => hc c (by simp [hm]))
    · exact eqs_sound (ρ := ρ) _ (fun p a => (p.den (σ.env ρ)).b = (a.den ρ).b) (fun p p' a hp hs => by rw [← Sg.sub_den hp, T.same_eq hs])
        (fun p p' a c hp hf hb => by
          simp only [Option.some.injEq] at hf; subst hf
          rw [mkBeq_den] at hb
          rw [← Sg.sub_den hp]
          simpa using hb) hy (fun c hm => hc c (by simp [hm]))
    · exact eqs_sound (ρ := ρ) _ (fun p a => (p.den (σ.env ρ)).d = (a.den ρ).d) (fun p p' a hp hs => by rw [← Sg.sub_den hp, T.same_eq hs])
        (fun p p' a c hp hf hb => by simp at hf) hz (fun c hm => hc c (by simp [hm]))
  · simp at h

theorem Bd.den_good (hg : ρ.good) (b : Bd) : (b.den ρ).good := by
  cases b with
  | t x => exact T.den_good hg x
  | r m => exact hg m
  | nil => simp [Bd.den, U.good, Value.oneCell']
theorem Sg.env_good (hg : ρ.good) (σ : Sg) : (σ.env ρ).good := fun n => by
  unfold Sg.env
  split
  · exact hg n
  · split
    · exact Bd.den_good hg _
    · simp [U.good, Value.oneCell']

/-! ### The guard of an operation -/

theorem guardT_sound {ops : Array Oper} {o : Oper} {g : Option (T × Bool)} (hs : Holds ρ hF s a w) (h : guardT ops s o = some g) :
    match g with
    | none => Region.wanted o (yielded ops a.tmps) = true
    | some (c, want) => Region.wanted o (yielded ops a.tmps) = decide ((c.den ρ).b = want) := by
  unfold guardT at h
  unfold Region.wanted
  split at h
  · rename_i hg
    simp only [Option.some.injEq] at h; subst h
    simp [hg]
  · rename_i j want hg
    split at h
    · rename_i t ht
      split at h
      · rename_i c hl
        simp only [Option.some.injEq] at h; subst h
        have he := hs.env t _ hl
        simp only [SV.den, T.den, O1.den] at he
        have : a.tmps[t]? = some (.bool (c.den ρ).b) := by
          rw [Array.getD_eq_getD_getElem?] at he
          cases hx : a.tmps[t]? with
          | none => rw [hx] at he; simp [undef] at he
          | some v => rw [hx] at he; simpa using he
        simp only [hg, yielded, ht, Option.bind_some, this]
        cases (c.den ρ).b <;> cases want <;> rfl
      · rename_i hl
        simp only [Option.some.injEq] at h; subst h
        have he := hs.env t _ hl
        simp only [SV.den, List.map_nil] at he
        have : yielded ops a.tmps j = none := by
          simp only [yielded, ht, Option.bind_some]
          rw [Array.getD_eq_getD_getElem?] at he
          cases hx : a.tmps[t]? with
          | none => rfl
          | some v => rw [hx] at he; simp only [Option.getD_some] at he; subst he; rfl
        simp only [hg, this, T.den, O0.den]
        cases want <;> rfl
      · simp at h
    · simp at h

/-! ### Results -/

def resSem (tmps : Array Value) : ResultVar → Sem Value
  | .tmp t => pure (tmps.getD t undef)
  | .cell a t => do loadVar t (← asAddr (tmps.getD a undef))

theorem results_eq (fn : Func) (tmps : Array Value) : results fn tmps = (do let vs ← fn.results.mapM (resSem tmps); pure (if h : vs.size = 1 then vs[0] else .tuple vs)) := by
  unfold results
  congr 2

theorem resOne_sound {r : ResultVar} {P : Program} {v : SV} (hs : Holds ρ hF s a w) (h : resOne P s r = some v) : (resSem a.tmps r).run P w = .ok (v.den ρ) w := by
  cases r with
  | tmp t => simp only [resOne] at h; simp only [resSem, Sem.run_pure, hs.env t v h]
  | cell x t =>
    simp only [resOne] at h
    simp only [resSem]
    split at h
    · rename_i rg p c e ag n hx hag hsz
      have hev := hs.env x _ hx
      split at h
      · rename_i k y hat
        obtain ⟨H, hsub, hro, hreg⟩ := hs.found (r := rg) (k := k) (x := y) (by simp [S.look, hat])
        split at h
        · rename_i cs hrd
          obtain ⟨hl, b, off, c', ty, fr, h1, h2, h3⟩ := readH_sound hrd hro hreg (by simp)
          simp only [SV.den, T.den, O1.den, h1, addrOf, Option.map_some] at hev
          simp only [Sem.run_bind, hev, asAddr, Sem.run_pure, Result.andThen_ok]
          split at h
          · rename_i hagt
            simp only [Option.some.injEq] at h; subst h; subst hagt
            rw [run_loadVar (P := P) (w := w) hag hsz (hsub _ _ h2) (by simp [denVs, hl]) h3 (by simp)]
            simp [SV.den]
          · rename_i hagf
            split at h
            · rename_i t' _
              simp only [Option.some.injEq] at h; subst h
              have hagf' : ag = false := by simpa using hagf
              subst hagf'
              rw [run_loadVar (P := P) (w := w) hag hsz (hsub _ _ h2) (by rw [← hl]; simp [denVs]) h3 (fun _ => by rw [← hl]; rfl)]
              simp [SV.den, denVs]
            · simp at h
        · simp at h
      · simp at h
    · simp at h

theorem flatSV_den {v : SV} {x : Bool × List T} (h : flatSV v = some x) : den1 ρ x = v.den ρ := by
  unfold flatSV at h
  split at h <;> simp only [Option.some.injEq, reduceCtorEq] at h <;> subst h <;> simp [SV.den, den1, denVs]

theorem resAll_sound {P : Program} (hs : Holds ρ hF s a w) : ∀ {rs : List ResultVar} {l : List (Bool × List T)}, resAll P s rs = some l →
    (rs.mapM (resSem a.tmps)).run P w = .ok (l.map (den1 ρ)) w ∧ l.length = rs.length
  | [], l, h => by simp only [resAll, Option.some.injEq] at h; subst h; simp
  | r :: rs, l, h => by
    simp only [resAll] at h
    split at h
    · rename_i x l' hx hl
      simp only [Option.some.injEq] at h; subst h
      simp only [Option.bind_eq_some_iff] at hx
      obtain ⟨v, hv, hf⟩ := hx
      have h1 := resOne_sound hs hv
      obtain ⟨h2, h3⟩ := resAll_sound hs hl
      simp only [List.mapM_cons, Sem.run_bind, h1, h2, Result.andThen_ok, Sem.run_pure, List.map_cons, flatSV_den hf, List.length_cons, h3, and_self]
    · simp at h

theorem resultSV_sound {fn : Func} {P : Program} {v : SV} (hs : Holds ρ hF s a w) (h : resultSV fn s P = some v) : (results fn a.tmps).run P w = .ok (v.den ρ) w := by
  unfold resultSV at h
  rw [results_eq]
  simp only [Sem.run_bind, Array.mapM_eq_mapM_toList, Sem.run_map]
  split at h
  · rename_i r hr
    have h1 := resOne_sound hs h
    rw [hr]
    simp only [List.mapM_cons, List.mapM_nil, Sem.run_bind, h1, Result.andThen_ok, Sem.run_pure]
    simp
  · rename_i rs hne
    simp only [Option.map_eq_some_iff] at h
    obtain ⟨vs, hvs, rfl⟩ := h
    obtain ⟨h1, hl⟩ := resAll_sound hs hvs
    rw [h1]
    simp only [Result.andThen_ok, Sem.run_pure]
    have hne1 : ¬ (vs.map (den1 ρ)).toArray.size = 1 := by
      intro h1
      simp only [List.size_toArray, List.length_map] at h1
      rw [hl] at h1
      match hrs : fn.results.toList, h1 with
      | [x], _ => exact hne x hrs
    rw [dif_neg hne1]
    simp [SV.den]

end Go.Eng
