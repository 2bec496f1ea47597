/- From the tree to the contract. -/
import Derived.Test.YtlmkkphojjodhaaE11
set_option linter.unusedSimpArgs false
set_option linter.unusedVariables false
namespace Go.Eng
open Go

def argEnv : Nat → List SV → List (Nat × SV)
  | _, [] => []
  | i, v :: r => (i, v) :: argEnv (i + 1) r
def startS (c : Ctr) (nt : Nat) : S := { env := argEnv 0 c.args, heap := c.heap, ro := c.ro, pc := [], nx := c.nv, nt }

theorem lookE_argEnv : ∀ (l : List SV) (i t : Nat) (v : SV), lookE t (argEnv i l) = some v → i ≤ t ∧ l[t - i]? = some v
  | [], i, t, v, h => by simp [argEnv, lookE] at h
  | x :: r, i, t, v, h => by
    simp only [argEnv, lookE] at h
    split at h
    · rename_i ht
      have ht := Nat.eq_of_beq_eq_true ht
      simp only [Option.some.injEq] at h
      subst ht; subst h
      simp
    · obtain ⟨h1, h2⟩ := lookE_argEnv r (i + 1) t v h
      refine ⟨by omega, ?_⟩
      rw [show t - i = (t - (i + 1)) + 1 from by omega, List.getElem?_cons_succ]; exact h2

/-- What a function's walk is asked for. -/
def treeOf (E : Ctx) (fuel : Nat) (fn : Func) : Out :=
  match fn.body with
  | some c => exec E fn fuel [.code c] (startS E.me fn.ntmps)
  | none => .stuck 99 0 0

theorem ok_of_tree {P : Program} {c : Ctr} {ctrs : List Ctr} {invs : List Inv} {fn : Func} (hf : P.funcs[c.fn]? = some fn)
    (hcall : ∀ (args : Array Value) (w : World), (callFunc c.fn args).run P w = .ok (.enter c.fn args) w) (hctr : ∀ c ∈ ctrs, c.ok P) (fuel : Nat)
    (h : ∀ ρ : Env, ρ.good → c.pre ρ → (treeOf ⟨P, c, ctrs, invs⟩ fuel fn).den ⟨P, c, ctrs, invs⟩ ρ) : c.ok P := by
  refine ⟨hcall, fun ρ w hF hO hg hd hsub hst hro hpre => ?_⟩
  have h := h ρ hg hpre
  unfold treeOf at h
  split at h
  · rename_i code hb
    refine calls_of_wp hf hb ?_
    have hs : Holds ρ hF (startS c fn.ntmps) { tmps := (c.args.map (SV.den ρ)).toArray ++ Array.replicate (fn.ntmps - (c.args.map (SV.den ρ)).toArray.size) undef, defers := [] } w := by
      refine ⟨hg, ?_, rfl, fun t v hv => ?_, hro, ⟨hO, hd, hst, hsub.1, hsub.2⟩, fun c b hc => (by cases hc), fun x hx => (by cases hx)⟩
      · simp only [startS, Array.size_append, Array.size_replicate]; omega
      · obtain ⟨_, h2⟩ := lookE_argEnv c.args 0 t v hv
        simp only [Nat.sub_zero] at h2
        have hlt : t < c.args.length := by
          rcases Nat.lt_or_ge t c.args.length with h | h
          · exact h
          · rw [List.getElem?_eq_none h] at h2; cases h2
        rw [Array.getD_eq_getD_getElem?, Array.getElem?_append_left (by simpa using hlt)]
        simp [h2]
    have := exec_sound (E := ⟨P, c, ctrs, invs⟩) (hF := hF) (RO := c.ro) (NT := fn.ntmps) (ρ0 := ρ) (fn := fn)
      (QF := bodyPost P fn fun e w' => ∃ (ai : Nat) (al : Alt) (ρ' : Env), c.alts[ai]? = some al ∧ ρ'.good ∧ (∀ n, n < c.nv → ρ' n = ρ n) ∧ e = .returned (al.ret.den ρ') ∧ al.post (ρ'.upto (c.nv + al.k)) ∧ HeapOk ρ' hF al.heap w')
      hctr (fun ρ' s a w v hs hv hr => ⟨⟨hs.df, _, resultSV_sound hs hv, hr⟩, ⟨hs.df, _, resultSV_sound hs hv, hr⟩⟩)
      fuel [.code code] (startS c fn.ntmps) ρ _ w _ (.code .nil) hs ⟨rfl, rfl, Nat.le_refl _, fun _ _ => rfl⟩ h
    refine wp_mono this fun e a w hq => ?_
    cases e <;> exact hq
  · exact h.elim

theorem forall_good {p : Prop} : (∀ u : U, u.good → p) ↔ p := ⟨fun h => h {} (by simp [U.good, Value.oneCell']), fun h _ _ => h⟩

@[simp] theorem cmpOf_lss_t (x y : Int) : (cmpOf .lss x y = true) ↔ (x < y) := by simp [cmpOf]
@[simp] theorem cmpOf_lss_f (x y : Int) : (cmpOf .lss x y = false) ↔ (y ≤ x) := by simp [cmpOf]
@[simp] theorem cmpOf_leq_t (x y : Int) : (cmpOf .leq x y = true) ↔ (x ≤ y) := by simp [cmpOf]
@[simp] theorem cmpOf_leq_f (x y : Int) : (cmpOf .leq x y = false) ↔ (y < x) := by simp [cmpOf]
@[simp] theorem cmpOf_gtr_t (x y : Int) : (cmpOf .gtr x y = true) ↔ (y < x) := by simp [cmpOf]
@[simp] theorem cmpOf_gtr_f (x y : Int) : (cmpOf .gtr x y = false) ↔ (x ≤ y) := by simp [cmpOf]
@[simp] theorem cmpOf_geq_t (x y : Int) : (cmpOf .geq x y = true) ↔ (y ≤ x) := by simp [cmpOf]
@[simp] theorem cmpOf_geq_f (x y : Int) : (cmpOf .geq x y = false) ↔ (x < y) := by simp [cmpOf]
@[simp] theorem cmpOf_eql_t (x y : Int) : (cmpOf .eql x y = true) ↔ (x = y) := by simp [cmpOf]
@[simp] theorem cmpOf_eql_f (x y : Int) : (cmpOf .eql x y = false) ↔ (¬ x = y) := by simp [cmpOf]
@[simp] theorem cmpOf_neq_t (x y : Int) : (cmpOf .neq x y = true) ↔ (¬ x = y) := by simp [cmpOf]
@[simp] theorem cmpOf_neq_f (x y : Int) : (cmpOf .neq x y = false) ↔ (x = y) := by simp [cmpOf]

attribute [simp] forall_good Out.den T.den O0.den O1.den O2.den O3.den SV.den Sg.env Eng.look Bd.den Env.set Env.upto mixE cutE relE
end Go.Eng
