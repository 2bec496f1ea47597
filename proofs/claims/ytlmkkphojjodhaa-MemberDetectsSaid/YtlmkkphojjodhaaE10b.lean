/- A region whose order is open: what nobody writes before it comes is taken first. (After the law of Derived/OrdersHeld: the condition need not hold behind an operation that waits for all that were taken by it.) -/
import Derived.Test.YtlmkkphojjodhaaE10
import Derived.OrdersHeld
set_option linter.unusedSimpArgs false
set_option linter.unusedVariables false
namespace Go.Eng
open Go
variable {P : Program} {ops : Array Oper} {Q : Exit → Act → World → Prop} {md : Region.Mode} {S : World → Prop} {A : List Nat}

def Closed (md : Region.Mode) (ops : Array Oper) (listed : Array Bool) : Prop :=
  ∀ j o, ops[j]? = some o → listed.getD j false = true → ∀ e ∈ o.after, Region.binds md e = true → listed.getD e.on false = true

theorem closed_set {listed : Array Bool} {j : Nat} (h : Closed md ops listed) (hj : j ∈ Region.ready md ops listed) : Closed md ops (listed.setIfInBounds j true) := by
  intro k o ho hk e he hb
  obtain ⟨hjun, oj, hoj, hall⟩ := mem_ready.1 hj
  have mono : ∀ n, listed.getD n false = true → (listed.setIfInBounds j true).getD n false = true := fun n hn => by
    simp only [Array.getD_eq_getD_getElem?] at hn ⊢
    rw [Array.getElem?_setIfInBounds]
    split
    · rename_i hjn; subst hjn
      split
      · rfl
      · rename_i hlt
        rw [Array.getElem?_eq_none (by omega)] at hn; cases hn
    · exact hn
  by_cases hkj : k = j
  · subst hkj
    rw [hoj] at ho; cases ho
    exact mono _ (hall e he hb)
  · refine mono _ (h k o ho ?_ e he hb)
    simp only [Array.getD_eq_getD_getElem?] at hk ⊢
    rw [Array.getElem?_setIfInBounds_ne (Ne.symm hkj)] at hk
    exact hk

theorem closed_start (n : Nat) : Closed md ops (Array.replicate n false) := by
  intro j o _ hj
  simp only [Array.getD_eq_getD_getElem?, Array.getElem?_replicate] at hj
  split at hj <;> cases hj

inductive Reach (md : Region.Mode) (ops : Array Oper) : Nat → Nat → Prop where
  | one {j : Nat} {o : Oper} {e : Edge} (ho : ops[j]? = some o) (he : e ∈ o.after) (hb : Region.binds md e = true) : Reach md ops j e.on
  | step {j i : Nat} {o : Oper} {e : Edge} (ho : ops[j]? = some o) (he : e ∈ o.after) (hb : Region.binds md e = true) (h : Reach md ops e.on i) : Reach md ops j i

theorem mask_spec {acc : Array Nat} {i : Nat} : ∀ {l : List Edge} {m0 : Nat}, (l.foldl (fun m e => if Region.binds md e then m ||| 2 ^ e.on ||| acc.getD e.on 0 else m) m0).testBit i = true →
    m0.testBit i = true ∨ ∃ e ∈ l, Region.binds md e = true ∧ (e.on = i ∨ (acc.getD e.on 0).testBit i = true)
  | [], m0, h => .inl h
  | e :: l, m0, h => by
    simp only [List.foldl_cons] at h
    rcases mask_spec h with h | ⟨e', he', hb, hx⟩
    · split at h
      · rename_i hb
        simp only [Nat.testBit_or, Bool.or_eq_true, Nat.testBit_two_pow, decide_eq_true_eq] at h
        rcases h with (h | h) | h
        · exact .inl h
        · exact .inr ⟨e, List.mem_cons_self .., hb, .inl h⟩
        · exact .inr ⟨e, List.mem_cons_self .., hb, .inr h⟩
      · exact .inl h
    · exact .inr ⟨e', List.mem_cons_of_mem _ he', hb, hx⟩

theorem cloGo_spec : ∀ (l : List Oper) (acc : Array Nat), (∀ n : Nat, l[n]? = ops[acc.size + n]?) → (∀ j m, acc[j]? = some m → ∀ i, m.testBit i = true → Reach md ops j i) →
    ∀ j m, (cloGo md l acc)[j]? = some m → ∀ i, m.testBit i = true → Reach md ops j i
  | [], acc, _, hi => hi
  | o :: r, acc, hl, hi => by
    simp only [cloGo]
    have ho : ops[acc.size]? = some o := by have := hl 0; simpa using this.symm
    refine cloGo_spec r _ (fun n => ?_) (fun j m hj i hb => ?_)
    · have := hl (n + 1)
      simp only [List.getElem?_cons_succ] at this
      rw [this, Array.size_push]; congr 1; omega
    · rw [Array.getElem?_push] at hj
      split at hj
      · rename_i hje
        subst hje
        simp only [Option.some.injEq] at hj; subst hj
        rcases mask_spec hb with h | ⟨e, he, hbe, hx⟩
        · simp at h
        · have he := Array.mem_toList_iff.1 he
          rcases hx with rfl | hx
          · exact .one ho he hbe
          · refine .step ho he hbe ?_
            rw [Array.getD_eq_getD_getElem?] at hx
            cases ha : acc[e.on]? with
            | none => rw [ha] at hx; simp at hx
            | some m' => rw [ha] at hx; exact hi _ _ ha i hx
      · exact hi j m hj i hb

theorem reach_listed {listed : Array Bool} (hc : Closed md ops listed) {j i : Nat} (h : Reach md ops j i) : (∀ o, ops[j]? = some o → ∀ e ∈ o.after, Region.binds md e = true → listed.getD e.on false = true) → listed.getD i false = true := by
  induction h with
  | one ho he hb => intro hall; exact hall _ ho _ he hb
  | step ho he hb _ ih => intro hall; exact ih fun o2 ho2 e2 he2 hb2 => hc _ _ ho2 (hall _ ho _ he hb) e2 he2 hb2

theorem late_absurd {listed : Array Bool} {i j : Nat} (hc : Closed md ops listed) (hj : j ∈ Region.ready md ops listed) (hi : i ∈ Region.ready md ops listed) (hiA : i ∈ A) : lateOp md ops A j = false := by
  cases hl : lateOp md ops A j with
  | false => rfl
  | true =>
    exfalso
    obtain ⟨hjun, oj, hoj, hall⟩ := mem_ready.1 hj
    have hun : ¬ (listed.getD i false = true) := fun h1 => by
      have h0 := (mem_ready.1 hi).1
      simp only [Array.getD_eq_getD_getElem?] at h0 h1
      cases hx : listed[i]? with
      | none => rw [hx] at h1; cases h1
      | some b => rw [hx] at h0 h1; simp only [Option.getD_some] at h0 h1; rw [h0] at h1; cases h1
    unfold lateOp at hl
    split at hl
    · rename_i m hm
      have hb := List.all_eq_true.1 hl i hiA
      have hr := cloGo_spec (md := md) (ops := ops) ops.toList #[] (by simp) (by simp) j m hm i hb
      exact hun (reach_listed hc hr fun o ho e he hbe => by
        rw [hoj] at ho; cases ho
        exact hall e he hbe)
    · cases hl

/-- Whatever order is picked from here on; S holds behind every operation but the late ones. -/
def wpAnyE (P : Program) (md : Region.Mode) (ops : Array Oper) (A : List Nat) (Q : Exit → Act → World → Prop) (S : World → Prop) : Nat → Array Bool → Act → World → Prop
  | 0, listed, a, w => Region.ready md ops listed = [] ∧ Q .normal a w
  | fuel + 1, listed, a, w => Closed md ops listed →
    (Region.ready md ops listed = [] → Q .normal a w) ∧
    ∀ i ∈ Region.ready md ops listed, wpOp P ops Q i (fun a' w' => (lateOp md ops A i = true ∨ S w') ∧ wpAnyE P md ops A Q S fuel (listed.setIfInBounds i true) a' w') a w

theorem wpAny_of_E : ∀ (fuel : Nat) (listed : Array Bool) (a : Act) (w : World), Closed md ops listed → wpAnyE P md ops A Q S fuel listed a w → wpAny P md ops Q fuel listed a w
  | 0, _, _, _, _, h => h
  | fuel + 1, _, _, _, hc, h => ⟨(h hc).1, fun i hi => wpOp_mono (fun a' w' h' => wpAny_of_E fuel _ a' w' (closed_set hc hi) h'.2) ((h hc).2 i hi)⟩

theorem wpAnyE_first {i : Nat} {oi : Oper} {v : Value} (hi : ops[i]? = some oi) (hiA : i ∈ A) (hsel : ∀ (j : Nat) (o : Oper) cs b, ops[j]? = some o → o.op ≠ .select cs b)
    (hQ : ∀ c a w, Q (.panic c) (a.put oi.dst v) w → Q (.panic c) a w) :
    ∀ (fuel : Nat) (listed : Array Bool) (a : Act) (w : World),
      (∀ j oj, ops[j]? = some oj → j ≠ i → listed.getD j true = false → (∀ e ∈ oj.after, Region.binds md e = true → e.on ≠ i) → oi.apart ops oj = true) →
      i ∈ Region.ready md ops listed → YieldsIf P ops S oi v a → S w →
      wpAnyE P md ops A Q S fuel (listed.setIfInBounds i true) (a.put oi.dst v) w → wpAnyE P md ops A Q S (fuel + 1) listed a w := by
  intro fuel
  induction fuel with
  | zero =>
    intro listed a w _ hr hy hS H hc
    refine ⟨fun h => (by rw [h] at hr; cases hr), fun j hj => ?_⟩
    by_cases hji : j = i
    · subst hji; exact hy.wpOp hi hS ⟨.inr hS, H⟩
    · have := ready_mono hj hji
      rw [H.1] at this
      cases this
  | succ fuel ih =>
    intro listed a w hfree hr hy hS H hc
    refine ⟨fun h => (by rw [h] at hr; cases hr), fun j hj => ?_⟩
    by_cases hji : j = i
    · subst hji; exact hy.wpOp hi hS ⟨.inr hS, H⟩
    · have h1 := (H (closed_set hc hr)).2 j (ready_mono hj hji)
      obtain ⟨hjun, oj, hoj, hall⟩ := mem_ready.1 hj
      have hnot : ∀ e ∈ oj.after, Region.binds md e = true → e.on ≠ i := fun e he hb heq => by
        have h1 := hall e he hb
        have h0 := (mem_ready.1 hr).1
        rw [heq] at h1
        rcases Nat.lt_or_ge i listed.size with h' | h'
        · simp [h'] at h0 h1; rw [h0] at h1; cases h1
        · simp [Array.getElem?_eq_none h'] at h1
      have h2 := wpOp_putIf hoj (hfree j oj hoj hji hjun hnot) (fun cs b => hsel i oi cs b hi) (fun cs b => hsel j oj cs b hoj) hQ hy h1
      have hfree' : ∀ k ok, ops[k]? = some ok → k ≠ i → (listed.setIfInBounds j true).getD k true = false →
          (∀ e ∈ ok.after, Region.binds md e = true → e.on ≠ i) → oi.apart ops ok = true := fun k ok hk hki hun hno => by
        refine hfree k ok hk hki ?_ hno
        by_cases hjk : j = k
        · subst hjk; exact hjun
        · rw [getD_set_ne true hjk] at hun; exact hun
      have hlate := late_absurd (A := A) hc hj hr hiA
      refine wpOp_mono (fun a' w' h3 => ?_) h2
      have hSw : S w' := h3.2.1.resolve_left (by rw [hlate]; simp)
      refine ⟨.inr hSw, ih (listed.setIfInBounds j true) a' w' hfree' (ready_mono hr (Ne.symm hji)) h3.1 hSw ?_⟩
      rw [Array.setIfInBounds_comm _ _ hji]
      exact h3.2.2

theorem wpAnyE_take {i : Nat} {oi : Oper} {v : Value} {fuel : Nat} {listed : Array Bool} {a : Act} {w : World} (hi : ops[i]? = some oi) (hiA : i ∈ A)
    (hs : Region.noSelect ops = true) (hf : Region.free md ops listed i = true) (hr : (Region.ready md ops listed).contains i = true)
    (hQ : ∀ c a w, Q (.panic c) (a.put oi.dst v) w → Q (.panic c) a w) (hy : YieldsIf P ops S oi v a) (hS : S w)
    (h : wpAnyE P md ops A Q S fuel (listed.setIfInBounds i true) (a.put oi.dst v) w) : wpAnyE P md ops A Q S (fuel + 1) listed a w :=
  wpAnyE_first hi hiA (Region.noSelect_spec hs) hQ fuel listed a w (Region.free_spec hi hf) (by simpa using hr) hy hS h

theorem wpAnyE_all {rs : List Nat} {fuel : Nat} {listed : Array Bool} {a : Act} {w : World} (hr : Region.ready md ops listed = rs) (hne : rs ≠ [])
    (h : ∀ i ∈ rs, wpOp P ops Q i (fun a' w' => (lateOp md ops A i = true ∨ S w') ∧ wpAnyE P md ops A Q S fuel (listed.setIfInBounds i true) a' w') a w) : wpAnyE P md ops A Q S (fuel + 1) listed a w :=
  fun _ => ⟨fun h0 => absurd (hr ▸ h0) hne, hr ▸ h⟩

theorem wpAnyE_done {listed : Array Bool} {a : Act} {w : World} (hr : Region.ready md ops listed = []) (h : Q .normal a w) :
    ∀ fuel, wpAnyE P md ops A Q S fuel listed a w
  | 0 => ⟨hr, h⟩
  | _ + 1 => fun _ => ⟨fun _ => h, by rw [hr]; simp⟩

theorem wp_region_E {id : Nat} {a : Act} {w : World} (hm : P.follows .mixedOrders = true)
    (h : wpAnyE P .any ops A Q S ops.size (Array.replicate ops.size false) a { w with drawn := w.drawn + 1 }) : (Code.region id ops true).wp P Q a w :=
  wp_region_any hm (wpAny_of_E _ _ _ _ (closed_start _) h)

end Go.Eng
