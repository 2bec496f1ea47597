/- Joining entries, plainly; the law on merges. -/
import Derived.Test.YtlmkkphojjodhaaTP
set_option linter.unusedSimpArgs false
set_option linter.unusedVariables false
namespace Go.Proofs
open Go Go.Eng
theorem newerE_iff (a b : Ent) : newerE a b = true ↔ b.1 < a.1 ∨ (a.1 = b.1 ∧ b.2 < a.2) := by simp [newerE, newerB]
theorem newerE_iff' (a b : Ent) : newerE a b = false ↔ ¬ (b.1 < a.1 ∨ (a.1 = b.1 ∧ b.2 < a.2)) := by
  rw [← newerE_iff]; simp
theorem joinE_comm (a b : Ent) : joinE a b = joinE b a := by
  unfold joinE
  cases h1 : newerE b a <;> cases h2 : newerE a b <;> simp only [newerE_iff, newerE_iff'] at h1 h2 <;> simp <;> (apply Prod.ext <;> omega)
theorem joinE_cases (a b : Ent) : joinE a b = a ∨ joinE a b = b := by unfold joinE; split <;> simp
theorem joinE_idem (a : Ent) : joinE a a = a := by unfold joinE; split <;> rfl
theorem joinE_assoc (a b c : Ent) : joinE (joinE a b) c = joinE a (joinE b c) := by
  unfold joinE
  cases h1 : newerE b a <;> cases h2 : newerE c b <;> cases h3 : newerE c a <;> simp only [h1, h2, h3, if_true, if_false, Bool.false_eq_true] <;> simp only [newerE_iff, newerE_iff'] at h1 h2 h3 <;> first | rfl | omega | (apply Prod.ext <;> omega)
theorem joinE_not_older (a b : Ent) : newerE a (joinE a b) = false ∧ newerE b (joinE a b) = false := by
  unfold joinE
  cases h1 : newerE b a <;> simp only [if_true, if_false, Bool.false_eq_true, newerE_iff, newerE_iff'] at h1 ⊢ <;> omega
theorem joinE_valid {a b : Ent} (ha : validE a = true) (hb : validE b = true) : validE (joinE a b) = true := by
  rcases joinE_cases a b with h | h <;> rw [h] <;> assumption
theorem joinTab_comm (a b : List Ent) : joinTab a b = joinTab b a := by
  unfold joinTab; rw [List.zipWith_comm]; congr 1; funext x y; exact joinE_comm y x
theorem joinTab_idem (a : List Ent) : joinTab a a = a := by
  induction a with
  | nil => rfl
  | cons x l ih => simp only [joinTab, List.zipWith_cons_cons, joinE_idem]; exact congrArg _ ih
theorem joinTab_assoc : ∀ (a b c : List Ent), joinTab (joinTab a b) c = joinTab a (joinTab b c)
  | [], _, _ => by simp [joinTab]
  | _ :: _, [], _ => by simp [joinTab]
  | _ :: _, _ :: _, [] => by simp [joinTab]
  | x :: a, y :: b, z :: c => by
    have ih := joinTab_assoc a b c
    simp only [joinTab, List.zipWith_cons_cons, joinE_assoc] at ih ⊢
    rw [ih]
theorem joinTab_len (a b : List Ent) : (joinTab a b).length = min a.length b.length := by simp [joinTab]
theorem validT_join {a b : List Ent} (ha : validT a = true) (hb : validT b = true) (hl : a.length = b.length) : validT (joinTab a b) = true := by
  simp only [validT, Bool.and_eq_true, decide_eq_true_eq, okAll, List.all_eq_true] at ha hb ⊢
  refine ⟨by rw [joinTab_len]; omega, fun x hx => ?_⟩
  obtain ⟨i, hi⟩ := List.getElem?_of_mem hx
  simp only [joinTab, List.getElem?_zipWith_eq_some] at hi
  obtain ⟨p, q, h1, h2, rfl⟩ := hi
  exact joinE_valid (ha.2 p (List.mem_of_getElem? h1)) (hb.2 q (List.mem_of_getElem? h2))
theorem newerE_self (a : Ent) : newerE a a = false := by rw [newerE_iff']; omega
theorem older_cells {u a b : List (List Value)} {i : Int} (h : tabOf u = joinTab (tabOf a) (tabOf b)) (h0 : 0 ≤ i) (ha : i < (a.length : Int)) (hb : i < (b.length : Int)) (hu : u.length = a.length) :
    (cellI a i 0 ≤ cellI u i 0 ∧ (cellI a i 0 = cellI u i 0 → cellI a i 1 ≤ cellI u i 1)) ∧ (cellI b i 0 ≤ cellI u i 0 ∧ (cellI b i 0 = cellI u i 0 → cellI b i 1 ≤ cellI u i 1)) := by
  have h1 := cellI_tab (d := a) h0 ha
  have h2 := cellI_tab (d := b) h0 hb
  have h3 := cellI_tab (d := u) h0 (by omega)
  rw [h, joinTab_get h1 h2] at h3
  simp only [Option.some.injEq] at h3
  have h4 := joinE_not_older (cellI a i 0, cellI a i 1) (cellI b i 0, cellI b i 1)
  rw [h3] at h4
  simp only [newerE_iff'] at h4
  omega
set_option maxRecDepth 10000 in
set_option maxHeartbeats 1000000 in
theorem lawMerges_ok : lawMergesC.ok Try.prog := lawMerges_of (by simp [known_ok, own21_ok, valid20_ok, mergeV32_ok, same34_ok, newer_ok]) fun ρ hg hp => by
  obtain ⟨hl, hm, hn, hb, hc, hd⟩ := hp
  simp [o_lawMerges, lawMergesC, lawWaitsC, knownC, own21C, valid20C, contains59C, index84C, mergeV32C, merge32C, same34C, newerD, newerC, lawMergesI, arithOf]
  repeat' (first | refine ⟨?_, ?_⟩ | intro _)
  all_goals (first | omega | assumption | skip)
  all_goals (first | (simp only [*]; done) | (simp only [*]; assumption) | (simp_all; done) | skip)
  all_goals (first
    | (refine (older_cells ‹tabOf _ = joinTab (tabOf (ρ 3).d) (tabOf (ρ 8).d)› ‹_› ?_ ?_ ?_).1.1 <;> omega)
    | (refine (older_cells ‹tabOf _ = joinTab (tabOf (ρ 3).d) (tabOf (ρ 8).d)› ‹_› ?_ ?_ ?_).2.1 <;> omega)
    | (refine (older_cells ‹tabOf _ = joinTab (tabOf (ρ 3).d) (tabOf (ρ 8).d)› ‹_› ?_ ?_ ?_).1.2 ‹_› <;> omega)
    | (refine (older_cells ‹tabOf _ = joinTab (tabOf (ρ 3).d) (tabOf (ρ 8).d)› ‹_› ?_ ?_ ?_).2.2 ‹_› <;> omega)
    | (rw [wrapAdd (n := (ρ 1).i) ‹_› ‹_› ‹_›]; omega)
    | (simp_all; omega)
    | (simp_all; exact validT_join (by assumption) (by assumption) (by simp only [tab_len]; omega))
    | (simp_all [joinTab_comm (tabOf (ρ 8).d) (tabOf (ρ 3).d), joinTab_assoc, joinTab_idem]; done))
end Go.Proofs
