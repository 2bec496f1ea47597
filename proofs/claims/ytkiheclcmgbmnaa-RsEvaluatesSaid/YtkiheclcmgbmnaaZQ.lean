/- sync.Once over a field's tables: Do. -/
import Derived.Test.YtkiheclcmgbmnaaZN
set_option linter.unusedSimpArgs false
set_option linter.unusedVariables false
namespace Go.Proofs
open Go Go.Eng
theorem once_not : ∀ (x : Bool) (w : World), (Op.unary .not (.bool x)).run Try.prog w = .ok (.bool (!x)) w := fun _ _ => rfl
set_option maxRecDepth 100000 in
theorem once_load (b : Nat) (x : Int) (w : World) (hc : w.cell? ⟨b, 0, none⟩ = some (.int .u32 x)) :
    Calls Try.prog 95 #[.pointer (some ⟨b, 0, none⟩)] w fun e w' => e = .returned (.bool (x != 0)) ∧ w' = w := by
  have hl := run_call_load (P := Try.prog) Try.func99 (by kernel_rfl) (by kernel_rfl) (by kernel_rfl) .u32 (by kernel_rfl) hc
  go_enter Try.func95, Try.ntmps95
  go_wp2
  go_ret
  exact ⟨rfl, rfl⟩
set_option maxRecDepth 100000 in
theorem once_done (b : Nat) (d : Int) (hd : ¬ d = 0) (fv : Value) (w : World) (h0 : w.cell? ⟨b, 0, none⟩ = some (.int .u32 d)) :
    Calls Try.prog 80 #[.pointer (some ⟨b, 0, none⟩), fv] w fun e w' => e = .returned (.tuple #[]) ∧ w' = w := by
  have hnot := once_not
  have hd' : (d != 0) = true := by simp [hd]
  go_enter Try.func80, Try.ntmps80
  go_wp2_with (go_at_call 95; refine (once_load b d _ h0).mono ?_; rintro e w' ⟨rfl, rfl⟩)
  all_goals (try go_end0)
  all_goals (exact ⟨rfl, rfl⟩)
/-- Whether a row fits, to be computed. -/
def fitsB : List CK → List Value → Bool
  | [], [] => true
  | k :: ks, v :: vs => CK.fits k v && fitsB ks vs
  | _, _ => false
theorem fitsB_row : ∀ {ks : List CK} {vs : List Value}, fitsB ks vs = true → fitsRow ks vs
  | [], [], _ => ⟨rfl, fun c k v hk => by simp at hk⟩
  | k :: ks, v :: vs, h => by
    simp only [fitsB, Bool.and_eq_true] at h
    obtain ⟨h1, h2⟩ := fitsB_row h.2
    refine ⟨by simp [h1], fun c k' v' hk hv => ?_⟩
    cases c with
    | zero => simp at hk hv; subst hk; subst hv; exact h.1
    | succ c => exact h2 c k' v' (by simpa using hk) (by simpa using hv)
  | [], _ :: _, h => by simp [fitsB] at h
  | _ :: _, [], h => by simp [fitsB] at h
theorem fresh_fits : fitsRow kField (freshRow.set 1 (.int .i32 1)) := fitsB_row (by kernel_rfl)
theorem built_done : [(((buildN [freshRow.set 1 (.int .i32 1)] 255).1.headD []).set 0 (.int .u32 1)).set 1 (.int .i32 0)] = doneD := by kernel_rfl
theorem built_1 : ((buildN [freshRow.set 1 (.int .i32 1)] 255).1.headD [])[1]? = some (.int .i32 1) := by kernel_rfl
theorem built_0 : ((buildN [freshRow.set 1 (.int .i32 1)] 255).1.headD [])[0]? = some (.int .u32 0) := by kernel_rfl
set_option maxRecDepth 100000 in
set_option maxHeartbeats 1600000 in
theorem once_slow (b : Nat) (c : Array Value) (w : World) (hb : At w b c) (hc : c.toList = freshRow) :
    Calls Try.prog 96 #[.pointer (some ⟨b, 0, none⟩), .func (.func 81) #[.pointer (some ⟨b, 0, none⟩)] #[]] w fun e w' => e = .returned (.tuple #[]) ∧ ∃ c', At w' b c' ∧ [c'.toList] = doneD ∧ Else w w' b := by
  have hnot := once_not
  have hget : ∀ k : Nat, c[k]? = freshRow[k]? := fun k => by rw [← hc]; simp
  have h1 : w.cell? ⟨b, 1, none⟩ = some (.int .i32 0) := hb.cell (by rw [hget]; rfl)
  have f1 : w.frozen? ⟨b, 1, none⟩ = false := hb.frozen 1
  obtain ⟨a1, e1⟩ := hb.set 1 (.int .i32 1)
  have l1 : (c.setIfInBounds 1 (.int .i32 1)).toList = freshRow.set 1 (.int .i32 1) := by rw [toList_set, hc]
  have h0 : (w.setCell ⟨b, 1, none⟩ (.int .i32 1)).cell? ⟨b, 0, none⟩ = some (.int .u32 0) := a1.cell (by rw [← Array.getElem?_toList, l1]; rfl)
  have hbuild := build_calls a1 (by rw [l1]; exact fresh_fits)
  rw [l1] at hbuild
  go_enter_defers Try.func96, Try.ntmps96
  go_wp2_with (first | (go_at_call 100; refine (once_lock b 1 _ h1 f1).mono ?_; rintro e w' ⟨rfl, rfl⟩) | (go_at_call 95; refine (once_load b 0 _ h0).mono ?_; rintro e w' ⟨rfl, rfl⟩) | (go_at_call 81; refine hbuild.mono ?_; rintro e w' ⟨rfl, c2, a2, l2, e2⟩))
  have hrow : c2.toList = (buildN [freshRow.set 1 (.int .i32 1)] 255).1.headD [] := by rw [← l2]; rfl
  have k0 : c2[0]? = some (.int .u32 0) := by rw [← Array.getElem?_toList, hrow]; exact built_0
  have k1 : c2[1]? = some (.int .i32 1) := by rw [← Array.getElem?_toList, hrow]; exact built_1
  obtain ⟨a3, e3⟩ := a2.drew
  obtain ⟨a4, e4⟩ := a3.set 0 (.int .u32 1)
  obtain ⟨a5, e5⟩ := a4.set 1 (.int .i32 0)
  refine leaves_cons (f := 102) (args := #[.pointer (some ⟨b, 0, none⟩), .bool true]) (by simp) (by simp [go_sem]) ?_
  refine (once_store ⟨b, 0, none⟩ (.int .u32 0) .returning _ (a2.cell k0) (a2.frozen 0)).mono ?_
  rintro e u' w'' ⟨rfl, rfl, rfl⟩
  refine leaves_cons (f := 101) (args := #[.pointer (some ⟨b, 1, none⟩)]) (by simp [settle]) (by simp [go_sem]) ?_
  refine (once_unlock b 1 _ _ (a4.cell (by simp [k1])) (a4.frozen 1)).mono ?_
  rintro e u' w'' ⟨rfl, rfl, rfl⟩
  have hfin : [((c2.setIfInBounds 0 (.int .u32 1)).setIfInBounds 1 (.int .i32 0)).toList] = doneD := by
    rw [toList_set, toList_set, hrow]; exact built_done
  simp [Leaves, settle, results, Try.results96]
  exact ⟨_, a5, hfin, e1.trans (e2.trans (e3.trans (e4.trans e5)))⟩
set_option maxRecDepth 100000 in
theorem once_first (b : Nat) (c : Array Value) (w : World) (hb : At w b c) (hc : c.toList = freshRow) :
    Calls Try.prog 80 #[.pointer (some ⟨b, 0, none⟩), .func (.func 81) #[.pointer (some ⟨b, 0, none⟩)] #[]] w fun e w' => e = .returned (.tuple #[]) ∧ ∃ c', At w' b c' ∧ [c'.toList] = doneD ∧ Else w w' b := by
  have hnot := once_not
  have h0 : w.cell? ⟨b, 0, none⟩ = some (.int .u32 0) := hb.cell (by rw [← Array.getElem?_toList, hc]; rfl)
  have hslow := once_slow b c w hb hc
  go_enter Try.func80, Try.ntmps80
  go_wp2_with (first | (go_at_call 95; refine (once_load b 0 _ h0).mono ?_; rintro e w' ⟨rfl, rfl⟩) | (go_at_call 96; refine hslow.mono ?_; rintro e w' ⟨rfl, c2, a2, l2, e2⟩))
  all_goals (try go_end0)
  exact ⟨rfl, c2, a2, l2, e2⟩
end Go.Proofs
