/- Pieces of a star; what reads stays readable in more memory. -/
import Derived.Test.YtkiheclcmgbmnaaEC
set_option linter.unusedSimpArgs false
set_option linter.unusedVariables false
namespace Go.Proofs
open Go Go.Eng

theorem star_mem {ρ : Env} {x : SH} : ∀ {l : List SH} {h : Hp}, star ρ l h → x ∈ l → ∃ hx, Hp.le hx h ∧ x.den ρ hx
  | [], _, _, hx => by cases hx
  | y :: l, h, ⟨h1, h2, hd, hu, hy, hs⟩, hx => by
    subst hu
    rcases List.mem_cons.1 hx with rfl | hx
    · exact ⟨h1, Hp.le_left _ _, hy⟩
    · obtain ⟨g, g1, g2⟩ := star_mem hs hx
      exact ⟨g, Hp.le_trans g1 (Hp.le_right hd), g2⟩
theorem Rd_mono {h h' : Hp} {pat : List CK} {v : Value} {d : List (List Value)} (hr : Rd h pat v d) (hl : Hp.le h h') : Rd h' pat v d := by
  rcases hr with h0 | ⟨b, o, cap, c, ty, fr, h1, h2, h3, h4⟩
  · exact .inl h0
  · exact .inr ⟨b, o, cap, c, ty, fr, h1, h2, hl _ _ h3, h4⟩
/-- An owned block's slice reads as its rows. -/
theorem arr_Rd {ρ : Env} {r : Nat} {ty : TypeId} {pat : List CK} {d cap : T} {h H : Hp} {n : Nat} {k : Nat} (hx : SH.den ρ (.arr r ty pat d cap) h) (hl : Hp.le h H) (hn : n = (d.den ρ).d.length) (hc : k = (cap.den ρ).i.toNat) :
    Rd H pat (.slice (addrOf (ρ r).r 0) n k) (d.den ρ).d := by
  rcases hx with ⟨h1, h2, h3⟩ | ⟨b, c, h1, h2, h3, h4, h5⟩
  · refine .inl ⟨none, ?_, h2⟩
    rw [h1, hn, h2, hc, h3]; rfl
  · refine .inr ⟨b, 0, k, c, ty, (0, 0), by rw [h1, hn]; rfl, by omega, hl _ _ h2, h5⟩
theorem star_mem_abs {ρ : Env} {l : List SH} {H : Hp} (hs : star ρ l H) {n t : Nat} (hm : SH.abs n t ∈ l) : ∃ hb, Hp.le hb H ∧ Hp.le (ρ n).h hb := by
  obtain ⟨hb, lb, db⟩ := star_mem hs hm
  have db : Hp.le (ρ n).h hb ∧ Hp.free (ρ n).h := by simpa [SH.den] using db
  exact ⟨hb, lb, db.1⟩
end Go.Proofs
