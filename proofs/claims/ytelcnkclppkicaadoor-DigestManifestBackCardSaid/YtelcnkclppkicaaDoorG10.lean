/- Texts CI, E13, E14. -/
import Derived.Test.YtelcnkclppkicaaDoorG9
import Derived.Test.YtelcnkclppkicaaDoorG5
import Derived.WalkKit
import Derived.ProofKit
import Derived.OpenShut
import Derived.Carry
import Derived.SizedLaws
set_option linter.unusedSimpArgs false
set_option linter.unusedVariables false
namespace Go.Proofs
open Go Go.Eng
set_option maxRecDepth 20000
/-! ### A manifest's bytes -/
theorem beL_one {v : Int} : beL v 1 = [v % 256] := by simp [beL]
theorem beL_two {v : Int} (h : 0 ≤ v) : beL v 2 = [v / 256 % 256, v % 256] := by rw [beL_succ h, beL_one]; rfl
theorem head_eq {k n t s : Int} {o : List Int} (hk : 0 ≤ k ∧ k < 256) (hn : 0 ≤ n ∧ n < 256) (ht : 0 ≤ t ∧ t < 256) (hs : 0 ≤ s ∧ s < 65536) : manHead k n t s o = 77 :: 1 :: k :: n :: t :: (s / 256) :: (s % 256) :: o := by
  rw [manHead, beL_two (v := 19713) (by decide), beL_one, beL_one, beL_one, beL_two (v := s % 65536) (by omega), Int.emod_eq_of_lt hk.1 hk.2, Int.emod_eq_of_lt hn.1 hn.2, Int.emod_eq_of_lt ht.1 ht.2, Int.emod_eq_of_lt hs.1 hs.2, Int.emod_eq_of_lt hk.1 hk.2, Int.emod_eq_of_lt hn.1 hn.2, Int.emod_eq_of_lt ht.1 ht.2, Int.emod_eq_of_lt (show 0 ≤ s / 256 by omega) (by omega)]
  rfl
theorem flat_len {l : List (List Int)} (h : ∀ x ∈ l, x.length = 32) : l.flatten.length = 32 * l.length := by
  induction l with
  | nil => rfl
  | cons x r ih =>
    rw [List.flatten_cons, List.length_append, h x (List.mem_cons_self ..), ih (fun y hy => h y (List.mem_cons_of_mem _ hy)), List.length_cons]; omega
theorem flat_at {l : List (List Int)} (h : ∀ x ∈ l, x.length = 32) : ∀ {j : Nat} (hj : j < l.length), (l.flatten.drop (32 * j)).take 32 = l[j] := by
  induction l with
  | nil => intro j hj; simp at hj
  | cons x r ih =>
    intro j hj
    have hx := h x (List.mem_cons_self ..)
    cases j with
    | zero => simp [List.take_left' hx]
    | succ j =>
      rw [List.flatten_cons, show 32 * (j + 1) = x.length + 32 * j by omega, List.drop_length_add_append]
      exact ih (fun y hy => h y (List.mem_cons_of_mem _ hy)) (by simpa using hj)
theorem chunks_flat {m : List Int} : ∀ {n : Nat}, 39 + 32 * n ≤ m.length → ((List.range n).map (chunk m)).flatten = (m.drop 39).take (32 * n)
  | 0, _ => by simp
  | n + 1, h => by
    rw [List.range_succ, List.map_append, List.flatten_append, chunks_flat (by omega), show 32 * (n + 1) = 32 * n + 32 by omega, List.take_add]
    simp [chunk, List.drop_drop]
theorem dgs_32 {D : Rows'} : ∀ x ∈ dgs D, x.length = 32 := fun x hx => by
  obtain ⟨r, _, rfl⟩ := List.mem_map.1 hx
  simp [rowB]
/-- What is read from the bytes of a manifest. -/
theorem dec_of_enc {k n t s l : Int} {o : List Int} {D : Rows'} (hok : manOk k n t s l = true) (ho : o.length = 32) (hl : l = D.length) : decE (manHead k n t s o ++ (dgs D).flatten) = 0 ∧ at0 (manHead k n t s o ++ (dgs D).flatten) 2 = k ∧ at0 (manHead k n t s o ++ (dgs D).flatten) 3 = n ∧ at0 (manHead k n t s o ++ (dgs D).flatten) 4 = t ∧ decS (manHead k n t s o ++ (dgs D).flatten) = s ∧ ((manHead k n t s o ++ (dgs D).flatten).drop 7).take 32 = o ∧ (List.range t.toNat).map (chunk (manHead k n t s o ++ (dgs D).flatten)) = dgs D := by
  have hb := hok
  simp [manOk, sizes3] at hb
  obtain ⟨⟨b1, b2, b3, b4⟩, b5, b6, b7⟩ := hb
  have hfl := flat_len (dgs_32 (D := D))
  rw [dgs_len] at hfl
  rw [head_eq (by omega) (by omega) (by omega) (by omega)]
  generalize hF : (dgs D).flatten = F at hfl
  have hM : (77 :: 1 :: k :: n :: t :: (s / 256) :: (s % 256) :: o) ++ F = 77 :: 1 :: k :: n :: t :: (s / 256) :: (s % 256) :: (o ++ F) := rfl
  rw [hM]
  generalize hMM : 77 :: 1 :: k :: n :: t :: (s / 256) :: (s % 256) :: (o ++ F) = M
  have a0 : at0 M 0 = 77 := by rw [← hMM]; rfl
  have a1 : at0 M 1 = 1 := by rw [← hMM]; rfl
  have a2 : at0 M 2 = k := by rw [← hMM]; rfl
  have a3 : at0 M 3 = n := by rw [← hMM]; rfl
  have a4 : at0 M 4 = t := by rw [← hMM]; rfl
  have a5 : at0 M 5 = s / 256 := by rw [← hMM]; rfl
  have a6 : at0 M 6 = s % 256 := by rw [← hMM]; rfl
  have aS : decS M = s := by rw [decS, a5, a6]; omega
  have hlen : M.length = 39 + 32 * D.length := by rw [← hMM]; simp only [List.length_cons, List.length_append, ho]; omega
  have hd7 : M.drop 7 = o ++ F := by rw [← hMM]; rfl
  refine ⟨?_, a2, a3, a4, aS, by rw [hd7, List.take_left' ho], ?_⟩
  · rw [decE_head (by omega) a0 a1 (by rw [a2, a3, a4]; exact decide_eq_true ⟨b1, b2, b3, b4⟩) (by omega), a4, if_neg (by omega), if_neg (by omega)]
  · refine List.ext_getElem (by rw [List.length_map, List.length_range, dgs_len]; omega) fun j h1 h2 => ?_
    rw [List.getElem_map, List.getElem_range, ← flat_at dgs_32 h2, hF, chunk, show 39 + 32 * j = 7 + (32 + 32 * j) by omega, ← List.drop_drop, hd7, ← List.drop_drop, List.drop_left' ho]
/-- The bytes of what is read from bytes. -/
theorem enc_of_dec {m : List Int} {k n t s l : Int} {o : List Int} {D : Rows'} (hm : allM m) (hE : decE m = 0) (hH : decH m k n t s) (hO : o = (m.drop 7).take 32) (hP : decP m (at0 m 4) l D) : manOk k n t s l = true ∧ manHead k n t s o ++ (dgs D).flatten = m := by
  obtain ⟨rfl, rfl, rfl, rfl⟩ := hH
  obtain ⟨p1, p2, _, p4⟩ := hP
  by_cases h7 : m.length < 7
  · rw [decE, if_pos h7] at hE; cases hE
  match m, h7 with
  | a :: b :: c :: d :: e :: f :: g :: r, _ =>
    have q : ∀ x ∈ (a :: b :: c :: d :: e :: f :: g :: r), 0 ≤ x ∧ x < 256 := hm
    obtain ⟨c0, c1⟩ := q c (by simp)
    obtain ⟨d0, d1⟩ := q d (by simp)
    obtain ⟨e0, e1⟩ := q e (by simp)
    obtain ⟨f0, f1⟩ := q f (by simp)
    obtain ⟨g0, g1⟩ := q g (by simp)
    rw [decE, if_neg (by simp)] at hE
    by_cases hv : at0 (a :: b :: c :: d :: e :: f :: g :: r) 0 ≠ 77 ∨ at0 (a :: b :: c :: d :: e :: f :: g :: r) 1 ≠ 1
    · rw [if_pos hv] at hE; cases hE
    rw [if_neg hv] at hE
    have hab : a = 77 ∧ b = 1 := by
      have h1 : ¬ (a ≠ 77 ∨ b ≠ 1) := hv
      omega
    by_cases hz : sizes3 (at0 (a :: b :: c :: d :: e :: f :: g :: r) 2) (at0 (a :: b :: c :: d :: e :: f :: g :: r) 3) (at0 (a :: b :: c :: d :: e :: f :: g :: r) 4) = false ∨ 8192 < decS (a :: b :: c :: d :: e :: f :: g :: r)
    · rw [if_pos hz] at hE; cases hE
    rw [if_neg hz] at hE
    have hlen : (a :: b :: c :: d :: e :: f :: g :: r).length = 7 + r.length := by simp only [List.length_cons]; omega
    rw [hlen] at hE
    have hLr : ((7 + r.length : Nat) : Int) = 39 + 32 * e := by
      change (if ((7 + r.length : Nat) : Int) < 39 + 32 * e then (4 : Int) else if 39 + 32 * e < ((7 + r.length : Nat) : Int) then 5 else 0) = 0 at hE
      split at hE
      · cases hE
      · split at hE
        · cases hE
        · omega
    have hS : decS (a :: b :: c :: d :: e :: f :: g :: r) = f * 256 + g := rfl
    have hsz : sizes3 c d e = true := by
      have : ¬ (sizes3 c d e = false ∨ _) := hz
      cases hx : sizes3 c d e with
      | true => rfl
      | false => exact absurd (.inl hx) this
    have hs8 : ¬ 8192 < f * 256 + g := fun h => hz (.inr h)
    have ht : at0 (a :: b :: c :: d :: e :: f :: g :: r) 4 = e := rfl
    rw [ht] at p2 p4 ⊢
    refine ⟨?_, ?_⟩
    · show manOk c d e (decS _) l = true
      rw [hS, manOk, hsz, Bool.true_and]
      exact decide_eq_true ⟨by omega, by omega, p2⟩
    · show manHead c d e (decS _) o ++ _ = _
      rw [hS, head_eq ⟨c0, c1⟩ ⟨d0, d1⟩ ⟨e0, e1⟩ (by omega), p4, chunks_flat (by rw [hlen]; omega), hO, hab.1, hab.2, show (f * 256 + g) / 256 = f by omega, show (f * 256 + g) % 256 = g by omega]
      show 77 :: 1 :: c :: d :: e :: f :: g :: (List.take 32 r ++ List.take (32 * e.toNat) (List.drop 32 r)) = _
      rw [List.take_of_length_le (l := List.drop 32 r) (by rw [List.length_drop]; omega), List.take_append_drop]
theorem own_ok : ownC.ok Tryd.prog := own_of (by simp) fun ρ hg hp => by
  obtain ⟨hl, h1⟩ := hp
  simp (config := { maxSteps := 2000000 }) [o_own, ownC, manV, manT, cellsT]
  exact ⟨by omega, by omega, by omega, List.take_of_length_le (by omega)⟩
theorem lawManifestBack_ok (hk : knownC.ok Tryd.prog) : lawManifestBackC.ok Tryd.prog := lawManifestBack_of (by simp [hk, own_ok, checkM_ok, encMan_ok, decM_ok, same_ok]) fun ρ hg hp => by
  obtain ⟨⟨ik, i1, it, is, hO, hl, hl1, hD⟩, ⟨bl, bl1, bB⟩, hGr, hGd⟩ := hp
  simp only [Nat.reduceAdd] at ik i1 it is hO hl hl1 hD bl bl1 bB
  simp (config := { maxSteps := 4000000 }) [o_lawManifestBack, lawManifestBackC, knownC, ownC, checkMC, encManC, decMC, sameC, decAlts, decPre, lawTrue, gOk, manV, manT, cellsT]
  have hbt : List.take (ρ 11).i.toNat (ρ 13).d = (ρ 13).d := List.take_of_length_le (by omega)
  have hMm : allM (bI (ρ 13).d) := fun x hx => allB_list bB x hx
  simp only [hbt]
  refine ⟨by omega, fun _ => ⟨hGr, hGd⟩, fun h400 => ⟨by omega, fun _ => ⟨hGr, hGd⟩, fun h2 => ⟨⟨hl, hl1⟩, fun D1 _ hD1 => ⟨by omega, fun u _ hu => ⟨fun hu0 => ?_, fun hu0 => ⟨by omega, by omega, ⟨by omega, by omega, bB⟩, fun w _ hw hw0 => ⟨fun _ => ⟨hGr, hGd⟩, fun h => absurd h hw0⟩, fun k _ n _ t _ s _ O _ L _ D _ hE dH dO dP => by
      obtain ⟨ok, eq⟩ := enc_of_dec (m := bI (ρ 13).d) hMm hE dH dO dP
      have hOm : allM (rowL O.d 32) := by rw [dO]; exact fun x hx => hMm x (List.drop_subset _ _ (List.take_subset _ _ hx))
      exact ⟨⟨by have := dP.1; omega, dP.1, hOm, dP.2.2.1⟩, fun hf => (by rw [ok] at hf; cases hf), fun cl' _ cd' _ _ hcl' _ hcd' => ⟨by have := dP.1; omega, fun z _ hz => ⟨fun _ => ⟨by omega, by omega, fun _ => ⟨hGr, hGd⟩, by rw [bytesOf_bI, bytesOf_bI, List.take_of_length_le (by omega), hcd'.trans eq]⟩, by rw [hz, if_pos ok]⟩⟩⟩⟩⟩⟩⟩⟩⟩
  have hok : manOk (ρ 0).i (ρ 1).i (ρ 2).i (ρ 3).i (ρ 6).i = true := by
    by_cases h : manOk (ρ 0).i (ρ 1).i (ρ 2).i (ρ 3).i (ρ 6).i = true
    · exact h
    · rw [if_neg h] at hu; omega
  refine ⟨⟨hl, hl1⟩, fun D2 _ hD2 => ⟨⟨by omega, by rw [hD2]; exact hl, hO, by rw [hD2]; exact hD⟩, fun hf => (by rw [hok] at hf; cases hf), fun cl _ cd _ _ hcl hcB hcd => ?_⟩⟩
  have hcd2 : bI cd.d = manHead (ρ 0).i (ρ 1).i (ρ 2).i (ρ 3).i (rowL (ρ 4).d 32) ++ (dgs (ρ 8).d).flatten := by rw [← hD2]; exact hcd
  have dec := dec_of_enc (o := rowL (ρ 4).d 32) hok rowL_len hl
  rw [← hcd2] at dec
  obtain ⟨zE, z2, z3, z4, zS, zO, zP⟩ := dec
  have hlen := congrArg List.length hcd2
  rw [List.length_append, flat_len dgs_32, dgs_len, bI_len] at hlen
  have hhead : (manHead (ρ 0).i (ρ 1).i (ρ 2).i (ρ 3).i (rowL (ρ 4).d 32)).length = 39 := by simp [manHead, beL_len, rowL_len]
  refine ⟨⟨hcl, by omega, hcB⟩, fun w _ hw hw0 => by exfalso; omega, fun k' _ n' _ t' _ s' _ O' _ L' _ D' _ hE dH dO dP => ⟨⟨hl, dP.1, by omega⟩, fun b _ hb => ?_⟩⟩
  have hbt' : b.b = true := hb (dH.1.trans z2).symm (dH.2.1.trans z3).symm (dH.2.2.1.trans z4).symm (dH.2.2.2.trans zS).symm (Eq.trans (b := (bI cd.d).drop 7 |>.take 32) zO.symm dO.symm) (dP.2.2.2.trans (by rw [z4]; exact zP)).symm
  exact ⟨hbt', fun _ => ⟨by omega, by omega, ⟨by omega, by omega, bB⟩, fun w _ hw hw0 => ⟨fun _ => ⟨hGr, hGd⟩, fun h => absurd h hw0⟩, fun k _ n _ t _ s _ O _ L _ D _ hE dH dO dP => by
      obtain ⟨ok, eq⟩ := enc_of_dec (m := bI (ρ 13).d) hMm hE dH dO dP
      have hOm : allM (rowL O.d 32) := by rw [dO]; exact fun x hx => hMm x (List.drop_subset _ _ (List.take_subset _ _ hx))
      exact ⟨⟨by have := dP.1; omega, dP.1, hOm, dP.2.2.1⟩, fun hf => (by rw [ok] at hf; cases hf), fun cl' _ cd' _ _ hcl' _ hcd' => ⟨by have := dP.1; omega, fun z _ hz => ⟨fun _ => ⟨by omega, by omega, fun _ => ⟨hGr, hGd⟩, by rw [bytesOf_bI, bytesOf_bI, List.take_of_length_le (by omega), hcd'.trans eq]⟩, by rw [hz, if_pos ok]⟩⟩⟩⟩⟩
end Go.Proofs

set_option linter.unusedSimpArgs false
set_option linter.unusedVariables false
namespace Go.Eng
open Go Go.ChangeShapes Go.WideShapes Go.ChangeAt Go.RowKit

/-- Of what was there nothing has turned. -/
structure Grew (W w' : World) : Prop where
  os : w'.os = W.os
  out : w'.output = W.output
  blk : ∀ (b : Nat) (o : Obj), W.heap[b]? = some o → w'.heap[b]? = some o

theorem Grew.block {W w' : World} (h : Grew W w') {i : Nat} (hi : i < W.heap.size) : w'.heap[i]? = W.heap[i]? := by
  rw [Array.getElem?_eq_getElem hi]; exact h.blk i _ (Array.getElem?_eq_getElem hi)

theorem Grew.kept {W w' : World} (h : Grew W w') (may : MemPlace → Prop) : W.keptBut w' may := by
  refine ⟨h.os, h.out, fun i hi => ?_⟩
  rw [h.block hi, Array.getElem?_eq_getElem hi]
  cases W.heap[i] <;> simp

theorem Grew.trodAll {H : Type} {enc : TypeId × Value → H} {P : Program} {W W' : World} (hg : Grew W W') (hl : laidOutB P = true) {sp : Nat → Bool} : ∀ {ts : List TypeId} {vs : List Value} {ds : List (DataW H)} {ps : List MemPlace},
    (∀ t ∈ ts, P.readableRec t = true ∧ t < P.types.size) → DataW.TrodAll enc P W 0 (fun _ => true) true ts vs ds ps → (∀ p ∈ ps, p.block < W.heap.size) → (∀ p ∈ ps, sp p.block = true) →
    DataW.TrodAll enc P W' 0 sp true ts vs ds ps
  | [], [], [], _, _, h, _, _ => h
  | _ :: _, _ :: _, _ :: _, _, hT, ⟨p, q, h1, h2, e⟩, hlt, hs => by
    subst e
    refine ⟨p, q, ?_, Grew.trodAll hg hl (fun t ht => hT t (List.mem_cons_of_mem _ ht)) h2 (fun x hx => hlt x (List.mem_append_right _ hx)) (fun x hx => hs x (List.mem_append_right _ hx)), rfl⟩
    have hr := hT _ (List.mem_cons_self ..)
    refine WideElems.Trod_stays hl hr.1 hr.2 h1 (fun x hx => ?_) (fun x hx => hs x (List.mem_append_left _ hx))
    have hb := hg.block (hlt x (List.mem_append_left _ hx))
    cases x with
    | cell b o => exact World.cell?_of_block (w := W) hb
    | map b => exact hb

/-- The call's contract, at the whole memory as its frame. -/
theorem law_calls {P : Program} {c : Ctr} (hok : c.ok P) (hheap : c.heap = []) (halts : ∀ al ∈ c.alts, al.ret = .one (.vbool (.bl true))) {ρ : Env} (hg : ρ.good) (W : World)
    (hro : ∀ x ∈ c.ro, x.roden ρ (fun b => W.heap[b]?)) (hpre : c.pre ρ) :
    Calls P c.fn (c.args.map (SV.den ρ)).toArray W fun e W' => e = .returned (.bool true) ∧ Grew W W' := by
  have h := hok.2 ρ W ⟨fun b => W.heap[b]?, W.os, W.output⟩ Hp.emp hg (Hp.disj_emp _)
    ⟨fun b o hb => by simpa [Hp.union, Hp.emp] using hb, rfl, rfl⟩ (by rw [hheap]; trivial) hro hpre
  refine h.mono fun e w' hq => ?_
  obtain ⟨ai, al, ρ', hal, _, _, rfl, _, hO, _, _, hsub, hwi⟩ := hq
  refine ⟨by rw [halts al (List.mem_of_getElem? hal)]; rfl, ⟨hwi.1, hwi.2, fun b o hb => hsub b o ?_⟩⟩
  simp [Hp.union, hb]

theorem law_post {H : Type} {enc : TypeId × Value → H} {P : Program} {f : Func} {s : ChangeSpec} {W W' : World} {args : Array Value} {ds gs : List (DataW H)} {before : List MemPlace} {bt : TypeId}
    (hl : laidOutB P = true) (hT : ∀ t ∈ f.params.toList, P.readableRec t = true ∧ t < P.types.size) (hvars : s.vars = []) (hrt : f.resultTypes = #[bt]) (hbt : P.underlying bt = some .bool)
    (hfn : ∀ ds' : List (DataW H), ds'.length = f.params.size → s.fn H ds' = { results := [.lit (.bool true)], args := ds' })
    (hW : DataW.Whole enc P f.params.toList s.vars false W args.toList ds gs before) (hg : Grew W W') : s.post enc P f false true false false W args (.bool true) W' := by
  have hlt := hW.lt
  have hW0 := hW
  obtain ⟨p, q, hA, hV, hpq, hz, hn⟩ := hW
  rw [hvars] at hV
  obtain ⟨rfl, rfl⟩ := trodVars_none hV
  have hlen : ds.length = f.params.size := by
    have : ∀ {ts : List TypeId} {vs : List Value} {ds : List (DataW H)} {ps : List MemPlace}, DataW.TrodAll enc P W 0 (fun _ => true) true ts vs ds ps → ds.length = ts.length := by
      intro ts
      induction ts with
      | nil => intro vs ds ps h; cases vs <;> cases ds <;> simp_all [DataW.TrodAll]
      | cons t ts ih =>
        intro vs ds ps h
        cases vs <;> cases ds <;> simp_all [DataW.TrodAll]
        obtain ⟨p, q, _, h2, _⟩ := h
        exact ih h2
    simpa using this hA
  have hlt' : ∀ x ∈ p, x.block < W.heap.size := fun x hx => hlt x (by rw [hpq]; exact List.mem_append_left _ hx)
  refine ⟨ds, [], before, [], p, [], hW0, ?_, ?_, ?_, hg.kept _, fun h => by cases h⟩
  · rw [List.append_nil, hfn ds hlen, hrt]
    exact ⟨[], [], ⟨1, by simp [DataW.trod, hbt, Value.cells]⟩, rfl, rfl⟩
  · rw [List.append_nil, hfn ds hlen]
    exact hg.trodAll hl hT hA hlt' (fun x hx => by simpa using hlt' x hx)
  · rw [List.append_nil, hfn ds hlen, hvars]
    rfl

/-- What is asked of a law's call. -/
theorem law_call {H : Type} {enc : TypeId × Value → H} {P : Program} {f : Func} {s : ChangeSpec} {c : Ctr} {W : World} {args : Array Value} {ds gs : List (DataW H)} {before : List MemPlace} {bt : TypeId} {ρ : Env}
    (hok : c.ok P) (hheap : c.heap = []) (halts : ∀ al ∈ c.alts, al.ret = .one (.vbool (.bl true)))
    (hl : laidOutB P = true) (hT : ∀ t ∈ f.params.toList, P.readableRec t = true ∧ t < P.types.size) (hvars : s.vars = []) (hrt : f.resultTypes = #[bt]) (hbt : P.underlying bt = some .bool)
    (hfn : ∀ ds' : List (DataW H), ds'.length = f.params.size → s.fn H ds' = { results := [.lit (.bool true)], args := ds' })
    (hW : DataW.Whole enc P f.params.toList s.vars false W args.toList ds gs before)
    (hg : ρ.good) (hargs : args = (c.args.map (SV.den ρ)).toArray) (hro : ∀ x ∈ c.ro, x.roden ρ (fun b => W.heap[b]?)) (hpre : c.pre ρ) :
    Calls P c.fn args W fun e W' => ∃ v, e = .returned v ∧ s.post enc P f false true false false W args v W' := by
  rw [hargs]
  refine (law_calls hok hheap halts hg W hro hpre).mono fun e W' ⟨he, hgr⟩ => ⟨_, he, ?_⟩
  rw [← hargs]
  exact law_post hl hT hvars hrt hbt hfn hW hgr
end Go.Eng

set_option linter.unusedSimpArgs false
set_option linter.unusedVariables false
namespace Go.Eng
open Go Go.ChangeShapes Go.WideShapes Go.ChangeAt Go.RowKit

def patFs (P : Program) (f : TypeId → Option (List CK)) : List Field → Nat → Option (List CK)
  | [], _ => some []
  | x :: fs, off =>
    if Nat.beq x.offset off then
      match f x.type with
      | some p => if Nat.beq p.length (P.cellsOf x.type) then (patFs P f fs (off + p.length)).map (p ++ ·) else none
      | none => none
    else none
def patArr (p : List CK) : Nat → List CK
  | 0 => []
  | n + 1 => p ++ patArr p n
/-- The kinds of a type's cells. -/
def patP (P : Program) : Nat → TypeId → Option (List CK)
  | 0, _ => none
  | n + 1, t =>
    match P.underlying t with
    | some (.int k) => some [.int k]
    | some .bool => some [.bool]
    | some .string => some [.any]
    | some (.slice _) => some [.any]
    | some (.pointer _) => some [.any]
    | some (.struct fs) => match patFs P (patP P n) fs.toList 0 with
      | some p => if Nat.beq p.length (P.cellsOf t) then some p else none
      | none => none
    | some (.array m e) => match patP P n e with
      | some p => if Nat.beq p.length (P.cellsOf e) && Nat.beq (P.cellsOf t) (m * P.cellsOf e) then some (patArr p m) else none
      | none => none
    | _ => none

theorem fitsRow_append {p q : List CK} {cs : List Value} (h1 : fitsRow p (cs.take p.length)) (h2 : fitsRow q (cs.drop p.length)) : fitsRow (p ++ q) cs := by
  obtain ⟨a1, a2⟩ := h1
  obtain ⟨b1, b2⟩ := h2
  have hle : p.length ≤ cs.length := by simp at a1; omega
  refine ⟨by simp at a1 b1 ⊢; omega, fun c k v hk hv => ?_⟩
  by_cases hc : c < p.length
  · rw [List.getElem?_append_left hc] at hk
    exact a2 c k v hk (by rw [List.getElem?_take, if_pos hc]; exact hv)
  · rw [List.getElem?_append_right (by omega)] at hk
    exact b2 (c - p.length) k v hk (by rw [List.getElem?_drop, show p.length + (c - p.length) = c by omega]; exact hv)

section
variable {H : Type} {enc : TypeId × Value → H} {P : Program} {w : World} {base : Nat} {spare : Nat → Bool} {held : Bool}

theorem fits_one_any {v : Value} (h : v.oneCell' = true) : fitsRow [.any] [v] := ⟨rfl, fun c k v' hk hv => by
  cases c with
  | zero => simp at hk hv; subst hk; subst hv; exact h
  | succ c => simp at hk⟩

theorem patFs_fits {f : TypeId → Option (List CK)} {cs : List Value} (hf : ∀ t p, f t = some p → ∀ cs', (∃ fuel x, DataW.trod enc P w base spare held fuel t cs' = some x) → fitsRow p cs') :
    ∀ {fs : List Field} {off : Nat} {p : List CK}, patFs P f fs off = some p → (∀ x ∈ fs, ∃ fuel y, DataW.trod enc P w base spare held fuel x.type ((cs.drop x.offset).take (P.cellsOf x.type)) = some y) → off + p.length = cs.length → fitsRow p (cs.drop off)
  | [], off, p, h, _, hl => by
    simp only [patFs, Option.some.injEq] at h; subst h
    simp at hl
    refine ⟨by simp; omega, fun c k v hk => by simp at hk⟩
  | x :: fs, off, p, h, ht, hl => by
    simp only [patFs] at h
    split at h
    · rename_i ho
      have ho := Nat.eq_of_beq_eq_true ho
      split at h
      · rename_i p1 hp1
        split at h
        · rename_i hc
          have hc := Nat.eq_of_beq_eq_true hc
          simp only [Option.map_eq_some_iff] at h
          obtain ⟨p2, hp2, rfl⟩ := h
          simp only [List.length_append] at hl
          have h1 := hf x.type p1 hp1 _ (ht x (List.mem_cons_self ..))
          rw [ho, ← hc] at h1
          have h2 := patFs_fits hf hp2 (fun y hy => ht y (List.mem_cons_of_mem _ hy)) (by omega)
          exact fitsRow_append h1 (by rw [List.drop_drop]; exact h2)
        · simp at h
      · simp at h
    · simp at h

theorem patArr_fits {p : List CK} : ∀ {m : Nat} {cs : List Value}, cs.length = m * p.length → (∀ i, i < m → fitsRow p ((cs.drop (i * p.length)).take p.length)) → fitsRow (patArr p m) cs
  | 0, cs, hl, _ => by
    simp at hl; subst hl
    exact ⟨rfl, fun c k v hk => by simp [patArr] at hk⟩
  | m + 1, cs, hl, h => by
    simp only [patArr]
    refine fitsRow_append (by simpa using h 0 (by omega)) (patArr_fits (by rw [List.length_drop, hl, Nat.add_mul]; omega) fun i hi => ?_)
    rw [List.drop_drop, show p.length + i * p.length = (i + 1) * p.length by rw [Nat.add_mul]; omega]
    exact h (i + 1) (by omega)

theorem trod_fits : ∀ (n : Nat) {t : TypeId} {pat : List CK}, patP P n t = some pat → ∀ cs, (∃ fuel x, DataW.trod enc P w base spare held fuel t cs = some x) → fitsRow pat cs
  | 0, t, pat, h, _, _ => by simp [patP] at h
  | n + 1, t, pat, h, cs, ⟨fuel, x, hx⟩ => by
    simp only [patP] at h
    split at h
    · rename_i k hu
      simp only [Option.some.injEq] at h; subst h
      obtain ⟨z, rfl, _, _⟩ := DataW.trod_int hu hx
      refine ⟨rfl, fun c k' v hk hv => ?_⟩
      cases c with
      | zero => simp at hk hv; subst hk; subst hv; simp [CK.fits]
      | succ c => simp at hk
    · rename_i hu
      simp only [Option.some.injEq] at h; subst h
      cases fuel with
      | zero => simp [DataW.trod] at hx
      | succ m =>
        unfold DataW.trod at hx
        rw [hu] at hx
        split at hx <;> simp_all
        refine ⟨rfl, fun c k' v hk hv => ?_⟩
        cases c with
        | zero => simp at hk hv; subst hk; subst hv; simp [CK.fits]
        | succ c => simp at hk
    · rename_i hu
      simp only [Option.some.injEq] at h; subst h
      cases fuel with
      | zero => simp [DataW.trod] at hx
      | succ m =>
        unfold DataW.trod at hx
        rw [hu] at hx
        split at hx <;> simp_all
        exact fits_one_any rfl
    · rename_i e hu
      simp only [Option.some.injEq] at h; subst h
      rcases DataW.trod_slice hu hx with ⟨rfl, _⟩ | ⟨a, len, cap, elems, rest, m, _, rfl, _⟩
      · exact fits_one_any rfl
      · exact fits_one_any rfl
    · rename_i e hu
      simp only [Option.some.injEq] at h; subst h
      cases fuel with
      | zero => simp [DataW.trod] at hx
      | succ m =>
        unfold DataW.trod at hx
        rw [hu] at hx
        split at hx <;> simp_all
        all_goals exact fits_one_any rfl
    · rename_i fs hu
      split at h
      · rename_i p hp
        split at h
        · rename_i hc
          have hc := Nat.eq_of_beq_eq_true hc
          simp only [Option.some.injEq] at h; subst h
          obtain ⟨xs, m, _, _, hl, hxl, hall⟩ := DataW.trod_struct hu hx
          have := patFs_fits (cs := cs) (f := patP P n) (fun t p hp cs' hh => trod_fits n hp cs' hh) hp (fun y hy => by
            obtain ⟨i, hi⟩ := List.getElem?_of_mem hy
            have hi' : fs[i]? = some y := by simpa using hi
            have h1 := hall i y hi'
            have hlt : i < xs.length := by
              rw [hxl]; exact (Array.getElem?_eq_some_iff.1 hi').1
            exact ⟨m, xs[i], by rw [h1]; simp [hlt]⟩) (by omega)
          simpa using this
        · simp at h
      · simp at h
    · rename_i m e hu
      split at h
      · rename_i p hp
        split at h
        · rename_i hc
          simp only [Bool.and_eq_true] at hc
          have hc1 := Nat.eq_of_beq_eq_true hc.1
          have hc2 := Nat.eq_of_beq_eq_true hc.2
          simp only [Option.some.injEq] at h; subst h
          obtain ⟨xs, k, _, _, hl, hxl, hall⟩ := DataW.trod_array hu hx
          refine patArr_fits (by rw [hl, hc2, hc1]) fun i hi => ?_
          have h1 := hall i hi
          rw [← hc1] at h1
          exact trod_fits n hp _ ⟨k, xs[i]'(by omega), by rw [h1]; simp [hxl, hi]⟩
        · simp at h
      · simp at h
    · simp at h

theorem cells?_get {a : Addr} {n : Nat} {cs : List Value} (h : w.cells? base a n = some cs) : cs.length = n ∧ ∀ i, i < n → w.cell? (a.add i) = cs[i]? := by
  unfold World.cells? at h
  split at h
  · exact ⟨by simpa using mapM_some_length h, fun i hi => by simpa using mapM_some_get h i i (by simp [hi])⟩
  · simp at h

/-- A slice that reads as data: its rows in memory, each of which reads; what it is read as. -/
theorem open_rows {t e : TypeId} {pat : List CK} {n : Nat} {v : Value} {d : DataW H} {ps : List MemPlace} (ht : P.underlying t = some (.slice e)) (hpat : patP P n e = some pat) (hce : P.cellsOf e = pat.length) (hpos : 0 < pat.length)
    {fuel : Nat} (hsp : ∀ b, spare b = true) (hf : DataW.trod enc P w base spare held fuel t [v] = some (d, ps)) :
    ∃ rows : List (List Value), Rd (fun b => w.heap[b]?) pat v rows ∧ (∀ row ∈ rows, ∃ fuel x, DataW.trod enc P w base spare held fuel e row = some x) ∧
      ((d = .nil ∧ rows = []) ∨ ∃ elems sp, d = .slice elems sp ∧ elems.length = rows.length ∧ ∀ (i : Nat) (row : List Value), rows[i]? = some row → ∃ fuel x, DataW.trod enc P w base spare held fuel e row = some x ∧ elems[i]? = some x.1) := by
  rcases DataW.trod_slice ht hf with ⟨h1, h2⟩ | ⟨a, len, cap, elems, rest, m, _, h1, h2, hb, hlc, hcm, hel, hall, hrest, _⟩
  · simp at h1 h2
    exact ⟨[], .inl ⟨_, h1, rfl⟩, by simp, .inl ⟨h2.1, rfl⟩⟩
  · simp at h1 h2
    subst h1
    have hrow : ∀ i, i < len → ∃ cs x, w.cells? base (a.add (i * P.cellsOf e)) (P.cellsOf e) = some cs ∧ DataW.trod enc P w base spare held m e cs = some x ∧ elems[i]? = some x := fun i hi => by
      have := hall i hi
      rw [List.getElem?_eq_getElem (by omega)] at this
      obtain ⟨cs, g1, g2⟩ := Option.bind_eq_some_iff.1 this
      exact ⟨cs, _, g1, g2, List.getElem?_eq_getElem _⟩
    let rows : List (List Value) := (List.range len).map fun i => ((w.cells? base (a.add (i * P.cellsOf e)) (P.cellsOf e)).getD [])
    have hget : ∀ i row, rows[i]? = some row → i < len ∧ w.cells? base (a.add (i * P.cellsOf e)) (P.cellsOf e) = some row := fun i row hr => by
      simp only [rows, List.getElem?_map, Option.map_eq_some_iff] at hr
      obtain ⟨j, hj, rfl⟩ := hr
      have hlt : i < len := by
        have := (List.getElem?_eq_some_iff.1 hj).1; simpa using this
      rw [List.getElem?_range hlt] at hj
      simp only [Option.some.injEq] at hj; subst hj
      obtain ⟨cs, x, g1, _, _⟩ := hrow i hlt
      exact ⟨hlt, by rw [g1]; rfl⟩
    have hrl : rows.length = len := by simp [rows]
    have htr : ∀ row ∈ rows, ∃ fuel x, DataW.trod enc P w base spare held fuel e row = some x := fun row hr => by
      obtain ⟨i, hi⟩ := List.getElem?_of_mem hr
      obtain ⟨hlt, hc⟩ := hget i row hi
      obtain ⟨cs, x, g1, g2, _⟩ := hrow i hlt
      rw [hc] at g1
      simp only [Option.some.injEq] at g1; subst g1
      exact ⟨m, x, g2⟩
    refine ⟨rows, ?_, htr, .inr ⟨_, _, h2.1, by simp [hel, hrl], fun i row hi => ?_⟩⟩
    rotate_left
    · obtain ⟨hlt, hc⟩ := hget i row hi
      obtain ⟨cs, x, g1, g2, g3⟩ := hrow i hlt
      rw [hc] at g1
      simp only [Option.some.injEq] at g1; subst g1
      exact ⟨m, x, g2, by simp [g3]⟩
    by_cases hcap : cap = 0
    · have hl0 : len = 0 := by omega
      have : rows = [] := by apply List.eq_nil_of_length_eq_zero; omega
      exact .inl ⟨some a, by rw [hl0, hcap], this⟩
    have hfirst : ∃ cs, w.cells? base (a.add 0) (P.cellsOf e) = some cs := by
      by_cases hl : 0 < len
      · obtain ⟨cs, _, g1, _, _⟩ := hrow 0 hl
        rw [Nat.zero_mul] at g1
        exact ⟨cs, g1⟩
      · obtain ⟨r1, r2⟩ := hrest (hsp _)
        have := r2 0 (by omega)
        rw [show (len + 0) * P.cellsOf e = 0 by rw [show len + 0 = 0 by omega]; simp, List.getElem?_eq_getElem (by omega)] at this
        obtain ⟨cs, g1, _⟩ := Option.bind_eq_some_iff.1 this
        exact ⟨cs, g1⟩
    obtain ⟨cs0, hc0⟩ := hfirst
    obtain ⟨hl0, hg0⟩ := cells?_get hc0
    have h00 := hg0 0 (by omega)
    rw [show (a.add 0).add 0 = a from rfl, List.getElem?_eq_getElem (by omega)] at h00
    obtain ⟨ab, ao, asp⟩ := a
    have hblk0 := h00
    unfold World.cell? at hblk0
    split at hblk0
    · rename_i c ty fr hblk
      simp only at hblk
      have hsp0 : asp = none := by
        cases asp with
        | none => rfl
        | some s => simp at hblk0
      subst hsp0
      refine .inr ⟨ab, ao, cap, c, ty, fr, by rw [hrl], by omega, hblk, fun i row hi => ?_⟩
      obtain ⟨hlt, hc⟩ := hget i row hi
      refine ⟨trod_fits n hpat row (htr row (List.mem_of_getElem? hi)), fun k x hk => ?_⟩
      obtain ⟨hl1, hg⟩ := cells?_get hc
      have hkl : k < P.cellsOf e := by
        rw [← hl1]; exact (List.getElem?_eq_some_iff.1 hk).1
      have := hg k hkl
      rw [hk, hce] at this
      rw [Go.Eng.addr_add, Go.Eng.addr_add, cell_of_heap hblk] at this
      exact this
    · simp at hblk0
end

/-- What the form says of a slice argument: it lies at a block that is there. -/
theorem okWide_slice {P : Program} {w : World} {r : Go.Reach} {b : Nat} {t e : TypeId} {v : Value} (ht : P.underlying t = some (.slice e)) (h : Value.okWide P w r b t v) :
    v.cells = #[v] ∧ ∀ a len cap, v = .slice (some a) len cap → a.spot = none ∧ (w.shape? a.block).isSome = true := by
  simp only [Value.okWide, ht, Cell.okWide, Cell.ok] at h
  cases v <;> simp_all [Value.cells]
  rename_i a len cap
  intro a' ha
  subst ha
  obtain ⟨_, _, _, h1, row, cells, h2, _⟩ := h
  exact ⟨h1, by rw [h2]; rfl⟩
end Go.Eng
