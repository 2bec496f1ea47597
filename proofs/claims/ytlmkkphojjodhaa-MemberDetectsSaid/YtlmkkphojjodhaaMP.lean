/- The machine's functions: what they compute. -/
import Derived.Test.YtlmkkphojjodhaaAT
import Derived.Test.YtlmkkphojjodhaaTP
set_option linter.unusedSimpArgs false
set_option linter.unusedVariables false
namespace Go.Proofs
open Go Go.Eng

theorem star_mem {ρ : Env} {x : SH} : ∀ {l : List SH} {h : Hp}, star ρ l h → x ∈ l → ∃ hx, Hp.le hx h ∧ x.den ρ hx
  | [], _, _, hx => by cases hx
  | y :: l, h, ⟨h1, h2, hd, hu, hy, hs⟩, hx => by
    subst hu
    rcases List.mem_cons.1 hx with rfl | hx
    · exact ⟨h1, Hp.le_left _ _, hy⟩
    · obtain ⟨g, g1, g2⟩ := star_mem hs hx
      exact ⟨g, Hp.le_trans g1 (Hp.le_right hd), g2⟩
theorem Rd_mono {h h' : Hp} {pat : List CK} {v : Value} {d : List (List Value)} (hr : Rd h pat v d) (hl : Hp.le h h') : Rd h' pat v d := by
  rcases hr with h0 | ⟨b, o, cap, c, ty, fr, h1, h2, h3, h4⟩
  · exact .inl h0
  · exact .inr ⟨b, o, cap, c, ty, fr, h1, h2, hl _ _ h3, h4⟩
theorem RdT_mono {h h' : Hp} {v : Value} {t : List Ent} (hr : RdT h v t) (hl : Hp.le h h') : RdT h' v t := by
  obtain ⟨d, h1, h2⟩ := hr; exact ⟨d, Rd_mono h1 hl, h2⟩
/-- An owned block's slice reads as its rows. -/
theorem arr_Rd {ρ : Env} {r : Nat} {ty : TypeId} {pat : List CK} {d cap : T} {h H : Hp} {n : Nat} {k : Nat} (hx : SH.den ρ (.arr r ty pat d cap) h) (hl : Hp.le h H) (hn : n = (d.den ρ).d.length) (hc : k = (cap.den ρ).i.toNat) :
    Rd H pat (.slice (addrOf (ρ r).r 0) n k) (d.den ρ).d := by
  rcases hx with ⟨h1, h2, h3⟩ | ⟨b, c, h1, h2, h3, h4, h5⟩
  · refine .inl ⟨?_, h2⟩
    rw [h1, hn, h2, hc, h3]; rfl
  · refine .inr ⟨b, 0, k, c, ty, (0, 0), by rw [h1, hn]; rfl, by omega, hl _ _ h2, h5⟩

theorem fault64_ok : fault64C.ok Try.prog := fault64_of (by simp) fun ρ hg hp => by
  simp [o_fault64, fault64C]
theorem u64s_put {d : List (List Value)} {i : Int} {x : Int} (h0 : 0 ≤ i) (h : i < (d.length : Int)) : intsOf (putD d i 0 [.int .u64 x]) = (intsOf d).set i.toNat x := by
  apply List.ext_getElem?
  intro j
  simp only [intsOf, putD, List.getElem?_map, List.getElem?_set, List.length_map]
  by_cases hj : i.toNat = j
  · subst hj
    have : i.toNat < d.length := by omega
    simp [this, splice, rowI, vInt]
  · simp [hj]
theorem tab_put' {d : List (List Value)} {i : Int} {x y : Int} (h0 : 0 ≤ i) (h : i < (d.length : Int)) : tabOf (putD d i 0 [.int .u64 x, .int .u8 y]) = setTab (tabOf d) i (x, y) := by
  apply List.ext_getElem?
  intro j
  rw [tab_put h0 h, setTab, List.getElem?_set]
  by_cases hj : j = i.toNat
  · subst hj; rw [if_pos rfl, if_pos rfl, if_pos (by rw [tab_len]; omega)]
  · rw [if_neg hj, if_neg (fun h => hj h.symm)]
theorem set65_ok : set65C.ok Try.prog := set65_of (by simp) fun ρ hg hp => by
  obtain ⟨h1, h2, h3, h4⟩ := hp
  have hc := cellI_tab (d := (ρ 5).d) h3 (by omega)
  have ht := tab_put' (d := (ρ 5).d) (x := (ρ 19).i) (y := (ρ 20).i) h3 (by omega)
  simp [o_set65, set65C, ht, putD_len]
  refine ⟨h3, by omega, by omega, fun h5 => ⟨fun h6 => ⟨by omega, ?_⟩, fun h6 => ?_⟩, fun h5 h6 => ?_⟩
  · rw [u64s_put h3 (by omega), setSince, hc, if_pos ⟨fun e => by rcases h5 with h5 | h5 <;> simp [h5] at e, h6⟩]
  · rw [setSince, if_neg (fun h => h6 h.2)]
  · rw [setSince, hc, h5, h6, if_neg (fun h => h.1 rfl)]
theorem next67_ok : next67C.ok Try.prog := next67_of (by simp) fun ρ hg hp => by
  obtain ⟨h1, h2, h3, h4⟩ := hp
  have hw : IntKind.i64.wrap ((ρ 11).i + 1) = (ρ 11).i + 1 := wrap64_id (by omega) (by omega)
  have hlt : Int.tmod ((ρ 11).i + 1) (ρ 3).i < (ρ 3).i := Int.tmod_lt_of_pos _ (by omega)
  have hge : 0 ≤ Int.tmod ((ρ 11).i + 1) (ρ 3).i := Int.tmod_nonneg _ (by omega)
  have hw2 : IntKind.i64.wrap (Int.tmod ((ρ 11).i + 1) (ρ 3).i + 1) = Int.tmod ((ρ 11).i + 1) (ρ 3).i + 1 := wrap64_id (by omega) (by omega)
  simp [o_next67, next67C, arithOf, hw, hw2]
  refine ⟨by omega, by omega, fun h => ?_, fun h => ?_⟩
  · rw [nextP, if_pos h]
  · rw [nextP, if_neg h]
theorem stamped_zero {h : Hp} {ms : List Msg} {self : Int} {t : List Ent} {d : List (List Value)} (hd : plainRows d ms) : stamped h ms self t 0 d := ⟨[], rfl, by simpa [rowsOf, plainRows] using hd, by simp⟩
theorem put_mid {A B : List (List Value)} {r : List Value} {i : Int} (h0 : 0 ≤ i) (hi : i.toNat = A.length) (c : Nat) (vs : List Value) : putD (A ++ r :: B) i c vs = A ++ splice r c vs :: B := by
  unfold putD
  rw [hi, List.set_append_right _ _ (Nat.le_refl _), List.getElem?_append_right (Nat.le_refl _)]
  simp
theorem stamped_succ {h h' : Hp} {ms : List Msg} {self : Int} {t : List Ent} {i : Int} {d : List (List Value)} {v : Value} (h0 : 0 ≤ i) (hi : i.toNat < ms.length) (hs : stamped h ms self t i.toNat d) (hl : Hp.le h h') (hv : RdT h' v t) :
    stamped h' ms self t (i.toNat + 1) (putD (putD d i 1 [.int .i64 self]) i 6 [v]) := by
  obtain ⟨vs, h1, h2, h3⟩ := hs
  have hget : ms[i.toNat]? = some ms[i.toNat] := List.getElem?_eq_getElem hi
  have hAl : (rowsOf ((ms.take i.toNat).map fun m => { m with src := self }) vs).length = i.toNat := by simp [rowsOf, h1]; omega
  refine ⟨vs ++ [v], by simp [h1], ?_, fun x hx => ?_⟩
  · rw [h2, List.drop_eq_getElem_cons hi, List.map_cons, put_mid h0 hAl.symm, put_mid h0 hAl.symm, take_snoc hget]
    simp only [rowsOf, List.map_append]
    rw [List.zipWith_append (by simp [h1]; omega)]
    simp only [List.append_assoc, List.map_cons, List.map_nil, List.zipWith_cons_cons, List.zipWith_nil_left, List.cons_append, List.nil_append]
    rfl
  · rcases List.mem_append.1 hx with hx | hx
    · exact RdT_mono (h3 x hx) hl
    · simp only [List.mem_singleton] at hx; subst hx; exact hv
theorem stamp68_ok : stamp68C.ok Try.prog := stamp68_of (by simp [clone63_ok]) fun ρ hg hp => by
  obtain ⟨⟨h1, h2, h3, h4, h5, h6, h7⟩, h8, h9, hms⟩ := hp
  obtain ⟨ms0, hms0⟩ := hms
  have hml : ms0.length = (ρ 21).d.length := by rw [hms0]; simp
  simp [o_stamp68, stamp68C, clone63C, stamp68I, arithOf]
  refine ⟨by omega, fun u0 _ _ => ⟨⟨by omega, fun ms hm => stamped_zero hm⟩, fun ui _ ud _ ut _ g0 g1 g2 g3 => ⟨fun g4 => ⟨⟨h1, by omega, ?_⟩, fun ur _ uc _ uD _ g5 => ⟨g0, by omega, fun uh _ g6 => ?_⟩⟩, fun g4 ms hm => ?_⟩⟩⟩
  · unfold big; omega
  · rw [wrapAdd g0 g4 h9, toNat_succ g0]
    refine ⟨⟨by omega, by omega, by rw [putD_len, putD_len]; exact g2, fun ms hm => ?_⟩, by omega⟩
    obtain ⟨ha, la, da⟩ := star_mem g6 (List.mem_cons_self ..)
    obtain ⟨hb, lb, db⟩ := star_mem g6 (List.mem_cons_of_mem _ (List.mem_cons_self ..))
    have hl : Hp.le ut.h uh.h := by
      have : Hp.le ut.h hb := by simpa [SH.den] using db
      exact Hp.le_trans this lb
    have hr := arr_Rd (n := (ρ 3).i.toNat) (k := uc.i.toNat) da la (by simp [g5]; omega) (by simp)
    have hr : Rd uh.h kMem (.slice (addrOf ur.r 0) (ρ 3).i.toNat uc.i.toNat) uD.d := by simpa [kMem] using hr
    have hmlen : ms.length = (ρ 21).d.length := by rw [hm]; simp
    exact stamped_succ g0 (by omega) (g3 ms hm) hl ⟨_, hr, by rw [g5]⟩
  · have hmlen : ms.length = (ρ 21).d.length := by rw [hm]; simp
    have := g3 ms hm
    rwa [show ui.i.toNat = ms.length by omega] at this
theorem noneN_zero {α : Type} (p : α → Bool) (l : List α) : noneN p l 0 = true := by simp [noneN]
theorem noneN_succ {α : Type} {p : α → Bool} {l : List α} {n : Nat} {x : α} (h : l[n]? = some x) (h' : noneN p l n = true) (hx : p x = false) : noneN p l (n + 1) = true := by
  unfold noneN at *; rw [take_snoc h, List.all_append, h']; simp [hx]
theorem noneN_all {α : Type} {p : α → Bool} {l : List α} {n : Nat} (h : l.length ≤ n) (h' : noneN p l n = true) : noneN p l l.length = true := by
  unfold noneN at *; rw [List.take_of_length_le h] at h'; rwa [List.take_of_length_le (Nat.le_refl _)]
theorem noneN_filter {α : Type} {p : α → Bool} {l : List α} {n : Nat} (h : noneN p l n = true) : (l.take n).filter (fun x => !p x) = l.take n := by
  rw [List.filter_eq_self]; unfold noneN at h; exact List.all_eq_true.1 h
theorem clo86_ok : clo86C.ok Try.prog := clo86_of (by simp) fun ρ hg hp => by
  simp [o_clo86, clo86C, isOr]
  refine ⟨fun h => .inl h, fun h => ?_⟩
  rw [show ((ρ 24).i == (ρ 1).i) = false by simpa using h]; simp [cmpOf]
theorem index89_ok : index89C.ok Try.prog := index89_of (by simp [clo86_ok]) fun ρ hg hp => by
  obtain ⟨hl, hb⟩ := hp
  simp [o_index89, index89C, index89I, clo86C, arithOf, noneN_zero]
  refine ⟨by omega, fun u _ h0 h1 h2 => ⟨fun h3 => ⟨h0, by omega, fun u1 _ h4 => ⟨fun h5 => ?_, fun h5 => ⟨?_, ?_⟩⟩⟩, fun h3 => .inl ⟨rfl, noneN_all (by rw [ints_len]; omega) h2⟩⟩⟩
  · exact .inr ⟨h0, by rw [ints_len]; omega, h2, by rw [cellI_ints h0 (by omega)]; simp [← h4, h5]⟩
  · rw [wrapAdd h0 h3 hb, toNat_succ h0]
    exact ⟨by omega, by omega, noneN_succ (cellI_ints h0 (by omega)) h2 (by rw [← h4, h5])⟩
  · rw [wrapAdd h0 h3 hb]; omega
theorem delOk_init {α : Type} {p : α → Bool} {l : List α} {i : Int} (h : ixOk p l i) (hi : ¬ i = -1) : delOk p l l i (i + 1) := by
  rcases h with ⟨h, _⟩ | ⟨h0, h1, h2, h3⟩
  · exact absurd h hi
  · obtain ⟨x, hx, hpx⟩ := Option.map_eq_some_iff.1 h3
    refine ⟨h0, by omega, by omega, rfl, ?_, rfl⟩
    rw [toNat_succ h0, take_snoc hx, List.filter_append, noneN_filter h2]
    simp [hpx]
theorem delOk_get {α : Type} {p : α → Bool} {orig cur : List α} {i j : Int} (h : delOk p orig cur i j) (hj : j < orig.length) : orig[j.toNat]? = cur[j.toNat]? := by
  obtain ⟨h0, h1, h2, h3, h4, h5⟩ := h
  have := congrArg (fun l => l[0]?) h5
  simpa [List.getElem?_drop] using this.symm
theorem delOk_keep {α : Type} {p : α → Bool} {orig cur : List α} {i j : Int} {x : α} (h : delOk p orig cur i j) (hj : j < orig.length) (hx : cur[j.toNat]? = some x) (hp : p x = false) : delOk p orig (cur.set i.toNat x) (i + 1) (j + 1) := by
  have ho := delOk_get h hj
  obtain ⟨h0, h1, h2, h3, h4, h5⟩ := h
  rw [hx] at ho
  refine ⟨by omega, by omega, by omega, by simpa using h3, ?_, ?_⟩
  · rw [toNat_succ h0, toNat_succ (show 0 ≤ j by omega), take_snoc ho, List.filter_append, ← h4]
    have hlt : i.toNat < cur.length := by omega
    rw [take_snoc (x := x) (by simp [hlt]), List.take_set_of_le (by omega)]
    simp [hp]
  · rw [toNat_succ (show 0 ≤ j by omega), List.drop_set_of_lt (by omega)]
    have := congrArg (List.drop 1) h5
    simpa [List.drop_drop, Nat.add_comm] using this
theorem delOk_skip {α : Type} {p : α → Bool} {orig cur : List α} {i j : Int} {x : α} (h : delOk p orig cur i j) (hj : j < orig.length) (hx : cur[j.toNat]? = some x) (hp : p x = true) : delOk p orig cur i (j + 1) := by
  have ho := delOk_get h hj
  obtain ⟨h0, h1, h2, h3, h4, h5⟩ := h
  rw [hx] at ho
  refine ⟨h0, by omega, by omega, h3, ?_, ?_⟩
  · rw [toNat_succ (show 0 ≤ j by omega), take_snoc ho, List.filter_append, ← h4]; simp [hp]
  · rw [toNat_succ (show 0 ≤ j by omega)]
    have := congrArg (List.drop 1) h5
    simpa [List.drop_drop, Nat.add_comm] using this
theorem delOk_done {α : Type} {p : α → Bool} {orig cur : List α} {i j : Int} (h : delOk p orig cur i j) (hj : orig.length ≤ j) : cur.take i.toNat = orig.filter (fun x => !p x) := by
  obtain ⟨h0, h1, h2, h3, h4, h5⟩ := h
  rw [h4, List.take_of_length_le (by omega)]
theorem i64s_put {d : List (List Value)} {i : Int} {x : Int} (h0 : 0 ≤ i) (h : i < (d.length : Int)) : intsOf (putD d i 0 [.int .i64 x]) = (intsOf d).set i.toNat x := by
  apply List.ext_getElem?
  intro j
  simp only [intsOf, putD, List.getElem?_map, List.getElem?_set, List.length_map]
  by_cases hj : i.toNat = j
  · subst hj
    have : i.toNat < d.length := by omega
    simp [this, splice, rowI, vInt]
  · simp [hj]
theorem ints_take (d : List (List Value)) (n : Nat) : intsOf (d.take n) = (intsOf d).take n := by simp [intsOf, List.map_take]
theorem wrapu64_id {x : Int} (h1 : 0 ≤ x) (h2 : x < 18446744073709551616) : IntKind.u64.wrap x = x := by
  simp [IntKind.wrap, IntKind.signed, IntKind.bits]; omega
theorem filter_len {α : Type} (p : α → Bool) (l : List α) : (l.filter p).length ≤ l.length := List.length_filter_le p l
theorem delete85_ok : delete85C.ok Try.prog := delete85_of (by simp [index89_ok, clo86_ok]) fun ρ hg hp => by
  obtain ⟨hl, hb, hcap⟩ := hp
  simp [o_delete85, delete85C, delete85I, index89C, clo86C, arithOf]
  refine ⟨⟨hl, hb⟩, fun u _ hu => ⟨fun h1 => ?_, fun h1 => ?_⟩⟩
  · refine ⟨by omega, by omega, ?_⟩
    rcases hu with ⟨_, h2⟩ | ⟨h2, _⟩
    · rw [List.take_of_length_le (by rw [ints_len]; omega)]
      have := noneN_filter h2
      rw [List.take_of_length_le (Nat.le_refl _)] at this
      exact this.symm
    · omega
  · have h0 : 0 ≤ u.i ∧ u.i < (ρ 29).i := by
      rcases hu with ⟨h2, _⟩ | ⟨h2, h3, _⟩
      · exact absurd h2 h1
      · rw [ints_len] at h3; omega
    refine ⟨by rw [wrapAdd h0.1 h0.2 hb]; exact delOk_init hu h1, fun ui _ uj _ ud _ g => ⟨by omega, fun g1 => ?_, fun g1 => ?_⟩⟩
    · have hg' := g
      obtain ⟨k0, k1, k2, k3, k4, k5⟩ := g
      rw [ints_len, ints_len] at k3
      have hc := cellI_ints (d := ud.d) (i := uj.i) (by omega) (by omega)
      rw [wrapAdd (n := (ρ 29).i) (show 0 ≤ uj.i by omega) g1 hb]
      refine ⟨by omega, by omega, fun u3 _ h3 => ⟨fun h4 => ⟨by omega, by omega, by omega, ?_, by omega⟩, fun h4 => ⟨?_, by omega⟩⟩⟩
      · rw [wrapAdd (n := (ρ 29).i) (show 0 ≤ ui.i by omega) (by omega) hb, i64s_put (by omega) (by omega)]
        exact delOk_keep hg' (by rw [ints_len]; omega) hc (by rw [← h3, h4])
      · exact delOk_skip hg' (by rw [ints_len]; omega) hc (by rw [← h3, h4])
    · have hg' := g
      obtain ⟨k0, k1, k2, k3, k4, k5⟩ := g
      rw [ints_len, ints_len] at k3
      rw [ints_len] at k2
      intro hkn
      have hd := delOk_done hg' (by rw [ints_len]; omega)
      have hmin : (if (ρ 29).i - ui.i = 0 then (ud.d.length : Int) else if (ρ 30).i = ui.i then 0 else ui.i).toNat = if (ρ 29).i - ui.i = 0 then ud.d.length else ui.i.toNat := by
        split
        · simp
        · rw [if_neg (by omega)]
      simp only [hmin]
      refine ⟨by omega, by omega, by omega, by omega, ?_, by omega, ?_, fun hk2 => ⟨by omega, by omega, ?_, by omega, ?_⟩⟩
      · split <;> omega
      · split <;> omega
      · split <;> omega
      · rw [ints_take, List.take_take, ← hd]
        congr 1
        split <;> omega
theorem filter_congr' {α : Type} {p q : α → Bool} {l : List α} (h : ∀ x ∈ l, p x = q x) : l.filter p = l.filter q := List.filter_congr h
theorem liveN_len (l : List Ent) (n : Nat) : (liveN l n).length ≤ n := by
  simp only [liveN, List.length_map]
  exact Nat.le_trans (List.length_filter_le _ _) (by simp)
theorem candL_len (t : List Ent) (self target : Int) : (candL t self target).length ≤ t.length :=
  Nat.le_trans (List.length_filter_le _ _) (liveN_len t t.length)
theorem askN_snoc (c : List Int) (seq target draw : Int) (n : Nat) : askN c seq target draw (n + 1) = askN c seq target draw n ++ [askMsg c seq target draw n] := by
  simp [askN, List.range_succ]
theorem plain_snoc {d : List (List Value)} {ms : List Msg} {m : Msg} (h : plainRows d ms) : plainRows (d ++ [row0 m]) (ms ++ [m]) := by
  unfold plainRows at *; rw [h]; simp
set_option maxRecDepth 20000 in
theorem ask66_ok : ask66C.ok Try.prog := ask66_of (by simp [live37_ok, delete85_ok]) fun ρ hg hp => by
  obtain ⟨⟨h1, h2, h3, h4, h5, h6, h7⟩, h8, h9⟩ := hp
  have hcl := candL_len (tabOf (ρ 5).d) (ρ 1).i (ρ 19).i
  rw [tab_len] at hcl
  have hb : (ρ 3).i ≤ big := by unfold big; omega
  simp [o_ask66, ask66C, live37C, delete85C, ask66I, arithOf]
  refine ⟨⟨h1, hb⟩, fun ul _ uk _ g1 g2 g3 => ⟨⟨g2, by omega⟩, fun un _ ud _ k1 k2 k3 k4 => ⟨k1, ?_, fun ui _ vn _ vl _ vd _ vr _ q0 q1 q2 q3 q4 q5 q6 q7 => ⟨fun q8 => ?_, fun q8 => ?_⟩⟩⟩⟩
  · have hc : (intsOf ud.d).take un.i.toNat = candL (tabOf (ρ 5).d) (ρ 1).i (ρ 19).i := by rw [k4, g1]; rfl
    have hlen := congrArg List.length hc
    rw [List.length_take, ints_len] at hlen
    exact ⟨by omega, hc, k2, by simp [plainRows, askN]⟩
  · have hn : vn.i ≤ 16 := by omega
    have q8a : ui.i < vn.i := by split at q8 <;> omega
    have q8b : ui.i < 2 := by split at q8 <;> omega
    have hw1 : IntKind.u64.wrap vn.i = vn.i := wrapu64_id (by omega) (by omega)
    have t1 : Int.tmod (ρ 22).i vn.i < vn.i := Int.tmod_lt_of_pos _ (by omega)
    have t0 : 0 ≤ Int.tmod (ρ 22).i vn.i := Int.tmod_nonneg _ h8
    have hw2 : IntKind.i64.wrap (Int.tmod (ρ 22).i vn.i) = Int.tmod (ρ 22).i vn.i := wrap64_id (by omega) (by omega)
    have hw3 : IntKind.i64.wrap (Int.tmod (ρ 22).i vn.i + ui.i) = Int.tmod (ρ 22).i vn.i + ui.i := wrap64_id (by omega) (by omega)
    have hw4 : IntKind.i64.wrap (ui.i + 1) = ui.i + 1 := wrap64_id (by omega) (by omega)
    rw [hw1, hw2, hw3, hw4]
    have s1 : Int.tmod (Int.tmod (ρ 22).i vn.i + ui.i) vn.i < vn.i := Int.tmod_lt_of_pos _ (by omega)
    have s0 : 0 ≤ Int.tmod (Int.tmod (ρ 22).i vn.i + ui.i) vn.i := Int.tmod_nonneg _ (by omega)
    have hcell := cellI_ints (d := vd.d) s0 (by omega)
    have hget : (candL (tabOf (ρ 5).d) (ρ 1).i (ρ 19).i)[(Int.tmod (Int.tmod (ρ 22).i vn.i + ui.i) vn.i).toNat]? = some (cellI vd.d (Int.tmod (Int.tmod (ρ 22).i vn.i + ui.i) vn.i) 0) := by
      rw [← q3, List.getElem?_take, if_pos (by omega)]; exact hcell
    have hm : askMsg (candL (tabOf (ρ 5).d) (ρ 1).i (ρ 19).i) (ρ 18).i (ρ 19).i (ρ 22).i ui.i.toNat = ⟨3, 0, cellI vd.d (Int.tmod (Int.tmod (ρ 22).i vn.i + ui.i) vn.i) 0, (ρ 18).i, 0, (ρ 19).i⟩ := by
      unfold askMsg
      rw [← q2, Int.toNat_of_nonneg q0, List.getD_eq_getElem?_getD, hget]; rfl
    have key := plain_snoc (m := askMsg (candL (tabOf (ρ 5).d) (ρ 1).i (ρ 19).i) (ρ 18).i (ρ 19).i (ρ 22).i ui.i.toNat) q7
    rw [← askN_snoc, hm, ← toNat_succ q0] at key
    exact ⟨by omega, by omega, by omega, s0, s1, by omega, q5, by omega, ⟨by omega, by omega, q2, q3, q4, by omega, by omega, key⟩, by omega⟩
  · refine ⟨q5, ?_⟩
    have : ui.i.toNat = min 2 (candL (tabOf (ρ 5).d) (ρ 1).i (ρ 19).i).length := by split at q8 <;> omega
    rw [this] at q7
    exact q7
end Go.Proofs
