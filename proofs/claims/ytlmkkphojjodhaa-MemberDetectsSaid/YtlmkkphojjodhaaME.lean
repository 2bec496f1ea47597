import Derived.Test.YtlmkkphojjodhaaMC
set_option linter.unusedSimpArgs false
set_option linter.unusedVariables false
namespace Go.Eng
open Go
def newerT (a b c d : T) : T := .or (.cmp .gtr a c) (.and (.cmp .eql a c) (.cmp .gtr b d))
def newerD : Ctr := { newerC with alts := [{ k := 0, ret := .one (.vbool (newerT (.var 0) (.var 1) (.var 2) (.var 3))), heap := [], post := fun _ => True }] }
def joinD : Ctr := { joinC with alts := [{ k := 0, ret := mem 2 3, heap := [], post := fun ρ => newerB (ρ 2).i (ρ 3).i (ρ 0).i (ρ 1).i = true }, { k := 0, ret := mem 0 1, heap := [], post := fun ρ => newerB (ρ 2).i (ρ 3).i (ρ 0).i (ρ 1).i = false }] }
def waitD : Ctr := { waitC with alts := [{ k := 0, ret := iv .i64 (.plus (.lit 10) (.tims (.lit 3) (.imin (.imax (.var 0) (.lit 0)) (.lit 16)))), heap := [], post := fun _ => True }] }
def peersC : Ctr := { fn := 62, nv := 1, args := [iv .i64 (.var 0)], heap := [], ro := [], pre := fun _ => True, alts := [{ k := 1, ret := iv .i64 (.var 1), heap := [], post := fun ρ => (ρ 1).i = min (max (ρ 0).i 0) 16 }] }
def lawWaitsC : Ctr := { fn := 5, nv := 1, args := [iv .i64 (.var 0)], heap := [], ro := [], pre := fun _ => True, alts := [{ k := 0, ret := .one (.vbool (.bl true)), heap := [], post := fun _ => True }] }
def lawOrdersC : Ctr := { fn := 3, nv := 6, args := [mem 0 1, mem 2 3, mem 4 5], heap := [], ro := [], pre := fun _ => True, alts := [{ k := 0, ret := .one (.vbool (.bl true)), heap := [], post := fun _ => True }] }
end Go.Eng
