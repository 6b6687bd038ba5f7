/-
  The evaluator of code, over any program: calls within calls, to a depth; known calls ahead of it. No condition.
-/
import Derived.Test.YtedojhheppepdaaGreatDoorEv18
namespace Go.Ev
open Go
set_option linter.unusedVariables false
set_option linter.unusedSimpArgs false

def orElseF (a b : CallF) : CallF := fun f args σ => match a f args σ with
  | some r => some r
  | none => b f args σ
theorem orElseF_ok {P : Program} {gl : List Nat} {a b : CallF} (ha : a.ok P gl) (hb : b.ok P gl) : (orElseF a b).ok P gl := by
  intro f args σ v σ' h
  unfold orElseF at h
  split at h
  · rename_i r hr; cases h; exact ha _ _ _ _ _ hr
  · exact hb _ _ _ _ _ h
def noF : CallF := fun _ _ _ => none
theorem noF_ok {P : Program} {gl : List Nat} : noF.ok P gl := fun _ _ _ _ _ h => by cases h

def evF (P : Program) (gl : List Nat) (ext : CallF) (lf : Nat) : Nat → CallF
  | 0 => ext
  | n + 1 => orElseF ext (evalFn P gl (evF P gl ext lf n) (fun _ => evalDraw P (evF P gl ext lf n)) lf)
theorem evF_ok {P : Program} {gl : List Nat} {ext : CallF} (he : ext.ok P gl) (hm : P.follows .mixedOrders = true) (lf : Nat) : ∀ n, (evF P gl ext lf n).ok P gl
  | 0 => he
  | n + 1 => orElseF_ok he (evalFn_ok (evF_ok he hm lf n) (fun N => evalDraw_ok (evF_ok he hm lf n) hm N) lf)
end Go.Ev
