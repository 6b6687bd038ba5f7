/-
  The quicker evaluator at this program: its table of functions, its known calls. No condition.
-/
import Derived.Test.YtedojhheppepdaaGreatDoorChecked
import Derived.Test.YtedojhheppepdaaGreatDoorRep
import Derived.Test.YtedojhheppepdaaGreatDoorEv30
import Derived.KernelRfl
namespace Go.Proofs
open Go Go.Ev
set_option linter.unusedVariables false

noncomputable def Tryz.tab : FuncId → Option XFn := fun f => compFn Tryz.prog [] f
noncomputable def Tryz.ext0 : FuncId → Option CallF := fun f => cond (Nat.beq f 37) (some repC) none
noncomputable def Tryz.cal (ext : FuncId → Option CallF) : CallF := callOf (xF Tryz.prog Tryz.tab ext (fun kf => xdraw Tryz.prog (callOf kf)) 100000 60)
theorem Tryz.mixed : Tryz.prog.follows .mixedOrders = true := by kernel_rfl
theorem Tryz.ext0_ok : ∀ f c, Tryz.ext0 f = some c → ∀ args σ v σ', c f args σ = some (v, σ') → SimF Tryz.prog [] f args σ v σ' := by
  intro f c h
  unfold Tryz.ext0 at h
  cases hb : Nat.beq f 37 with
  | false => rw [hb] at h; cases h
  | true =>
    rw [hb] at h
    cases h
    have : f = 37 := by rw [Nat.beq_eq] at hb; exact hb
    subst this
    refine repC_ok fun s c h1 h2 h3 h4 σ => ?_
    have := Tryz.repeat_sim [] s c h1 h2 h3 h4 σ
    rwa [Tryz.repeat_num] at this
theorem Tryz.cal_ok {ext : FuncId → Option CallF} (h : ∀ f c, ext f = some c → ∀ args σ v σ', c f args σ = some (v, σ') → SimF Tryz.prog [] f args σ v σ') : (Tryz.cal ext).ok Tryz.prog [] :=
  callOf_ok (xF_ok Tryz.mixed (fun _ _ e => e) h (fun kf hk => xdraw_ok (callOf_ok hk) Tryz.mixed) 100000 60)
end Go.Proofs
