/-
  RecordKnown, run by the evaluator in two parts: it tells true and leaves all blocks as they were. No condition.
-/
import Derived.Test.YtedojhheppepdaaGreatDoorRkA
import Derived.Test.YtedojhheppepdaaGreatDoorEv31
import Derived.KernelRfl
namespace Go.Proofs
open Go Go.Ev
set_option maxRecDepth 100000
set_option linter.unusedVariables false

noncomputable def Tryz.rkL : List Tryz.Known := [Tryz.rk38, Tryz.rk37, Tryz.rk35, Tryz.rk30, Tryz.rk29, Tryz.rk26, Tryz.rk25, Tryz.rk24, Tryz.rk23, Tryz.rk21, Tryz.rk20, Tryz.rk19, Tryz.rk18, Tryz.rk17, Tryz.rk14, Tryz.rk13, Tryz.rk11, Tryz.rk10, Tryz.rk7, Tryz.rk6, Tryz.rk5]
theorem Tryz.rkL_ok : ∀ e ∈ Tryz.rkL, Tryz.Known.ok e := Tryz.all_cons Tryz.rk38_ok (Tryz.all_cons Tryz.rk37_ok (Tryz.all_cons Tryz.rk35_ok (Tryz.all_cons Tryz.rk30_ok (Tryz.all_cons Tryz.rk29_ok (Tryz.all_cons Tryz.rk26_ok (Tryz.all_cons Tryz.rk25_ok (Tryz.all_cons Tryz.rk24_ok (Tryz.all_cons Tryz.rk23_ok (Tryz.all_cons Tryz.rk21_ok (Tryz.all_cons Tryz.rk20_ok (Tryz.all_cons Tryz.rk19_ok (Tryz.all_cons Tryz.rk18_ok (Tryz.all_cons Tryz.rk17_ok (Tryz.all_cons Tryz.rk14_ok (Tryz.all_cons Tryz.rk13_ok (Tryz.all_cons Tryz.rk11_ok (Tryz.all_cons Tryz.rk10_ok (Tryz.all_cons Tryz.rk7_ok (Tryz.all_cons Tryz.rk6_ok (Tryz.all_cons Tryz.rk5_ok (Tryz.all_nil)))))))))))))))))))))
noncomputable def Tryz.rkKF : KF := xF Tryz.prog Tryz.tab (Tryz.extM Tryz.rkL) (fun kf => xdraw Tryz.prog (callOf kf)) 100000 60
theorem Tryz.rkKF_ok : Tryz.rkKF.ok Tryz.prog [] := xF_ok Tryz.mixed (fun _ _ e => e) (Tryz.extM_ok Tryz.rkL_ok) (fun kf hk => xdraw_ok (callOf_ok hk) Tryz.mixed) 100000 60
noncomputable def Tryz.rkD : DrawK := xdraw Tryz.prog (callOf Tryz.rkKF)
theorem Tryz.rkD_ok : DrawKOk Tryz.prog [] Tryz.rkD := xdraw_ok (callOf_ok Tryz.rkKF_ok) Tryz.mixed
def Tryz.bodyOf (f : Func) : Code := match f.body with
  | some c => c
  | none => .skip
noncomputable def Tryz.rkC : Code := Tryz.bodyOf Tryz.f5
noncomputable def Tryz.rkK1 : List Nat := nub (freeC Tryz.rkC ++ Tryz.f5.results.toList.map resTmp) []
noncomputable def Tryz.rkK2 : List Nat := nub (freeC (dropC 11 Tryz.rkC) ++ Tryz.f5.results.toList.map resTmp) []
def Tryz.rkV (t : Nat) : XV := cond (Nat.beq t 10 || Nat.beq t 11 || Nat.beq t 12) (.bool true) (cond (Nat.beq t 0) (.bool false) (.oth undef))
noncomputable def Tryz.rkVals : List (Nat × XV) := Tryz.rkK2.map fun t => (t, Tryz.rkV t)
theorem Tryz.rkV_flat : ∀ x ∈ Tryz.rkVals, flatV x.2.out = true := by
  intro x hx
  obtain ⟨t, _, rfl⟩ := List.mem_map.1 hx
  simp only [Tryz.rkV]
  cases Nat.beq t 10 || Nat.beq t 11 || Nat.beq t 12
  · cases Nat.beq t 0 <;> rfl
  · rfl
noncomputable def Tryz.rkX1 : XCode := (comp Tryz.prog [] Tryz.f5.ntmps Tryz.rkK1 (takeC 11 Tryz.rkC)).getD .skip
noncomputable def Tryz.rkX2 : XCode := (comp Tryz.prog [] Tryz.f5.ntmps Tryz.rkK2 (dropC 11 Tryz.rkC)).getD .skip
theorem Tryz.some_getD {α : Type} {o : Option α} {d : α} (h : o.isSome = true) : o = some (o.getD d) := by
  cases o with
  | none => cases h
  | some a => rfl
theorem Tryz.rkX1_eq : comp Tryz.prog [] Tryz.f5.ntmps Tryz.rkK1 (takeC 11 Tryz.rkC) = some Tryz.rkX1 := Tryz.some_getD (by kernel_rfl)
theorem Tryz.rkX2_eq : comp Tryz.prog [] Tryz.f5.ntmps Tryz.rkK2 (dropC 11 Tryz.rkC) = some Tryz.rkX2 := Tryz.some_getD (by kernel_rfl)
noncomputable def Tryz.rkRs : List (ResultVar × List Bool) := (Tryz.f5.results.toList.mapM (fun r => (varOf Tryz.rkK2 (resTmp r)).map fun p => (r, p))).getD []
theorem Tryz.rkRs_eq : Tryz.f5.results.toList.mapM (fun r => (varOf Tryz.rkK2 (resTmp r)).map fun p => (r, p)) = some Tryz.rkRs := Tryz.some_getD (by kernel_rfl)
end Go.Proofs
