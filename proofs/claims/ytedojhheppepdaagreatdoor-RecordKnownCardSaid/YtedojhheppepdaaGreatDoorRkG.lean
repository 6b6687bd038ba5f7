/-
  RecordKnown: the row's contract. No condition.
-/
import Derived.Test.YtedojhheppepdaaGreatDoorRkF
import Derived.Test.YtedojhheppepdaaGreatDoorRows
import Derived.ProofKit
import Derived.Lay
import Derived.SevenTiedAt
import Derived.Stop.Joined
namespace Go.Proofs.YtedojhheppepdaaGreatDoor
open Go Go.ChangeShapes Go.WideShapes Go.ChangeAt Go.RowKit
set_option maxRecDepth 100000
set_option linter.unusedVariables false

/-- The row's contract, for a law without arguments that tells true in every world. -/
theorem contract_all {C : Checked} {f : FuncId} {fn : Func} {s : ChangeSpec} {tb : TypeId} {os : Os} {H : Type} {enc : TypeId × Value → H} {laid : List (String × DataW Unit)}
    (own : ownKnob C.prog.godebug = none) (started : os.Started) (noInit : C.prog.inits.idxOf? f = none) (hfn : C.prog.funcs[f]? = some fn)
    (hp : fn.params = #[]) (hr : fn.resultTypes = #[tb]) (hb : C.prog.underlying tb = some .bool) (hvars : s.vars = []) (hspec : s.fn H [] = { results := [.lit (.bool true)], args := [] })
    (hcalls : ∀ w, Calls C.prog f #[] w fun e w' => e = .returned (.bool true) ∧ Go.RowKit.Below w.heap.size w w')
    (witness : ∃ (w : World) (tape : Tape) (i : Input), w.os = os ∧ (w.forCall tape i).Shaped C.prog ∧ i.vars = [] ∧ Input.okWide C.prog (w.forCall tape i) .any w.heap.size f i ∧
      ((s.pre enc C.prog fn [] false (w.forCall tape i).memory i.args ∧ laidMetH C.prog laid (w.forCall tape i).memory) ∧ sizedMet enc C.prog fn (OpenSpec.ofChange s) false (w.forCall tape i).memory i.args) ∧ ({} : Assume).holds C.prog (lone (Frame.enter C.prog f i.args .normal) [] (w.forCall tape i))) :
    ReturnsInHanded {} C os f .any (fun w args => (s.pre enc C.prog fn [] false w args ∧ laidMetH C.prog laid w) ∧ sizedMet enc C.prog fn (OpenSpec.ofChange s) false w args) (s.post enc C.prog fn false true false false) := by
  refine returnsInHanded_of_change_and (X := fun w _ => laidMetH C.prog laid w) (fun _ _ _ hh h => h.of_heap hh) own started noInit hfn witness ?_
  intro W base args ds gs before hval hW _ _ hL _
  have hW' := hW
  obtain ⟨p, q, hA, hV, rfl, hfz, hnd⟩ := hW
  rw [hp] at hA
  rw [hvars] at hV
  have hA2 : DataW.TrodAll enc C.prog W 0 (fun _ => true) true [] args.toList ds p := hA
  have e1 : args.toList = [] ∧ ds = [] := by
    revert hA2
    generalize args.toList = L
    intro hA2
    cases L with
    | nil => cases ds with
      | nil => exact ⟨rfl, rfl⟩
      | cons _ _ => exact hA2.elim
    | cons _ _ => exact hA2.elim
  obtain ⟨e1, rfl⟩ := e1
  obtain rfl : args = #[] := by cases args; simp_all
  have e2 : gs = [] := by
    cases gs with
    | nil => rfl
    | cons _ _ => exact hV.elim
  subst e2
  refine (hcalls W).mono ?_
  rintro e W' ⟨rfl, bel⟩
  refine ⟨_, rfl, [], [], _, [], [], [], hW', ?_, ?_, ?_, bel.frame _, fun h => by cases h⟩
  · rw [hr]
    have : (s.fn H ([] ++ [])).results = [.lit (.bool true)] := by rw [List.append_nil, hspec]
    rw [this]
    exact trodAll_mk1 (shut_bool hb true)
  · rw [hp]
    have : (s.fn H ([] ++ [])).args = [] := by rw [List.append_nil, hspec]
    rw [this]
    rfl
  · have : (s.fn H ([] ++ [])).vars = [] := by rw [List.append_nil, hspec]
    rw [this, hvars]
    rfl

theorem own : ownKnob Tryz.prog.godebug = none := by kernel_rfl
theorem rk_params : Tryz.f5.params = #[] := by kernel_rfl
theorem rk_results : Tryz.f5.resultTypes = #[4] := by kernel_rfl
theorem ty4 : Tryz.prog.underlying 4 = some .bool := by kernel_rfl

theorem rk_laid (os : Os) : laidMetH Tryz.prog Rows.recordKnownRow.laid ((World.laidAll Tryz.prog os Rows.recordKnownRow.laid).forCall (fun _ _ => 0) ⟨#[], #[], []⟩).memory := by
  rw [MakeChecks.laidMetH_plain _ _ _ (by kernel_rfl)]
  exact laidMet_laidAll _ (by kernel_rfl) (by kernel_rfl)

theorem rk_lifted (os : Os) (started : os.Started) (H : Type) (enc : TypeId × Value → H) :
    ReturnsInHanded {} Tryz.checked os 5 .any (fun w args => (Rows.recordKnownSpec.pre enc Tryz.prog Tryz.f5 [] false w args ∧ laidMetH Tryz.prog Rows.recordKnownRow.laid w) ∧ sizedMet enc Tryz.prog Tryz.f5 (OpenSpec.ofChange Rows.recordKnownSpec) false w args)
      (Rows.recordKnownSpec.post enc Tryz.prog Tryz.f5 false true false false) :=
  contract_all (C := Tryz.checked) (tb := 4) own started (by kernel_rfl) Tryz.func5 rk_params rk_results ty4 rfl rfl Tryz.recordKnown_calls
    (ChangeSpec.witness_shaped (enc := enc) (C := Tryz.checked) (os := os) (X := fun w _ => laidMetH Tryz.prog Rows.recordKnownRow.laid w) false (World.laidAll Tryz.prog os Rows.recordKnownRow.laid) #[] 8 (World.laidAll_os _ _ _)
      (World.shaped_of_ZipB (by kernel_rfl) (by kernel_rfl)) (by kernel_rfl) (by kernel_rfl) (by kernel_rfl) (rk_laid os))

end Go.Proofs.YtedojhheppepdaaGreatDoor
