/-
  The evaluator and the contracts, merged out of 2 texts (SkG to SpG). No condition.
-/
import Derived.Test.YtedojhheppepdaaGreatDoorKSkF
import Derived.Test.YtedojhheppepdaaGreatDoorRows
import Derived.ProofKit
import Derived.Lay
import Derived.SevenTiedAt
import Derived.Stop.Joined

namespace Go.Proofs
open Go Go.Ev
set_option maxRecDepth 100000
set_option linter.unusedVariables false
theorem Tryz.spoolKnown_sim : ∃ σ', SimF Tryz.prog (Tryz.skG.map (·.1)) 9 #[] (globSt Tryz.skG 1000) (.bool true) σ' := by
  obtain ⟨r, hr, hv⟩ := Option.map_eq_some_iff.1 Tryz.sk_run
  obtain ⟨v, σ0⟩ := r
  have hv : v = .bool true := hv
  subst hv
  exact ⟨σ0, callOf_ok Tryz.kf2_ok _ _ _ _ _ hr⟩
end Go.Proofs

namespace Go.Proofs.YtedojhheppepdaaGreatDoor
open Go Go.Ev Go.ChangeShapes Go.WideShapes Go.ChangeAt Go.RowKit
set_option maxRecDepth 100000
set_option linter.unusedVariables false

/-- The row's contract, for a law without arguments that tells a bool. -/
theorem closed_contract_sub {C : Checked} {f : FuncId} {fn : Func} {s : ChangeSpec} {tb : TypeId} {os : Os} {H : Type} {enc : TypeId × Value → H} {laid : List (String × DataW Unit)} {l : List (Nat × List Value)} {k next : Nat} {σ' : St}
    (own : ownKnob C.prog.godebug = none) (started : os.Started) (noInit : C.prog.inits.idxOf? f = none) (hfn : C.prog.funcs[f]? = some fn)
    (hp : fn.params = #[]) (hr : fn.resultTypes = #[tb]) (hb : C.prog.underlying tb = some .bool) (hvars : s.vars = []) (hspec : s.fn H [] = { results := [.lit (.bool true)], args := [] })
    (hno : (laid.filter fun x => x.2.handleName?.isSome) = []) (hglob : ∀ x ∈ l, x ∈ globList C.prog k laid) (hn : ∀ x ∈ l, x.1 < next) (hsim : SimF C.prog (l.map (·.1)) f #[] (globSt l next) (.bool true) σ')
    (witness : ∃ (w : World) (tape : Tape) (i : Input), w.os = os ∧ (w.forCall tape i).Shaped C.prog ∧ i.vars = [] ∧ Input.okWide C.prog (w.forCall tape i) .any w.heap.size f i ∧
      ((s.pre enc C.prog fn [] false (w.forCall tape i).memory i.args ∧ laidMetH C.prog laid (w.forCall tape i).memory) ∧ sizedMet enc C.prog fn (OpenSpec.ofChange s) false (w.forCall tape i).memory i.args) ∧ ({} : Assume).holds C.prog (lone (Frame.enter C.prog f i.args .normal) [] (w.forCall tape i))) :
    ReturnsInHanded {} C os f .any (fun w args => (s.pre enc C.prog fn [] false w args ∧ laidMetH C.prog laid w) ∧ sizedMet enc C.prog fn (OpenSpec.ofChange s) false w args) (s.post enc C.prog fn false true false false) := by
  refine returnsInHanded_of_change_and (X := fun w _ => laidMetH C.prog laid w) (fun _ _ _ hh h => h.of_heap hh) own started noInit hfn witness ?_
  intro W base args ds gs before hval hW _ _ hL _
  have hW' := hW
  obtain ⟨p, q, hA, hV, rfl, hfz, hnd⟩ := hW
  rw [hp] at hA
  rw [hvars] at hV
  have hA2 : DataW.TrodAll enc C.prog W 0 (fun _ => true) true [] args.toList ds p := hA
  have e1 : args.toList = [] ∧ ds = [] := by
    revert hA2
    generalize args.toList = L
    intro hA2
    cases L with
    | nil => cases ds with
      | nil => exact ⟨rfl, rfl⟩
      | cons _ _ => exact hA2.elim
    | cons _ _ => exact hA2.elim
  obtain ⟨e1, rfl⟩ := e1
  obtain rfl : args = #[] := by cases args; simp_all
  have e2 : gs = [] := by
    cases gs with
    | nil => rfl
    | cons _ _ => exact hV.elim
  subst e2
  have hm := laidMet_of_noHandle hno hL
  have hcells : ∀ x ∈ l, (∃ t fr, W.heap[x.1]? = some (.cells x.2.toArray t fr)) ∧ ∀ v ∈ x.2, flatV v = true := fun x hx => globList_holds (f := k) hm x (hglob x hx)
  refine (closed_calls hsim hcells hn).mono ?_
  rintro e W' ⟨v', g, rfl, hv, bel⟩
  cases hv
  refine ⟨_, rfl, [], [], _, [], [], [], hW', ?_, ?_, ?_, bel.frame _, fun h => by cases h⟩
  · rw [hr]
    have : (s.fn H ([] ++ [])).results = [.lit (.bool true)] := by rw [List.append_nil, hspec]
    rw [this]
    exact trodAll_mk1 (shut_bool hb true)
  · rw [hp]
    have : (s.fn H ([] ++ [])).args = [] := by rw [List.append_nil, hspec]
    rw [this]
    rfl
  · have : (s.fn H ([] ++ [])).vars = [] := by rw [List.append_nil, hspec]
    rw [this, hvars]
    rfl

theorem own : ownKnob Tryz.prog.godebug = none := by kernel_rfl
theorem sp_params : Tryz.f9.params = #[] := by kernel_rfl
theorem sp_results : Tryz.f9.resultTypes = #[4] := by kernel_rfl
theorem ty4 : Tryz.prog.underlying 4 = some .bool := by kernel_rfl

theorem sp_laid (os : Os) : laidMetH Tryz.prog Rows.spoolKnownRow.laid ((World.laidAll Tryz.prog os Rows.spoolKnownRow.laid).forCall (fun _ _ => 0) ⟨#[], #[], []⟩).memory := by
  rw [MakeChecks.laidMetH_plain _ _ _ (by kernel_rfl)]
  exact laidMet_laidAll _ (by kernel_rfl) (by kernel_rfl)

theorem sp_globN : (globList Tryz.prog 40 Rows.spoolKnownRow.laid)[3]? = some (3, Tryz.tabC) := by kernel_rfl
theorem sp_glob : ∀ x ∈ Tryz.skG, x ∈ globList Tryz.prog 40 Rows.spoolKnownRow.laid := fun x hx => by
  simp only [Tryz.skG, List.mem_singleton] at hx
  subst hx
  exact List.mem_of_getElem? sp_globN
theorem sp_lifted (os : Os) (started : os.Started) (H : Type) (enc : TypeId × Value → H) :
    ReturnsInHanded {} Tryz.checked os 9 .any (fun w args => (Rows.spoolKnownSpec.pre enc Tryz.prog Tryz.f9 [] false w args ∧ laidMetH Tryz.prog Rows.spoolKnownRow.laid w) ∧ sizedMet enc Tryz.prog Tryz.f9 (OpenSpec.ofChange Rows.spoolKnownSpec) false w args)
      (Rows.spoolKnownSpec.post enc Tryz.prog Tryz.f9 false true false false) := by
  obtain ⟨σ', hs⟩ := Tryz.spoolKnown_sim
  exact closed_contract_sub (C := Tryz.checked) (tb := 4) (k := 40) (l := Tryz.skG) (next := 1000) own started (by kernel_rfl) Tryz.func9 sp_params sp_results ty4 rfl rfl (by kernel_rfl) sp_glob (by intro x hx; simp [Tryz.skG] at hx; subst hx; decide) hs
    (ChangeSpec.witness_shaped (enc := enc) (C := Tryz.checked) (os := os) (X := fun w _ => laidMetH Tryz.prog Rows.spoolKnownRow.laid w) false (World.laidAll Tryz.prog os Rows.spoolKnownRow.laid) #[] 8 (World.laidAll_os _ _ _)
      (World.shaped_of_ZipB (by kernel_rfl) (by kernel_rfl)) (by kernel_rfl) (by kernel_rfl) (by kernel_rfl) (sp_laid os))

end Go.Proofs.YtedojhheppepdaaGreatDoor
