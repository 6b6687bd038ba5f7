/-
  The quicker evaluator at this program, with a list of calls that are known beforehand. No condition.
-/
import Derived.Test.YtedojhheppepdaaGreatDoorRun
namespace Go.Proofs
open Go Go.Ev
set_option linter.unusedVariables false

/-- A known call: the function, the arguments, the answer. -/
abbrev Tryz.Known := Nat × List Value × Value
def Tryz.Known.ok (e : Tryz.Known) : Prop := ∀ σ, SimF Tryz.prog [] e.1 e.2.1.toArray σ e.2.2 σ
def Tryz.pickM (f : Nat) : List Tryz.Known → List (List Value × Value)
  | [] => []
  | (g, r) :: l => cond (Nat.beq g f) (r :: Tryz.pickM f l) (Tryz.pickM f l)
theorem Tryz.pickM_mem (f : Nat) : ∀ (L : List Tryz.Known) (r : List Value × Value), r ∈ Tryz.pickM f L → (f, r) ∈ L
  | [], r, h => by cases h
  | (g, s) :: L, r, h => by
    simp only [Tryz.pickM] at h
    cases hb : Nat.beq g f with
    | true =>
      rw [hb] at h
      have : g = f := by rw [Nat.beq_eq] at hb; exact hb
      subst this
      cases h with
      | head => exact List.mem_cons_self
      | tail _ h => exact List.mem_cons_of_mem _ (Tryz.pickM_mem g L r h)
    | false =>
      rw [hb] at h
      exact List.mem_cons_of_mem _ (Tryz.pickM_mem f L r h)
noncomputable def Tryz.extM (L : List Tryz.Known) : FuncId → Option CallF := fun f => cond (Nat.beq f 37) (some repC) (match Tryz.pickM f L with
  | [] => none
  | t => some (memoC t))
theorem Tryz.extM_ok {L : List Tryz.Known} (h : ∀ e ∈ L, Tryz.Known.ok e) : ∀ f c, Tryz.extM L f = some c → ∀ args σ v σ', c f args σ = some (v, σ') → SimF Tryz.prog [] f args σ v σ' := by
  intro f c hc
  unfold Tryz.extM at hc
  cases hb : Nat.beq f 37 with
  | true =>
    refine Tryz.ext0_ok f c ?_
    unfold Tryz.ext0
    rw [hb] at hc ⊢
    exact hc
  | false =>
    rw [hb] at hc
    simp only [cond_false] at hc
    split at hc
    · cases hc
    · cases hc
      refine memoC_ok fun x hx σ => ?_
      exact h _ (Tryz.pickM_mem f L x hx) σ
/-- One more known call, by one run. -/
theorem Tryz.known {L : List Tryz.Known} (h : ∀ e ∈ L, Tryz.Known.ok e) {f : Nat} {args : List Value} {v : Value} (hr : (Tryz.cal (Tryz.extM L) f args.toArray { heap := .nil, fams := .nil, next := 1000 }).map (·.1) = some v) (ha : args.all flatV = true) (hv : flatV v = true) : Tryz.Known.ok (f, args, v) :=
  known_call (Tryz.cal_ok (Tryz.extM_ok h)) hr ha hv
theorem Tryz.all_nil : ∀ e ∈ ([] : List Tryz.Known), Tryz.Known.ok e := fun _ h => by cases h
theorem Tryz.all_cons {e : Tryz.Known} {L : List Tryz.Known} (h : Tryz.Known.ok e) (hL : ∀ e ∈ L, Tryz.Known.ok e) : ∀ x ∈ e :: L, Tryz.Known.ok x := fun x hx => by
  cases hx with
  | head => exact h
  | tail _ hx => exact hL x hx
end Go.Proofs
