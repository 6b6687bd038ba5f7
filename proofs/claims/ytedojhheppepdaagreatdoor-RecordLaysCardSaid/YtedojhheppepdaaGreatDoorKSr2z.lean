/-
  Contracts of records: two records compared. No condition.
-/
import Derived.Test.YtedojhheppepdaaGreatDoorKSr2_0
import Derived.Test.YtedojhheppepdaaGreatDoorKSr2_1
import Derived.Test.YtedojhheppepdaaGreatDoorKSr2_2
import Derived.Test.YtedojhheppepdaaGreatDoorKSr2_3
import Derived.Test.YtedojhheppepdaaGreatDoorKSr2_4
namespace Go.Proofs
open Go Go.Ev
set_option maxRecDepth 100000
set_option linter.unusedSimpArgs false
set_option linter.unusedVariables false
set_option maxHeartbeats 40000000
attribute [local irreducible] zTF Jcf zOp zO zQ1 zQ2 zObj zQ zU zW zCl zRd zLd zPr zIf Jci zC
theorem Jux {gl : List Nat} (a b : RecM) (s t : RecS) (σ : St) (hw : σ.Wf) (ha : Jbo σ a s) (hb : Jbo σ b t) (fa : a.Fits) (fb : b.Fits) :
    TF Tryz.prog gl 118 #[.agg ⟨Jah a s⟩, .agg ⟨Jah b t⟩] σ fun v σ' => v = .bool (Jcj a b) ∧ Jad σ σ' := by
  refine TF.walk (Jaf gl) Jae Tryz.func118 (by kernel_rfl) rfl fun c hc => ?_
  cases hc
  have nx0 : ∀ k, (σ.next + (k + 1) = σ.next) = False := fun k => eq_false (by omega)
  have nx1 : ∀ k, (σ.next = σ.next + (k + 1)) = False := fun k => eq_false (by omega)
  have ca : (Value.agg ⟨Jah a s⟩).cells = ⟨Jah a s⟩ := rfl
  have cb : (Value.agg ⟨Jah b t⟩).cells = ⟨Jah b t⟩ := rfl
  rw [Jey, Jb8]
  simp (maxSteps := 1000000) (disch := first | omega | decide +kernel | (simp only [symN] <;> omega) | assumption) only [Jdj, Jac, reduceIte, Nat.reduceEqDiff, Nat.reduceAdd, Nat.reduceMul, nx0, nx1]
  refine Jff (fun env τ => ∃ A B, eget env 2 = .pointer (some ⟨A, 0, none⟩) ∧ eget env 3 = .pointer (some ⟨B, 0, none⟩) ∧ eget env 4 = .bool false ∧ τ.get A = some (.cells true 0 A (Jah a s)) ∧ τ.get B = some (.cells true 0 B (Jah b t)) ∧ Jad σ τ) ?_ ?_
  · refine ⟨σ.next, σ.next + 1, by simp [Jab], by simp [Jab], by simp [Jab], ?_, by simp, by (repeat (first | exact Jad.refl _ | apply Jad.bump' | apply Jad.setHint | refine Jad.setFam ?_ (by first | omega | (simp <;> omega)) | refine Jad.set ?_ (by first | omega | (simp <;> omega))))⟩
    simp
  rintro env τ ⟨A, B, v2, v3, v4, gA, gB, hk⟩
  by_cases h_kind : a.kind = b.kind
  case neg => exact Jor rfl a b s t σ hw ha hb fa fb env τ A B v2 v3 v4 gA gB hk h_kind
  by_cases h_id : a.id = b.id
  case neg => exact Joq rfl a b s t σ hw ha hb fa fb env τ A B v2 v3 v4 gA gB hk h_kind h_id
  by_cases h_tick : a.tick = b.tick
  case neg => exact Jop rfl a b s t σ hw ha hb fa fb env τ A B v2 v3 v4 gA gB hk h_kind h_id h_tick
  by_cases h_snd : (a.sl == b.sl && a.sd == b.sd) = true
  case neg => exact Joo rfl a b s t σ hw ha hb fa fb env τ A B v2 v3 v4 gA gB hk h_kind h_id h_tick (by simpa using h_snd)
  by_cases h_cont : (a.content.toList == b.content.toList) = true
  case neg => exact Jon rfl a b s t σ hw ha hb fa fb env τ A B v2 v3 v4 gA gB hk h_kind h_id h_tick h_snd (by simpa using h_cont)
  by_cases h_what : a.what = b.what
  case neg => exact Jom rfl a b s t σ hw ha hb fa fb env τ A B v2 v3 v4 gA gB hk h_kind h_id h_tick h_snd h_cont h_what
  by_cases h_next : a.next = b.next
  case neg => exact Jol rfl a b s t σ hw ha hb fa fb env τ A B v2 v3 v4 gA gB hk h_kind h_id h_tick h_snd h_cont h_what h_next
  by_cases h_new : a.new = b.new
  case neg => exact Jok rfl a b s t σ hw ha hb fa fb env τ A B v2 v3 v4 gA gB hk h_kind h_id h_tick h_snd h_cont h_what h_next h_new
  exact Joj rfl a b s t σ hw ha hb fa fb env τ A B v2 v3 v4 gA gB hk h_kind h_id h_tick h_snd h_cont h_what h_next h_new
end Go.Proofs
