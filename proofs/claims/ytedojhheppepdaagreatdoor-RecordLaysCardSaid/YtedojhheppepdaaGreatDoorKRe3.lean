/-
  The reference's literal: a domain of four numbers. No condition.
-/
import Derived.Test.YtedojhheppepdaaGreatDoorKWa3TRe2
namespace Go.Proofs
open Go Go.Ev
set_option maxRecDepth 100000
set_option linter.unusedSimpArgs false
set_option linter.unusedVariables false
set_option linter.defProp false
set_option maxHeartbeats 4000000
attribute [local irreducible] zTF Jcf zOp zO zQ1 zQ2 zObj zQ zU zW zCl zRd zLd zPr zIf Jci zC
def Jpc (p : List UInt8) : Bool := decide (1 < p.length) && decide ((p.getD 0 0).toNat = 48)
def octR (p : List UInt8) : Bool := Jjn p && decide (numU p ≤ 255) && !Jpc p
def midL (l : List UInt8) : List UInt8 := (l.take (l.length - 1)).drop 1
def litR (l : List UInt8) : Bool := decide (2 ≤ l.length) && decide ((l.getD 0 0).toNat = 91) && decide ((l.getD (l.length - 1) 0).toNat = 93) && (decide ((Ja0 (midL l)).length = 4) && (Ja0 (midL l)).all octR)
theorem Joy (l : List UInt8) (hl : l.length < 100000000) : Jai 238 [.string (bStr l)] (.bool (litR l)) := by
  refine Ja6 rfl rfl (TF.walk (Jaf _) Jae Tryz.func238 (by kernel_rfl) rfl fun c hc => ?_)
  cases hc
  have hsz := Jbh l
  by_cases h1 : 2 ≤ l.length
  case neg =>
    have h1' : (((bStr l).size : Int) < 2) = True := eq_true (by rw [hsz]; omega)
    simp (maxSteps := 1000000) (disch := first | omega | decide +kernel | (simp only [symN] <;> omega) | assumption) only [Tryz.f238, Jaa, Jac, reduceIte, Nat.reduceEqDiff, Nat.reduceAdd, Nat.reduceMul, h1']
    simp [litR, h1]
  have h1' : (((bStr l).size : Int) < 2) = False := eq_false (by rw [hsz]; omega)
  have i0 : (0 : Int) < ((bStr l).size : Int) := by rw [hsz]; omega
  by_cases h2 : (l.getD 0 0).toNat = 91
  case neg =>
    have h2' : (((l.getD 0 0).toNat : Int) = 91) = False := eq_false (by omega)
    simp (maxSteps := 1000000) (disch := first | omega | decide +kernel | (simp only [symN] <;> omega) | assumption) only [Tryz.f238, Jaa, Jac, reduceIte, Nat.reduceEqDiff, Nat.reduceAdd, Nat.reduceMul, h1', i0, Jax, h2']
    have hf : litR l = false := by unfold litR; rw [decide_eq_false h2]; simp
    simp [hf]
  have h2' : (((l.getD 0 0).toNat : Int) = 91) = True := eq_true (by omega)
  have w1 : IntKind.i64.wrap (((bStr l).size : Int) - 1) = ((l.length - 1 : Nat) : Int) := by rw [hsz]; exact Jjx _ 1 (by omega) (by omega)
  have i1 : (0 : Int) ≤ ((l.length - 1 : Nat) : Int) := by omega
  have i2 : ((l.length - 1 : Nat) : Int) < ((bStr l).size : Int) := by rw [hsz]; omega
  by_cases h3 : (l.getD (l.length - 1) 0).toNat = 93
  case neg =>
    have h3' : (((l.getD (l.length - 1) 0).toNat : Int) = 93) = False := eq_false (by omega)
    simp (maxSteps := 1000000) (disch := first | omega | decide +kernel | (simp only [symN] <;> omega) | assumption) only [Tryz.f238, Jaa, Jac, reduceIte, Nat.reduceEqDiff, Nat.reduceAdd, Nat.reduceMul, h1', i0, Jax, h2', w1, i1, i2, h3']
    have hf : litR l = false := by unfold litR; rw [decide_eq_false h3]; simp
    simp [hf]
  have h3' : (((l.getD (l.length - 1) 0).toNat : Int) = 93) = True := eq_true (by omega)
  have i3 : (1 : Int) ≤ ((l.length - 1 : Nat) : Int) := by omega
  have i4 : ((l.length - 1 : Nat) : Int) ≤ ((bStr l).size : Nat) := by rw [hsz]; omega
  have hx : (bStr l).extract 1 (l.length - 1) = bStr (midL l) := Jko _ _ _
  have hml : (midL l).length ≤ l.length := by unfold midL; simp; omega
  simp (maxSteps := 1000000) (disch := first | omega | decide +kernel | (simp only [symN] <;> omega) | assumption) only [Tryz.f238, Jaa, Jac, reduceIte, Nat.reduceEqDiff, Nat.reduceAdd, Nat.reduceMul, h1', i0, Jax, h2', w1, i1, i2, i3, i4, h3', hx, Jw5]
  rw [Jak]
  refine TF.mono_of (Jpk (midL l) (by omega) _) ?_
  rintro s τ0 ⟨hs, _⟩
  obtain ⟨b0, k0, e0⟩ := hs.shape
  rw [List.length_map] at e0
  rw [e0]
  by_cases h4 : (Ja0 (midL l)).length = 4
  case neg =>
    have h4' : ((((Ja0 (midL l)).length : Nat) : Int) = 4) = False := eq_false (by omega)
    simp (maxSteps := 1000000) (disch := first | omega | decide +kernel | (simp only [symN] <;> omega) | assumption) only [Jaa, Jac, reduceIte, Nat.reduceEqDiff, Nat.reduceAdd, Nat.reduceMul, h4']
    simp [litR, h4]
  have h4' : ((((Ja0 (midL l)).length : Nat) : Int) = 4) = True := eq_true (by omega)
  simp (maxSteps := 1000000) (disch := first | omega | decide +kernel | (simp only [symN] <;> omega) | assumption) only [Jaa, Jac, reduceIte, Nat.reduceEqDiff, Nat.reduceAdd, Nat.reduceMul, h4']
  rw [← e0]
  have hlit : litR l = (Ja0 (midL l)).all octR := by
    unfold litR
    rw [decide_eq_true h1, decide_eq_true h2, decide_eq_true h3, decide_eq_true h4]; rfl
  rw [hlit]
  generalize hR : Ja0 (midL l) = rows at hs h4 h4' e0 ⊢
  have hsm : ∀ q ∈ rows, q.length < 1000000000 := fun q hq => by
    have := Jk2 (l := midL l) (q := q) (by rw [hR]; exact hq)
    omega
  refine Jay (Jaf _) Jae (fun kk env τ => ∃ i m, i + kk = 4 ∧ τ = τ0.bump m ∧ (rows.take i).all octR = true ∧ eget env 3 = s ∧ eget env 4 = .int .i64 (i : Nat)) (n := 4) (by kernel_rfl) ?_ ?_
  · exact ⟨0, _, by omega, rfl, by simp, by simp [Jab], by simp [Jab]⟩
  rintro kk env τ ⟨i, m, hi, rfl, hall, e3, e4⟩
  cases kk with
  | zero =>
    have hlt : ((i : Int) < 4) = False := eq_false (by omega)
    rw [List.take_of_length_le (by omega)] at hall
    simp (maxSteps := 1000000) (disch := first | omega | decide +kernel | (simp only [symN] <;> omega) | assumption) only [Jaa, Jac, reduceIte, Nat.reduceEqDiff, Nat.reduceAdd, Nat.reduceMul, e3, e4, hlt, decide_false]
    rw [hall]
  | succ kk =>
    have hil : i < rows.length := by omega
    have hlt : ((i : Int) < 4) = True := eq_true (by omega)
    rcases hs with ⟨hnil, _⟩ | ⟨A, o, k, cc, rfl, hcc, hr⟩
    · have e : rows.length = 0 := by simpa using congrArg List.length hnil
      omega
    have hrd : ∀ m, rdG (τ0.bump m) (τ0.get A) (o + i) 1 = some [.string (bStr rows[i])] := fun m => by
      have := SlR.rd (k := 0) hcc hr (i := i) (by simpa using hil) m
      rw [Nat.mul_one] at this
      rw [this]; simp [Jb3]
    have ib : ((i : Nat) : Int) < (((rows.map fun p => [Jb3 p]).length : Nat) : Int) := by rw [List.length_map]; omega
    have w5 : IntKind.i64.wrap ((i : Int) + 1) = ((i + 1 : Nat) : Int) := Jbt i 1 (by omega)
    have hpz := Jbh rows[i]
    have hbad : octR rows[i] = false → rows.all octR = false := fun h => by
      rw [List.all_eq_false]; exact ⟨rows[i], List.getElem_mem hil, by rw [h]; simp⟩
    simp (maxSteps := 1000000) (disch := first | omega | decide +kernel | (simp only [symN] <;> omega) | assumption) only [Jaa, Jac, reduceIte, Nat.reduceEqDiff, Nat.reduceAdd, Nat.reduceMul, e3, e4, hlt, decide_true, hrd, ib]
    rw [Jak]
    refine TF.of (Jow rows[i] (hsm _ (List.getElem_mem hil)) _) ?_
    cases n1 : Jjn rows[i] with
    | false =>
      have hv : numV rows[i] = .tuple #[.int .i64 0, .int .i64 5] := by rw [numV, n1]; rfl
      have z : ((5 : Int) = 0) = False := eq_false (by omega)
      rw [hv, hbad (by simp [octR, n1])]
      simp (maxSteps := 1000000) (disch := first | omega | decide +kernel | (simp only [symN] <;> omega) | assumption) only [Jaa, Jac, reduceIte, Nat.reduceEqDiff, Nat.reduceAdd, Nat.reduceMul, e3, e4, z]
    | true =>
    have hv : numV rows[i] = .tuple #[.int .i64 (numU rows[i] : Nat), .int .i64 0] := by rw [numV, n1]; rfl
    rw [hv]
    by_cases n2 : 255 < numU rows[i]
    · have n2' : ((255 : Int) < (numU rows[i] : Int)) = True := eq_true (by omega)
      rw [hbad (by simp [octR]; intro _ h; omega)]
      simp (maxSteps := 1000000) (disch := first | omega | decide +kernel | (simp only [symN] <;> omega) | assumption) only [Jaa, Jac, reduceIte, Nat.reduceEqDiff, Nat.reduceAdd, Nat.reduceMul, e3, e4, n2']
    have n2' : ((255 : Int) < (numU rows[i] : Int)) = False := eq_false (by omega)
    have hgood : octR rows[i] = !Jpc rows[i] := by simp [octR, n1]; omega
    have hnext : octR rows[i] = true → (rows.take (i + 1)).all octR = true := fun h => by
      rw [List.take_succ_eq_append_getElem hil, List.all_append, hall, List.all_cons, h]; rfl
    by_cases n3 : 1 < rows[i].length
    case neg =>
      have n3' : ((1 : Int) < ((bStr rows[i]).size : Int)) = False := eq_false (by rw [hpz]; omega)
      simp (maxSteps := 1000000) (disch := first | omega | decide +kernel | (simp only [symN] <;> omega) | assumption) only [Jaa, Jac, reduceIte, Nat.reduceEqDiff, Nat.reduceAdd, Nat.reduceMul, e3, e4, n2', n3', hrd, ib, w5]
      exact ⟨kk, by omega, i + 1, _, by omega, rfl, hnext (by rw [hgood]; simp [Jpc, n3]), trivial, rfl⟩
    have n3' : ((1 : Int) < ((bStr rows[i]).size : Int)) = True := eq_true (by rw [hpz]; omega)
    have j0 : (0 : Int) < ((bStr rows[i]).size : Int) := by rw [hpz]; omega
    by_cases n4 : (rows[i].getD 0 0).toNat = 48
    · have n4' : (((rows[i].getD 0 0).toNat : Int) = 48) = True := eq_true (by omega)
      rw [hbad (by rw [hgood]; simp [Jpc, n3]; exact n4)]
      simp (maxSteps := 1000000) (disch := first | omega | decide +kernel | (simp only [symN] <;> omega) | assumption) only [Jaa, Jac, reduceIte, Nat.reduceEqDiff, Nat.reduceAdd, Nat.reduceMul, e3, e4, n2', n3', hrd, ib, w5, j0, Jax, n4']
    · have n4' : (((rows[i].getD 0 0).toNat : Int) = 48) = False := eq_false (by omega)
      simp (maxSteps := 1000000) (disch := first | omega | decide +kernel | (simp only [symN] <;> omega) | assumption) only [Jaa, Jac, reduceIte, Nat.reduceEqDiff, Nat.reduceAdd, Nat.reduceMul, e3, e4, n2', n3', hrd, ib, w5, j0, Jax, n4']
      exact ⟨kk, by omega, i + 1, _, by omega, rfl, hnext (by rw [hgood, Jpc, decide_eq_false n4]; simp), trivial, rfl⟩
end Go.Proofs
