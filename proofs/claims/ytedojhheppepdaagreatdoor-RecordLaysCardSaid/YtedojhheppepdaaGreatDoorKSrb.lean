/-
  record.May, by what a domain is. No condition.
-/
import Derived.Test.YtedojhheppepdaaGreatDoorKSr7TSr2
import Derived.Test.YtedojhheppepdaaGreatDoorKSr2z
import Derived.Test.YtedojhheppepdaaGreatDoorKTyRTSr6
namespace Go.Proofs
open Go Go.Ev
set_option maxRecDepth 100000
set_option linter.unusedSimpArgs false
set_option linter.unusedVariables false
set_option maxHeartbeats 40000000
attribute [local irreducible] zTF Jcf zOp zO zQ1 zQ2 zObj zQ zU zW zCl zRd zLd zPr zIf Jci zC
def Jc4 (n : Int) : Bool := decide (0 ≤ n) && decide (n ≤ 1099511627776)
theorem Jsh {gl : List Nat} (a b : RecM) (s t : RecS) (σ : St) (ha : Jbo σ a s) (hb : Jbo σ b t) (fa : a.Fits) (fb : b.Fits) :
    SimF Tryz.prog gl 118 #[.agg ⟨Jah a s⟩, .agg ⟨Jah b t⟩] σ (.bool (Jcj a b)) σ :=
  Jjr (Je4 rfl _) fun hw => Jux a b s t σ hw ha hb fa fb
def Jd1 (may : ByteArray → ByteArray → Bool) (fin : Jan → Bool) (fail : Jaw → Bool) (r : RecM) : Bool :=
  if r.kind = 1 then Jby may r.sl r.sd && Jez r.to 1 16 fun p => may p.1 p.2
  else if r.kind = 2 then Jez r.fin 0 64 fin && Jez r.fail 0 64 fail
  else if r.kind = 3 then Jfg r.which 1 && Jc4 r.next
  else if r.kind = 4 then Jfg r.which 1 && decide (1 ≤ r.what) && decide (r.what ≤ 3)
  else if r.kind = 5 then Jfg r.which 128 && decide (r.id < r.new) && Jez r.to 1 1 fun p => may p.1 p.2
  else false
def mayM (may : ByteArray → ByteArray → Bool) (fin : Jan → Bool) (fail : Jaw → Bool) (r : RecM) : Bool :=
  !(decide (r.id = 0)) && Jc4 r.tick && decide (r.content.size ≤ 8192) && Jcj r (Jhc r) && Jd1 may fin fail r
structure Jjl (may : ByteArray → ByteArray → Bool) (fin : Jan → Bool) (fail : Jaw → Bool) (r : RecM) : Prop where
  okSnd : Jai 64 [.agg ⟨Jbb r.sl r.sd⟩] (.bool (may r.sl r.sd))
  okTo : ∀ p ∈ r.to, Jai 64 [.agg ⟨Jbb p.1 p.2⟩] (.bool (may p.1 p.2))
  okFin : ∀ f ∈ r.fin, Jai 123 [.agg ⟨f.cells⟩] (.bool (fin f))
  okFail : ∀ f ∈ r.fail, Jai 125 [.agg ⟨f.cells⟩] (.bool (fail f))
  finQ : ∃ q : List Value → Bool, ∀ f ∈ r.fin, q f.cells = fin f
  failQ : ∃ q : List Value → Bool, ∀ f ∈ r.fail, q f.cells = fail f
theorem Jym (may : ByteArray → ByteArray → Bool) (fin : Jan → Bool) (fail : Jaw → Bool) (r : RecM) (s : RecS) (σ : St) (hw : σ.Wf) (ha : Jbo σ r s) (hf : r.Fits) (hm : Jjl may fin fail r) :
    TF Tryz.prog [] 16 #[.agg ⟨Jah r s⟩] σ fun v σ' => v = .bool (mayM may fin fail r) ∧ Jad σ σ' := by
  refine TF.walk (Jaf _) Jae Tryz.func16 (by kernel_rfl) rfl fun c hc => ?_
  cases hc
  obtain ⟨b0, k0, e0⟩ := ha.to.shape
  obtain ⟨b1, k1, e1⟩ := ha.fin.shape
  obtain ⟨b2, k2, e2⟩ := ha.fail.shape
  obtain ⟨b3, k3, e3⟩ := ha.which.shape
  have ca : (Value.agg ⟨Jah r s⟩).cells = ⟨Jah r s⟩ := rfl
  rw [Jey, Jb8]
  simp (maxSteps := 1000000) (disch := first | omega | decide +kernel | (simp only [symN] <;> omega) | assumption) only [Jdj, Jac, reduceIte, Nat.reduceEqDiff, Nat.reduceAdd, Nat.reduceMul]
  refine Jff (fun env τ => ∃ A, eget env 1 = .pointer (some ⟨A, 0, none⟩) ∧ eget env 2 = .bool false ∧ τ.get A = some (.cells true 0 A (Jah r s)) ∧ Jad σ τ) ?_ ?_
  · exact ⟨σ.next, by simp [Jab], by simp [Jab], by simp, by (repeat (first | exact Jad.refl _ | apply Jad.bump' | apply Jad.setHint | refine Jad.setFam ?_ (by first | omega | (simp <;> omega)) | refine Jad.set ?_ (by first | omega | (simp <;> omega))))⟩
  rintro env τ ⟨A, v1, v2, gA, hk⟩
  have haτ : ∀ m, Jbo (τ.bump m) r s := fun m => ha.keeps hw (hk.trans .bump)
  obtain ⟨x0, x1, x2, x3, x5, x6, x7, x8, x9, x10, x11, x12, x13⟩ := Jb7 gA
  have y5 := x5
  have y7 := x7
  have y8 := x8
  have y9 := x9
  rw [e0] at y5
  rw [e1] at y7
  rw [e2] at y8
  rw [e3] at y9
  by_cases h1 : r.id = 0
  · have p1 : (((r.id : Nat) : Int) = 0) = True := eq_true (by omega)
    simp (maxSteps := 1000000) (disch := first | omega | decide +kernel | (simp only [symN] <;> omega) | assumption) only [Tryz.f16, Jaa, Jac, reduceIte, Nat.reduceEqDiff, Nat.reduceAdd, Nat.reduceMul, v1, v2, x1, p1]
    refine ⟨?_, hk.bump'⟩
    simp [Jag, Jab, mayM, h1]
  have p1 : (((r.id : Nat) : Int) = 0) = False := eq_false (by omega)
  simp (maxSteps := 1000000) (disch := first | omega | decide +kernel | (simp only [symN] <;> omega) | assumption) only [Tryz.f16, Jaa, Jac, reduceIte, Nat.reduceEqDiff, Nat.reduceAdd, Nat.reduceMul, v1, v2, x1, x2, p1, decide_false]
  rw [Jak]
  refine TF.of (Jme r.tick _) ?_
  cases h2 : Jc4 r.tick with
  | false =>
    have h2' : (decide (0 ≤ r.tick) && decide (r.tick ≤ 1099511627776)) = false := h2
    simp (maxSteps := 1000000) (disch := first | omega | decide +kernel | (simp only [symN] <;> omega) | assumption) only [Jaa, Jac, reduceIte, Nat.reduceEqDiff, Nat.reduceAdd, Nat.reduceMul, v1, v2, h2', true_and, and_self]
    refine ⟨?_, hk.bump'⟩
    simp [Jag, Jab, mayM, h1, h2]
  | true =>
  have h2' : (decide (0 ≤ r.tick) && decide (r.tick ≤ 1099511627776)) = true := h2
  by_cases h3 : r.content.size ≤ 8192
  case neg =>
    have p3 : ((r.content.size : Int) > 8192) = True := eq_true (by omega)
    have p3' : (8192 < (r.content.size : Int)) = True := eq_true (by omega)
    simp (maxSteps := 1000000) (disch := first | omega | decide +kernel | (simp only [symN] <;> omega) | assumption) only [Jaa, Jac, reduceIte, Nat.reduceEqDiff, Nat.reduceAdd, Nat.reduceMul, v1, v2, x6, h2', p3, p3', decide_true, true_and, and_self]
    refine ⟨?_, hk.bump'⟩
    simp [Jag, Jab, mayM, h1, h2, h3]
  have p3 : ((r.content.size : Int) > 8192) = False := eq_false (by omega)
  have p3' : (8192 < (r.content.size : Int)) = False := eq_false (by omega)
  simp (maxSteps := 1000000) (disch := first | omega | decide +kernel | (simp only [symN] <;> omega) | assumption) only [Jaa, Jac, reduceIte, Nat.reduceEqDiff, Nat.reduceAdd, Nat.reduceMul, v1, v2, x6, x13, h2', p3, p3', true_and, and_self]
  rw [Jak]
  refine TF.of (Jss r s _ (haτ _)) ?_
  simp (maxSteps := 1000000) (disch := first | omega | decide +kernel | (simp only [symN] <;> omega) | assumption) only [Jaa, Jac, reduceIte, Nat.reduceEqDiff, Nat.reduceAdd, Nat.reduceMul, v1, v2, x13, true_and, and_self]
  rw [Jak]
  refine TF.of (Jsh r (Jhc r) s (Jlf r.kind s) _ (haτ _) (Km8 (haτ _)) hf (Kb5 hf)) ?_
  cases h4 : Jcj r (Jhc r) with
  | false =>
    simp (maxSteps := 1000000) (disch := first | omega | decide +kernel | (simp only [symN] <;> omega) | assumption) only [Jaa, Jac, reduceIte, Nat.reduceEqDiff, Nat.reduceAdd, Nat.reduceMul, v1, v2, x13, true_and, and_self]
    refine ⟨?_, hk.bump'⟩
    simp [Jag, Jab, mayM, h1, h2, h3, h4]
  | true =>
  have hM : mayM may fin fail r = Jd1 may fin fail r := by simp [mayM, h1, h2, h3, h4]
  rw [hM]
  have c1 : (((r.kind : Nat) : Int) = 1) = (r.kind = 1) := propext (by omega)
  have c2 : (((r.kind : Nat) : Int) = 2) = (r.kind = 2) := propext (by omega)
  have c3 : (((r.kind : Nat) : Int) = 3) = (r.kind = 3) := propext (by omega)
  have c4 : (((r.kind : Nat) : Int) = 4) = (r.kind = 4) := propext (by omega)
  have c5 : (((r.kind : Nat) : Int) = 5) = (r.kind = 5) := propext (by omega)
  simp (maxSteps := 1000000) (disch := first | omega | decide +kernel | (simp only [symN] <;> omega) | assumption) only [Jaa, Jac, reduceIte, Nat.reduceEqDiff, Nat.reduceAdd, Nat.reduceMul, v1, v2, x0, x13, c1, true_and, and_self]
  have pp := Jfp may r.sl r.sd hm.okSnd
  unfold Jbb at pp
  have w1 : ((1 : Int) ≤ (r.what : Int)) = (1 ≤ r.what) := propext (by omega)
  have w1' : ((r.what : Int) ≥ 1) = (1 ≤ r.what) := propext (by omega)
  have w2 : ((r.what : Int) ≤ 3) = (r.what ≤ 3) := propext (by omega)
  have n1 : ((r.id : Int) < (r.new : Int)) = (r.id < r.new) := propext (by omega)
  have n1' : ((r.new : Int) > (r.id : Int)) = (r.id < r.new) := propext (by omega)
  have wh1 : ∀ m, SimF Tryz.prog [] 126 #[s.which, .int .i64 1] (τ.bump m) (.bool (Jfg r.which 1)) (τ.bump m) := fun m => Jjw r.which s.which 1 _ (haτ m).which hf.which
  have wh2 : ∀ m, SimF Tryz.prog [] 126 #[s.which, .int .i64 128] (τ.bump m) (.bool (Jfg r.which 128)) (τ.bump m) := fun m => Jjw r.which s.which 128 _ (haτ m).which hf.which
  have et1 : ∀ m, SimF Tryz.prog [] 121 #[s.to, .int .i64 1, .int .i64 1, .func (.func 64) #[] #[]] (τ.bump m) (.bool (Jez r.to 1 1 fun p => may p.1 p.2)) (τ.bump m) := fun m => Jh8 may r.to s.to 1 1 _ (haτ m).to hf.to hm.okTo
  by_cases g1 : r.kind = 1
  · have t1 := eq_true g1
    simp (maxSteps := 1000000) (disch := first | omega | decide +kernel | (simp only [symN] <;> omega) | assumption) only [Jaa, Jac, reduceIte, Nat.reduceEqDiff, Nat.reduceAdd, Nat.reduceMul, v1, v2, x3, t1]
    rw [Jak]
    refine TF.of (pp _) ?_
    cases q1 : Jby may r.sl r.sd with
    | false =>
      simp (maxSteps := 1000000) (disch := first | omega | decide +kernel | (simp only [symN] <;> omega) | assumption) only [Jaa, Jac, reduceIte, Nat.reduceEqDiff, Nat.reduceAdd, Nat.reduceMul, v1, v2]
      refine ⟨?_, hk.bump'⟩
      simp [Jag, Jab, Jd1, g1, q1]
    | true =>
      simp (maxSteps := 1000000) (disch := first | omega | decide +kernel | (simp only [symN] <;> omega) | assumption) only [Jaa, Jac, reduceIte, Nat.reduceEqDiff, Nat.reduceAdd, Nat.reduceMul, v1, v2, y5]
      rw [Jak, ← e0]
      refine TF.of (Jh8 may r.to s.to 1 16 _ (haτ _).to hf.to hm.okTo) ?_
      simp (maxSteps := 1000000) (disch := first | omega | decide +kernel | (simp only [symN] <;> omega) | assumption) only [Jaa, Jac, reduceIte, Nat.reduceEqDiff, Nat.reduceAdd, Nat.reduceMul, v1, v2]
      refine ⟨?_, hk.bump'⟩
      simp [Jag, Jab, Jd1, g1, q1]
  have f1 := eq_false g1
  simp (maxSteps := 1000000) (disch := first | omega | decide +kernel | (simp only [symN] <;> omega) | assumption) only [Jaa, Jac, reduceIte, Nat.reduceEqDiff, Nat.reduceAdd, Nat.reduceMul, v1, v2, x0, f1, c2, decide_false]
  by_cases g2 : r.kind = 2
  · have t2 := eq_true g2
    simp (maxSteps := 1000000) (disch := first | omega | decide +kernel | (simp only [symN] <;> omega) | assumption) only [Jaa, Jac, reduceIte, Nat.reduceEqDiff, Nat.reduceAdd, Nat.reduceMul, v1, v2, y7, t2]
    rw [Jak, ← e1]
    refine TF.of (Jlr fin r.fin s.fin 0 64 _ (haτ _).fin hf.fin hm.okFin hm.finQ) ?_
    cases q1 : Jez r.fin 0 64 fin with
    | false =>
      simp (maxSteps := 1000000) (disch := first | omega | decide +kernel | (simp only [symN] <;> omega) | assumption) only [Jaa, Jac, reduceIte, Nat.reduceEqDiff, Nat.reduceAdd, Nat.reduceMul, v1, v2]
      refine ⟨?_, hk.bump'⟩
      simp [Jag, Jab, Jd1, g1, g2, q1]
    | true =>
      simp (maxSteps := 1000000) (disch := first | omega | decide +kernel | (simp only [symN] <;> omega) | assumption) only [Jaa, Jac, reduceIte, Nat.reduceEqDiff, Nat.reduceAdd, Nat.reduceMul, v1, v2, y8]
      rw [Jak, ← e2]
      refine TF.of (Jky fail r.fail s.fail 0 64 _ (haτ _).fail hf.fail hm.okFail hm.failQ) ?_
      simp (maxSteps := 1000000) (disch := first | omega | decide +kernel | (simp only [symN] <;> omega) | assumption) only [Jaa, Jac, reduceIte, Nat.reduceEqDiff, Nat.reduceAdd, Nat.reduceMul, v1, v2]
      refine ⟨?_, hk.bump'⟩
      simp [Jag, Jab, Jd1, g1, g2, q1]
  have f2 := eq_false g2
  simp (maxSteps := 1000000) (disch := first | omega | decide +kernel | (simp only [symN] <;> omega) | assumption) only [Jaa, Jac, reduceIte, Nat.reduceEqDiff, Nat.reduceAdd, Nat.reduceMul, v1, v2, x0, f2, c3, decide_false]
  by_cases g3 : r.kind = 3
  · have t3 := eq_true g3
    simp (maxSteps := 1000000) (disch := first | omega | decide +kernel | (simp only [symN] <;> omega) | assumption) only [Jaa, Jac, reduceIte, Nat.reduceEqDiff, Nat.reduceAdd, Nat.reduceMul, v1, v2, y9, t3]
    rw [Jak, ← e3]
    refine TF.of (wh1 _) ?_
    cases q1 : Jfg r.which 1 with
    | false =>
      simp (maxSteps := 1000000) (disch := first | omega | decide +kernel | (simp only [symN] <;> omega) | assumption) only [Jaa, Jac, reduceIte, Nat.reduceEqDiff, Nat.reduceAdd, Nat.reduceMul, v1, v2]
      refine ⟨?_, hk.bump'⟩
      simp [Jag, Jab, Jd1, g1, g2, g3, q1]
    | true =>
      simp (maxSteps := 1000000) (disch := first | omega | decide +kernel | (simp only [symN] <;> omega) | assumption) only [Jaa, Jac, reduceIte, Nat.reduceEqDiff, Nat.reduceAdd, Nat.reduceMul, v1, v2, x11]
      rw [Jak]
      refine TF.of (Jme r.next _) ?_
      simp (maxSteps := 1000000) (disch := first | omega | decide +kernel | (simp only [symN] <;> omega) | assumption) only [Jaa, Jac, reduceIte, Nat.reduceEqDiff, Nat.reduceAdd, Nat.reduceMul, v1, v2]
      refine ⟨?_, hk.bump'⟩
      simp [Jag, Jab, Jd1, g1, g2, g3, q1, Jc4]
  have f3 := eq_false g3
  simp (maxSteps := 1000000) (disch := first | omega | decide +kernel | (simp only [symN] <;> omega) | assumption) only [Jaa, Jac, reduceIte, Nat.reduceEqDiff, Nat.reduceAdd, Nat.reduceMul, v1, v2, x0, f3, c4, decide_false]
  by_cases g4 : r.kind = 4
  · have t4 := eq_true g4
    simp (maxSteps := 1000000) (disch := first | omega | decide +kernel | (simp only [symN] <;> omega) | assumption) only [Jaa, Jac, reduceIte, Nat.reduceEqDiff, Nat.reduceAdd, Nat.reduceMul, v1, v2, y9, t4]
    rw [Jak, ← e3]
    refine TF.of (wh1 _) ?_
    cases q1 : Jfg r.which 1 with
    | false =>
      simp (maxSteps := 1000000) (disch := first | omega | decide +kernel | (simp only [symN] <;> omega) | assumption) only [Jaa, Jac, reduceIte, Nat.reduceEqDiff, Nat.reduceAdd, Nat.reduceMul, v1, v2]
      refine ⟨?_, hk.bump'⟩
      simp [Jag, Jab, Jd1, g1, g2, g3, g4, q1]
    | true =>
      by_cases q2 : 1 ≤ r.what
      · have q2' := eq_true q2
        simp (maxSteps := 1000000) (disch := first | omega | decide +kernel | (simp only [symN] <;> omega) | assumption) only [Jaa, Jac, reduceIte, Nat.reduceEqDiff, Nat.reduceAdd, Nat.reduceMul, v1, v2, x10, w1, w1', w2, q2']
        refine ⟨?_, hk.bump'⟩
        simp [Jag, Jab, Jd1, g1, g2, g3, g4, q1, q2]
      · have q2' := eq_false q2
        simp (maxSteps := 1000000) (disch := first | omega | decide +kernel | (simp only [symN] <;> omega) | assumption) only [Jaa, Jac, reduceIte, Nat.reduceEqDiff, Nat.reduceAdd, Nat.reduceMul, v1, v2, x10, w1, w1', w2, q2', decide_false]
        refine ⟨?_, hk.bump'⟩
        simp [Jag, Jab, Jd1, g1, g2, g3, g4, q1, q2]
  have f4 := eq_false g4
  simp (maxSteps := 1000000) (disch := first | omega | decide +kernel | (simp only [symN] <;> omega) | assumption) only [Jaa, Jac, reduceIte, Nat.reduceEqDiff, Nat.reduceAdd, Nat.reduceMul, v1, v2, x0, f4, c5, decide_false]
  by_cases g5 : r.kind = 5
  · have t5 := eq_true g5
    simp (maxSteps := 1000000) (disch := first | omega | decide +kernel | (simp only [symN] <;> omega) | assumption) only [Jaa, Jac, reduceIte, Nat.reduceEqDiff, Nat.reduceAdd, Nat.reduceMul, v1, v2, y9, t5]
    rw [Jak, ← e3]
    refine TF.of (wh2 _) ?_
    cases q1 : Jfg r.which 128 with
    | false =>
      simp (maxSteps := 1000000) (disch := first | omega | decide +kernel | (simp only [symN] <;> omega) | assumption) only [Jaa, Jac, reduceIte, Nat.reduceEqDiff, Nat.reduceAdd, Nat.reduceMul, v1, v2]
      refine ⟨?_, hk.bump'⟩
      simp [Jag, Jab, Jd1, g1, g2, g3, g4, g5, q1]
    | true =>
      by_cases q2 : r.id < r.new
      case neg =>
        have q2' := eq_false q2
        simp (maxSteps := 1000000) (disch := first | omega | decide +kernel | (simp only [symN] <;> omega) | assumption) only [Jaa, Jac, reduceIte, Nat.reduceEqDiff, Nat.reduceAdd, Nat.reduceMul, v1, v2, x1, x12, n1, n1', q2', decide_false]
        refine ⟨?_, hk.bump'⟩
        simp [Jag, Jab, Jd1, g1, g2, g3, g4, g5, q1, q2]
      have q2' := eq_true q2
      simp (maxSteps := 1000000) (disch := first | omega | decide +kernel | (simp only [symN] <;> omega) | assumption) only [Jaa, Jac, reduceIte, Nat.reduceEqDiff, Nat.reduceAdd, Nat.reduceMul, v1, v2, x1, x12, y5, n1, n1', q2']
      rw [Jak, ← e0]
      refine TF.of (et1 _) ?_
      simp (maxSteps := 1000000) (disch := first | omega | decide +kernel | (simp only [symN] <;> omega) | assumption) only [Jaa, Jac, reduceIte, Nat.reduceEqDiff, Nat.reduceAdd, Nat.reduceMul, v1, v2]
      refine ⟨?_, hk.bump'⟩
      simp [Jag, Jab, Jd1, g1, g2, g3, g4, g5, q1, q2]
  have f5 := eq_false g5
  simp (maxSteps := 1000000) (disch := first | omega | decide +kernel | (simp only [symN] <;> omega) | assumption) only [Jaa, Jac, reduceIte, Nat.reduceEqDiff, Nat.reduceAdd, Nat.reduceMul, v1, v2, x0, f5, decide_false]
  refine ⟨?_, hk.bump'⟩
  simp [Jag, Jab, Jd1, g1, g2, g3, g4, g5]
theorem Jmf (may : ByteArray → ByteArray → Bool) (fin : Jan → Bool) (fail : Jaw → Bool) (r : RecM) (s : RecS) (σ : St) (ha : Jbo σ r s) (hf : r.Fits) (hm : Jjl may fin fail r) :
    SimF Tryz.prog [] 16 #[.agg ⟨Jah r s⟩] σ (.bool (mayM may fin fail r)) σ := Jjr (Je4 rfl _) fun hw => Jym may fin fail r s σ hw ha hf hm
end Go.Proofs
