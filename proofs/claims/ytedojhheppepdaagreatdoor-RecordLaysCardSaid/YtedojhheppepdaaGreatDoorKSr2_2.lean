/-
  record.same, part by part. No condition.
-/
import Derived.Test.YtedojhheppepdaaGreatDoorKSr7TSr2
namespace Go.Proofs
open Go Go.Ev
set_option maxRecDepth 100000
set_option linter.unusedSimpArgs false
set_option linter.unusedVariables false
set_option maxHeartbeats 40000000
attribute [local irreducible] zTF Jcf zOp zO zQ1 zQ2 zObj zQ zU zW zCl zRd zLd zPr zIf Jci zC
theorem Jol {gl : List Nat} {c1 c2 : Code} (hc : Tryz.f118.body = some (.seq c1 c2)) (a b : RecM) (s t : RecS) (σ : St) (hw : σ.Wf) (ha : Jbo σ a s) (hb : Jbo σ b t) (fa : a.Fits) (fb : b.Fits)
    (env : Env) (τ : St) (A B : Nat) (v2 : eget env 2 = .pointer (some ⟨A, 0, none⟩)) (v3 : eget env 3 = .pointer (some ⟨B, 0, none⟩)) (v4 : eget env 4 = .bool false) (gA : τ.get A = some (.cells true 0 A (Jah a s))) (gB : τ.get B = some (.cells true 0 B (Jah b t))) (hk : Jad σ τ)
    (h_kind : a.kind = b.kind) (h_id : a.id = b.id) (h_tick : a.tick = b.tick) (h_snd : (a.sl == b.sl && a.sd == b.sd) = true) (h_cont : (a.content.toList == b.content.toList) = true) (h_what : a.what = b.what) (h_next : ¬ a.next = b.next) :
    zC Tryz.prog gl Jda Tryz.f118.ntmps c2 env τ (fun ex env' σ' => zX ex (zRes (Ja2 Tryz.prog env' σ' Tryz.f118.results.toList) (fun l => (fun v σ' => v = .bool (Jcj a b) ∧ Jad σ σ') (packed l) σ') .mk) (fun _ => False) (zRes (Ja2 Tryz.prog env' σ' Tryz.f118.results.toList) (fun l => (fun v σ' => v = .bool (Jcj a b) ∧ Jad σ σ') (packed l) σ') .mk) .mk) .mk := by
  cases hc
  obtain ⟨b0, k0, e0⟩ := ha.to.shape
  obtain ⟨b1, k1, e1⟩ := ha.fin.shape
  obtain ⟨b2, k2, e2⟩ := ha.fail.shape
  obtain ⟨b3, k3, e3⟩ := ha.which.shape
  obtain ⟨b4, k4, e4⟩ := hb.to.shape
  obtain ⟨b5, k5, e5⟩ := hb.fin.shape
  obtain ⟨b6, k6, e6⟩ := hb.fail.shape
  obtain ⟨b7, k7, e7⟩ := hb.which.shape
  obtain ⟨x0, x1, x2, x3, x5, x6, x7, x8, x9, x10, x11, x12, x13⟩ := Jb7 gA
  obtain ⟨y0, y1, y2, y3, y5, y6, y7, y8, y9, y10, y11, y12, y13⟩ := Jb7 gB
  rw [e0] at x5
  rw [e1] at x7
  rw [e2] at x8
  rw [e3] at x9
  rw [e4] at y5
  rw [e5] at y7
  rw [e6] at y8
  rw [e7] at y9
  have p_kind : (((a.kind : Nat) : Int) = ((b.kind : Nat) : Int)) = True := eq_true (by omega)
  have p_id : (((a.id : Nat) : Int) = ((b.id : Nat) : Int)) = True := eq_true (by omega)
  have p_tick : (a.tick = b.tick) = True := eq_true (by exact h_tick)
  have p_what : (((a.what : Nat) : Int) = ((b.what : Nat) : Int)) = True := eq_true (by omega)
  have n_next : (a.next = b.next) = False := eq_false (by exact h_next)
  simp (maxSteps := 1000000) (disch := first | omega | decide +kernel | (simp only [symN] <;> omega) | assumption) only [Jaa, Jac, reduceIte, Nat.reduceEqDiff, Nat.reduceAdd, Nat.reduceMul, Jam, v2, v3, v4, x0, x1, x2, x3, x5, x6, x7, x8, x9, x10, x11, x12, y0, y1, y2, y3, y5, y6, y7, y8, y9, y10, y11, y12]
  simp (maxSteps := 1000000) (disch := first | omega | decide +kernel | (simp only [symN] <;> omega) | assumption) only [Jaa, Jac, reduceIte, Nat.reduceEqDiff, Nat.reduceAdd, Nat.reduceMul, Jam, v2, v3, v4, x0, x1, x2, x3, x5, x6, x7, x8, x9, x10, x11, x12, y0, y1, y2, y3, y5, y6, y7, y8, y9, y10, y11, y12, p_kind]
  simp (maxSteps := 1000000) (disch := first | omega | decide +kernel | (simp only [symN] <;> omega) | assumption) only [Jaa, Jac, reduceIte, Nat.reduceEqDiff, Nat.reduceAdd, Nat.reduceMul, Jam, v2, v3, v4, x0, x1, x2, x3, x5, x6, x7, x8, x9, x10, x11, x12, y0, y1, y2, y3, y5, y6, y7, y8, y9, y10, y11, y12, p_id]
  simp (maxSteps := 1000000) (disch := first | omega | decide +kernel | (simp only [symN] <;> omega) | assumption) only [Jaa, Jac, reduceIte, Nat.reduceEqDiff, Nat.reduceAdd, Nat.reduceMul, Jam, v2, v3, v4, x0, x1, x2, x3, x5, x6, x7, x8, x9, x10, x11, x12, y0, y1, y2, y3, y5, y6, y7, y8, y9, y10, y11, y12, p_tick]
  simp (maxSteps := 1000000) (disch := first | omega | decide +kernel | (simp only [symN] <;> omega) | assumption) only [Jaa, Jac, reduceIte, Nat.reduceEqDiff, Nat.reduceAdd, Nat.reduceMul, Jam, v2, v3, v4, x0, x1, x2, x3, x5, x6, x7, x8, x9, x10, x11, x12, y0, y1, y2, y3, y5, y6, y7, y8, y9, y10, y11, y12, h_snd]
  simp (maxSteps := 1000000) (disch := first | omega | decide +kernel | (simp only [symN] <;> omega) | assumption) only [Jaa, Jac, reduceIte, Nat.reduceEqDiff, Nat.reduceAdd, Nat.reduceMul, Jam, v2, v3, v4, x0, x1, x2, x3, x5, x6, x7, x8, x9, x10, x11, x12, y0, y1, y2, y3, y5, y6, y7, y8, y9, y10, y11, y12, h_cont]
  simp (maxSteps := 1000000) (disch := first | omega | decide +kernel | (simp only [symN] <;> omega) | assumption) only [Jaa, Jac, reduceIte, Nat.reduceEqDiff, Nat.reduceAdd, Nat.reduceMul, Jam, v2, v3, v4, x0, x1, x2, x3, x5, x6, x7, x8, x9, x10, x11, x12, y0, y1, y2, y3, y5, y6, y7, y8, y9, y10, y11, y12, p_what]
  simp (maxSteps := 1000000) (disch := first | omega | decide +kernel | (simp only [symN] <;> omega) | assumption) only [Jaa, Jac, reduceIte, Nat.reduceEqDiff, Nat.reduceAdd, Nat.reduceMul, Jam, v2, v3, v4, x0, x1, x2, x3, x5, x6, x7, x8, x9, x10, x11, x12, y0, y1, y2, y3, y5, y6, y7, y8, y9, y10, y11, y12, n_next]
  refine ⟨?_, hk.bump'⟩
  simp [Jag, Jab, Jcj, h_kind, h_id, h_tick, h_snd, h_cont, h_what, h_next]
end Go.Proofs
