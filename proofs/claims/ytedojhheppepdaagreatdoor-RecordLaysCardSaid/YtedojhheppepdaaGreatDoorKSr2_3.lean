/-
  record.same: its rows. No condition.
-/
import Derived.Test.YtedojhheppepdaaGreatDoorKSr7TSr2
namespace Go.Proofs
open Go Go.Ev
set_option maxRecDepth 100000
set_option linter.unusedSimpArgs false
set_option linter.unusedVariables false
set_option maxHeartbeats 40000000
attribute [local irreducible] zTF Jcf zOp zO zQ1 zQ2 zObj zQ zU zW zCl zRd zLd zPr zIf Jci zC
theorem Joj {gl : List Nat} {c1 c2 : Code} (hc : Tryz.f118.body = some (.seq c1 c2)) (a b : RecM) (s t : RecS) (σ : St) (hw : σ.Wf) (ha : Jbo σ a s) (hb : Jbo σ b t) (fa : a.Fits) (fb : b.Fits)
    (env : Env) (τ : St) (A B : Nat) (v2 : eget env 2 = .pointer (some ⟨A, 0, none⟩)) (v3 : eget env 3 = .pointer (some ⟨B, 0, none⟩)) (v4 : eget env 4 = .bool false) (gA : τ.get A = some (.cells true 0 A (Jah a s))) (gB : τ.get B = some (.cells true 0 B (Jah b t))) (hk : Jad σ τ)
    (h_kind : a.kind = b.kind) (h_id : a.id = b.id) (h_tick : a.tick = b.tick) (h_snd : (a.sl == b.sl && a.sd == b.sd) = true) (h_cont : (a.content.toList == b.content.toList) = true) (h_what : a.what = b.what) (h_next : a.next = b.next) (h_new : a.new = b.new) :
    zC Tryz.prog gl Jda Tryz.f118.ntmps c2 env τ (fun ex env' σ' => zX ex (zRes (Ja2 Tryz.prog env' σ' Tryz.f118.results.toList) (fun l => (fun v σ' => v = .bool (Jcj a b) ∧ Jad σ σ') (packed l) σ') .mk) (fun _ => False) (zRes (Ja2 Tryz.prog env' σ' Tryz.f118.results.toList) (fun l => (fun v σ' => v = .bool (Jcj a b) ∧ Jad σ σ') (packed l) σ') .mk) .mk) .mk := by
  cases hc
  obtain ⟨b0, k0, e0⟩ := ha.to.shape
  obtain ⟨b1, k1, e1⟩ := ha.fin.shape
  obtain ⟨b2, k2, e2⟩ := ha.fail.shape
  obtain ⟨b3, k3, e3⟩ := ha.which.shape
  obtain ⟨b4, k4, e4⟩ := hb.to.shape
  obtain ⟨b5, k5, e5⟩ := hb.fin.shape
  obtain ⟨b6, k6, e6⟩ := hb.fail.shape
  obtain ⟨b7, k7, e7⟩ := hb.which.shape
  obtain ⟨x0, x1, x2, x3, x5, x6, x7, x8, x9, x10, x11, x12, x13⟩ := Jb7 gA
  obtain ⟨y0, y1, y2, y3, y5, y6, y7, y8, y9, y10, y11, y12, y13⟩ := Jb7 gB
  rw [e0] at x5
  rw [e1] at x7
  rw [e2] at x8
  rw [e3] at x9
  rw [e4] at y5
  rw [e5] at y7
  rw [e6] at y8
  rw [e7] at y9
  have p_kind : (((a.kind : Nat) : Int) = ((b.kind : Nat) : Int)) = True := eq_true (by omega)
  have p_id : (((a.id : Nat) : Int) = ((b.id : Nat) : Int)) = True := eq_true (by omega)
  have p_tick : (a.tick = b.tick) = True := eq_true (by exact h_tick)
  have p_what : (((a.what : Nat) : Int) = ((b.what : Nat) : Int)) = True := eq_true (by omega)
  have p_next : (a.next = b.next) = True := eq_true (by exact h_next)
  have p_new : (((a.new : Nat) : Int) = ((b.new : Nat) : Int)) = True := eq_true (by omega)
  simp (maxSteps := 1000000) (disch := first | omega | decide +kernel | (simp only [symN] <;> omega) | assumption) only [Jaa, Jac, reduceIte, Nat.reduceEqDiff, Nat.reduceAdd, Nat.reduceMul, Jam, v2, v3, v4, x0, x1, x2, x3, x5, x6, x7, x8, x9, x10, x11, x12, y0, y1, y2, y3, y5, y6, y7, y8, y9, y10, y11, y12]
  simp (maxSteps := 1000000) (disch := first | omega | decide +kernel | (simp only [symN] <;> omega) | assumption) only [Jaa, Jac, reduceIte, Nat.reduceEqDiff, Nat.reduceAdd, Nat.reduceMul, Jam, v2, v3, v4, x0, x1, x2, x3, x5, x6, x7, x8, x9, x10, x11, x12, y0, y1, y2, y3, y5, y6, y7, y8, y9, y10, y11, y12, p_kind]
  simp (maxSteps := 1000000) (disch := first | omega | decide +kernel | (simp only [symN] <;> omega) | assumption) only [Jaa, Jac, reduceIte, Nat.reduceEqDiff, Nat.reduceAdd, Nat.reduceMul, Jam, v2, v3, v4, x0, x1, x2, x3, x5, x6, x7, x8, x9, x10, x11, x12, y0, y1, y2, y3, y5, y6, y7, y8, y9, y10, y11, y12, p_id]
  simp (maxSteps := 1000000) (disch := first | omega | decide +kernel | (simp only [symN] <;> omega) | assumption) only [Jaa, Jac, reduceIte, Nat.reduceEqDiff, Nat.reduceAdd, Nat.reduceMul, Jam, v2, v3, v4, x0, x1, x2, x3, x5, x6, x7, x8, x9, x10, x11, x12, y0, y1, y2, y3, y5, y6, y7, y8, y9, y10, y11, y12, p_tick]
  simp (maxSteps := 1000000) (disch := first | omega | decide +kernel | (simp only [symN] <;> omega) | assumption) only [Jaa, Jac, reduceIte, Nat.reduceEqDiff, Nat.reduceAdd, Nat.reduceMul, Jam, v2, v3, v4, x0, x1, x2, x3, x5, x6, x7, x8, x9, x10, x11, x12, y0, y1, y2, y3, y5, y6, y7, y8, y9, y10, y11, y12, h_snd]
  simp (maxSteps := 1000000) (disch := first | omega | decide +kernel | (simp only [symN] <;> omega) | assumption) only [Jaa, Jac, reduceIte, Nat.reduceEqDiff, Nat.reduceAdd, Nat.reduceMul, Jam, v2, v3, v4, x0, x1, x2, x3, x5, x6, x7, x8, x9, x10, x11, x12, y0, y1, y2, y3, y5, y6, y7, y8, y9, y10, y11, y12, h_cont]
  simp (maxSteps := 1000000) (disch := first | omega | decide +kernel | (simp only [symN] <;> omega) | assumption) only [Jaa, Jac, reduceIte, Nat.reduceEqDiff, Nat.reduceAdd, Nat.reduceMul, Jam, v2, v3, v4, x0, x1, x2, x3, x5, x6, x7, x8, x9, x10, x11, x12, y0, y1, y2, y3, y5, y6, y7, y8, y9, y10, y11, y12, p_what]
  simp (maxSteps := 1000000) (disch := first | omega | decide +kernel | (simp only [symN] <;> omega) | assumption) only [Jaa, Jac, reduceIte, Nat.reduceEqDiff, Nat.reduceAdd, Nat.reduceMul, Jam, v2, v3, v4, x0, x1, x2, x3, x5, x6, x7, x8, x9, x10, x11, x12, y0, y1, y2, y3, y5, y6, y7, y8, y9, y10, y11, y12, p_next]
  simp (maxSteps := 1000000) (disch := first | omega | decide +kernel | (simp only [symN] <;> omega) | assumption) only [Jaa, Jac, reduceIte, Nat.reduceEqDiff, Nat.reduceAdd, Nat.reduceMul, Jam, v2, v3, v4, x0, x1, x2, x3, x5, x6, x7, x8, x9, x10, x11, x12, y0, y1, y2, y3, y5, y6, y7, y8, y9, y10, y11, y12, p_new]
  have s1 : ∀ m, SlR (τ.bump m) (.slice b0 (a.to.map Jbz).length k0) 2 (a.to.map Jbz) := fun m => by rw [← e0]; exact (ha.to.keeps hw hk).bump m
  have t1 : ∀ m, SlR (τ.bump m) (.slice b4 (b.to.map Jbz).length k4) 2 (b.to.map Jbz) := fun m => by rw [← e4]; exact (hb.to.keeps hw hk).bump m
  have c1 := fun m => Jm0 (gl := gl) Jbr (a.to.map Jbz) (b.to.map Jbz) _ _ _ (s1 m) (t1 m) (by rw [List.length_map]; have := fa.to; omega) (by rw [List.length_map]; have := fb.to; omega) Kc8
  rw [Jak]
  refine (c1 _).mono ?_
  rintro _ _ ⟨m1, rfl, rfl⟩
  cases q1 : Jbv Jbr (a.to.map Jbz) (b.to.map Jbz) with
  | false =>
    simp (maxSteps := 1000000) (disch := first | omega | decide +kernel | (simp only [symN] <;> omega) | assumption) only [Jaa, Jac, reduceIte, Nat.reduceEqDiff, Nat.reduceAdd, Nat.reduceMul]
    refine ⟨?_, hk.bump'⟩
    simp [Jag, Jab, Jcj, q1]
  | true =>
  simp (maxSteps := 1000000) (disch := first | omega | decide +kernel | (simp only [symN] <;> omega) | assumption) only [Jaa, Jac, reduceIte, Nat.reduceEqDiff, Nat.reduceAdd, Nat.reduceMul, Jam, v2, v3, v4, x0, x1, x2, x3, x5, x6, x7, x8, x9, x10, x11, x12, y0, y1, y2, y3, y5, y6, y7, y8, y9, y10, y11, y12]
  have s2 : ∀ m, SlR (τ.bump m) (.slice b1 (a.fin.map Jan.cells).length k1) 9 (a.fin.map Jan.cells) := fun m => by rw [← e1]; exact (ha.fin.keeps hw hk).bump m
  have t2 : ∀ m, SlR (τ.bump m) (.slice b5 (b.fin.map Jan.cells).length k5) 9 (b.fin.map Jan.cells) := fun m => by rw [← e5]; exact (hb.fin.keeps hw hk).bump m
  have c2 := fun m => Jmz (gl := gl) Jbr (a.fin.map Jan.cells) (b.fin.map Jan.cells) _ _ _ (s2 m) (t2 m) (by rw [List.length_map]; have := fa.fin; omega) (by rw [List.length_map]; have := fb.fin; omega) Jyh
  rw [Jak]
  refine (c2 _).mono ?_
  rintro _ _ ⟨m2, rfl, rfl⟩
  cases q2 : Jbv Jbr (a.fin.map Jan.cells) (b.fin.map Jan.cells) with
  | false =>
    simp (maxSteps := 1000000) (disch := first | omega | decide +kernel | (simp only [symN] <;> omega) | assumption) only [Jaa, Jac, reduceIte, Nat.reduceEqDiff, Nat.reduceAdd, Nat.reduceMul]
    refine ⟨?_, hk.bump'⟩
    simp [Jag, Jab, Jcj, q2]
  | true =>
  simp (maxSteps := 1000000) (disch := first | omega | decide +kernel | (simp only [symN] <;> omega) | assumption) only [Jaa, Jac, reduceIte, Nat.reduceEqDiff, Nat.reduceAdd, Nat.reduceMul, Jam, v2, v3, v4, x0, x1, x2, x3, x5, x6, x7, x8, x9, x10, x11, x12, y0, y1, y2, y3, y5, y6, y7, y8, y9, y10, y11, y12]
  have s3 : ∀ m, SlR (τ.bump m) (.slice b2 (a.fail.map Jaw.cells).length k2) 4 (a.fail.map Jaw.cells) := fun m => by rw [← e2]; exact (ha.fail.keeps hw hk).bump m
  have t3 : ∀ m, SlR (τ.bump m) (.slice b6 (b.fail.map Jaw.cells).length k6) 4 (b.fail.map Jaw.cells) := fun m => by rw [← e6]; exact (hb.fail.keeps hw hk).bump m
  have c3 := fun m => Jmy (gl := gl) Jbr (a.fail.map Jaw.cells) (b.fail.map Jaw.cells) _ _ _ (s3 m) (t3 m) (by rw [List.length_map]; have := fa.fail; omega) (by rw [List.length_map]; have := fb.fail; omega) Ju4
  rw [Jak]
  refine (c3 _).mono ?_
  rintro _ _ ⟨m3, rfl, rfl⟩
  cases q3 : Jbv Jbr (a.fail.map Jaw.cells) (b.fail.map Jaw.cells) with
  | false =>
    simp (maxSteps := 1000000) (disch := first | omega | decide +kernel | (simp only [symN] <;> omega) | assumption) only [Jaa, Jac, reduceIte, Nat.reduceEqDiff, Nat.reduceAdd, Nat.reduceMul]
    refine ⟨?_, hk.bump'⟩
    simp [Jag, Jab, Jcj, q3]
  | true =>
  simp (maxSteps := 1000000) (disch := first | omega | decide +kernel | (simp only [symN] <;> omega) | assumption) only [Jaa, Jac, reduceIte, Nat.reduceEqDiff, Nat.reduceAdd, Nat.reduceMul, Jam, v2, v3, v4, x0, x1, x2, x3, x5, x6, x7, x8, x9, x10, x11, x12, y0, y1, y2, y3, y5, y6, y7, y8, y9, y10, y11, y12]
  have s4 : ∀ m, SlR (τ.bump m) (.slice b3 (a.which.map Ja8).length k3) 1 (a.which.map Ja8) := fun m => by rw [← e3]; exact (ha.which.keeps hw hk).bump m
  have t4 : ∀ m, SlR (τ.bump m) (.slice b7 (b.which.map Ja8).length k7) 1 (b.which.map Ja8) := fun m => by rw [← e7]; exact (hb.which.keeps hw hk).bump m
  have c4 := fun m => Jm1 (gl := gl) a.which b.which _ _ _ (s4 m) (t4 m) (by have := fa.which; omega) (by have := fb.which; omega)
  rw [Jak]
  refine (c4 _).mono ?_
  rintro _ _ ⟨m4, rfl, rfl⟩
  simp (maxSteps := 1000000) (disch := first | omega | decide +kernel | (simp only [symN] <;> omega) | assumption) only [Jaa, Jac, reduceIte, Nat.reduceEqDiff, Nat.reduceAdd, Nat.reduceMul]
  refine ⟨?_, hk.bump'⟩
  simp [Jag, Jab, Jcj, q1, q2, q3, h_kind, h_id, h_tick, h_snd, h_cont, h_what, h_next, h_new]
end Go.Proofs
