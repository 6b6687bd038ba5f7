/-
  The reference's May of records, of one kind. No condition.
-/
import Derived.Test.YtedojhheppepdaaGreatDoorKRe6TRb1
namespace Go.Proofs
open Go Go.Ev
set_option maxRecDepth 100000
set_option linter.unusedSimpArgs false
set_option linter.unusedVariables false
set_option linter.defProp false
set_option maxHeartbeats 40000000
attribute [local irreducible] zTF Jcf zOp zO zQ1 zQ2 zObj zQ zU zW zCl zRd zLd zPr zIf Jci zC
theorem Ju9 {c1 c2 : Code} (hc : Tryz.f17.body = some (.seq c1 c2)) (may : ByteArray → ByteArray → Bool) (fin : Jan → Bool) (fail : Jaw → Bool) (r : RecM) (s : RecS) (σ : St) (hw : σ.Wf) (ha : Jbo σ r s) (hf : r.Fits) (hm : Jd8 may fin fail r)
    (hid : ¬ r.id = 0) (ht : Jc4 r.tick = true) (hcs : r.content.size ≤ 8192) (hkind : r.kind = 3)
    (env : Env) (τ : St) (A : Nat) (v1 : eget env 1 = .pointer (some ⟨A, 0, none⟩)) (v2 : eget env 2 = .bool false) (gA : τ.get A = some (.cells true 0 A (Jaj r s))) (hk : Jad σ τ) :
    zC Tryz.prog [] Jda Tryz.f17.ntmps c2 env τ (fun ex env' σ' => zX ex (zRes (Ja2 Tryz.prog env' σ' Tryz.f17.results.toList) (fun l => (fun v σ' => v = .bool (refB may fin fail r) ∧ Jad σ σ') (packed l) σ') .mk) (fun _ => False) (zRes (Ja2 Tryz.prog env' σ' Tryz.f17.results.toList) (fun l => (fun v σ' => v = .bool (refB may fin fail r) ∧ Jad σ σ') (packed l) σ') .mk) .mk) .mk := by
  cases hc
  obtain ⟨b0, k0, e0⟩ := ha.to.shape
  obtain ⟨b1, k1, e1⟩ := ha.fin.shape
  obtain ⟨b2, k2, e2⟩ := ha.fail.shape
  obtain ⟨b3, k3, e3⟩ := ha.which.shape
  rw [List.length_map] at e0 e1 e2 e3
  have haτ : ∀ m, Jbo (τ.bump m) r s := fun m => ha.keeps hw (hk.trans .bump)
  obtain ⟨x0, x1, x2, x3, x5, x6, x7, x8, x9, x10, x11, x12, x13⟩ := Jlb gA
  rw [e0] at x5
  rw [e1] at x7
  rw [e2] at x8
  rw [e3] at x9
  simp only [Jc4, Bool.and_eq_true, decide_eq_true_eq] at ht
  have a1 : (((r.id : Nat) : Int) = 0) = False := eq_false (by omega)
  have a2 : (r.tick < 0) = False := eq_false (by omega)
  have a3 : ((1099511627776 : Int) < r.tick) = False := eq_false (by omega)
  have a4 : ((8192 : Int) < (r.content.size : Int)) = False := eq_false (by omega)
  have ht2 : Jc4 r.tick = true := by simp [Jc4]; omega
  have c1 : (((r.kind : Nat) : Int) = 1) = False := eq_false (by omega)
  have c2 : (((r.kind : Nat) : Int) = 2) = False := eq_false (by omega)
  have c3 : (((r.kind : Nat) : Int) = 3) = True := eq_true (by omega)
  have c4 : (((r.kind : Nat) : Int) = 4) = False := eq_false (by omega)
  have c5 : (((r.kind : Nat) : Int) = 5) = False := eq_false (by omega)
  have l3 : (((r.kind : Nat) : Int) < 3) = False := eq_false (by omega)
  have l3r : 3 ≤ r.kind := by omega
  simp (maxSteps := 1000000) (disch := first | omega | decide +kernel | (simp only [symN] <;> omega) | assumption) only [Tryz.f17, Jaa, Jac, reduceIte, Nat.reduceEqDiff, Nat.reduceAdd, Nat.reduceMul, v1, v2, x0, x1, x2, x3, x5, x6, x7, x8, x9, x10, x11, x12, a1, a2, a3, a4, c1, c2, c3, c4, c5, l3]
  by_cases h_to : r.to.length = 0
  case neg =>
    have q_to : ((0 : Int) < (r.to.length : Int)) = True := eq_true (by omega)
    have n_to : ¬ r.to = [] := fun e => h_to (by rw [e]; rfl)
    simp (maxSteps := 1000000) (disch := first | omega | decide +kernel | (simp only [symN] <;> omega) | assumption) only [Jaa, Jac, reduceIte, Nat.reduceEqDiff, Nat.reduceAdd, Nat.reduceMul, v1, v2, x0, x1, x2, x3, x5, x6, x7, x8, x9, x10, x11, x12, a1, a2, a3, a4, c1, c2, c3, c4, c5, l3, q_to]
    refine ⟨?_, hk.bump'⟩
    have hb : refB may fin fail r = false := by unfold refB Jbk; simp [hkind, h_to, n_to]
    simp [Jag, Jab, hb]
  have q_to : ((0 : Int) < (r.to.length : Int)) = False := eq_false (by omega)
  simp (maxSteps := 1000000) (disch := first | omega | decide +kernel | (simp only [symN] <;> omega) | assumption) only [Jaa, Jac, reduceIte, Nat.reduceEqDiff, Nat.reduceAdd, Nat.reduceMul, v1, v2, x0, x1, x2, x3, x5, x6, x7, x8, x9, x10, x11, x12, a1, a2, a3, a4, c1, c2, c3, c4, c5, l3, q_to]
  by_cases h_content : isE r.content = true
  case neg =>
    have q_content : (r.content.toList == ({ data := #[] } : ByteArray).toList) = false := by simpa [isE] using h_content
    have h_content : isE r.content = false := by simpa using h_content
    simp (maxSteps := 1000000) (disch := first | omega | decide +kernel | (simp only [symN] <;> omega) | assumption) only [Jaa, Jac, reduceIte, Nat.reduceEqDiff, Nat.reduceAdd, Nat.reduceMul, v1, v2, x0, x1, x2, x3, x5, x6, x7, x8, x9, x10, x11, x12, a1, a2, a3, a4, c1, c2, c3, c4, c5, l3, q_content]
    refine ⟨?_, hk.bump'⟩
    have hb : refB may fin fail r = false := by unfold refB Jbk; simp [hkind, h_content]
    simp [Jag, Jab, hb]
  have q_content : (r.content.toList == ({ data := #[] } : ByteArray).toList) = true := h_content
  simp (maxSteps := 1000000) (disch := first | omega | decide +kernel | (simp only [symN] <;> omega) | assumption) only [Jaa, Jac, reduceIte, Nat.reduceEqDiff, Nat.reduceAdd, Nat.reduceMul, v1, v2, x0, x1, x2, x3, x5, x6, x7, x8, x9, x10, x11, x12, a1, a2, a3, a4, c1, c2, c3, c4, c5, l3, q_content]
  refine Ja3 (Jch r.sl r.sd _) ?_
  by_cases h_none : Jet r.sl r.sd = true
  case neg =>
    have h_none : Jet r.sl r.sd = false := by simpa using h_none
    simp (maxSteps := 1000000) (disch := first | omega | decide +kernel | (simp only [symN] <;> omega) | assumption) only [Jaa, Jac, reduceIte, Nat.reduceEqDiff, Nat.reduceAdd, Nat.reduceMul, v1, v2, x0, x1, x2, x3, x5, x6, x7, x8, x9, x10, x11, x12, a1, a2, a3, a4, c1, c2, c3, c4, c5, l3, h_none]
    refine ⟨?_, hk.bump'⟩
    have hb : refB may fin fail r = false := by unfold refB Jbk; simp [hkind, h_none]
    simp [Jag, Jab, hb]
  simp (maxSteps := 1000000) (disch := first | omega | decide +kernel | (simp only [symN] <;> omega) | assumption) only [Jaa, Jac, reduceIte, Nat.reduceEqDiff, Nat.reduceAdd, Nat.reduceMul, v1, v2, x0, x1, x2, x3, x5, x6, x7, x8, x9, x10, x11, x12, a1, a2, a3, a4, c1, c2, c3, c4, c5, l3, h_none]
  by_cases h_fin : r.fin.length = 0
  case neg =>
    have q_fin : ((0 : Int) < (r.fin.length : Int)) = True := eq_true (by omega)
    simp (maxSteps := 1000000) (disch := first | omega | decide +kernel | (simp only [symN] <;> omega) | assumption) only [Jaa, Jac, reduceIte, Nat.reduceEqDiff, Nat.reduceAdd, Nat.reduceMul, v1, v2, x0, x1, x2, x3, x5, x6, x7, x8, x9, x10, x11, x12, a1, a2, a3, a4, c1, c2, c3, c4, c5, l3, q_fin]
    refine ⟨?_, hk.bump'⟩
    have hb : refB may fin fail r = false := by unfold refB Jbk; simp [hkind, h_fin]
    simp [Jag, Jab, hb]
  have q_fin : ((0 : Int) < (r.fin.length : Int)) = False := eq_false (by omega)
  simp (maxSteps := 1000000) (disch := first | omega | decide +kernel | (simp only [symN] <;> omega) | assumption) only [Jaa, Jac, reduceIte, Nat.reduceEqDiff, Nat.reduceAdd, Nat.reduceMul, v1, v2, x0, x1, x2, x3, x5, x6, x7, x8, x9, x10, x11, x12, a1, a2, a3, a4, c1, c2, c3, c4, c5, l3, q_fin]
  by_cases h_fail : r.fail.length = 0
  case neg =>
    have q_fail : ((0 : Int) < (r.fail.length : Int)) = True := eq_true (by omega)
    simp (maxSteps := 1000000) (disch := first | omega | decide +kernel | (simp only [symN] <;> omega) | assumption) only [Jaa, Jac, reduceIte, Nat.reduceEqDiff, Nat.reduceAdd, Nat.reduceMul, v1, v2, x0, x1, x2, x3, x5, x6, x7, x8, x9, x10, x11, x12, a1, a2, a3, a4, c1, c2, c3, c4, c5, l3, q_fail]
    refine ⟨?_, hk.bump'⟩
    have hb : refB may fin fail r = false := by unfold refB Jbk; simp [hkind, h_fail]
    simp [Jag, Jab, hb]
  have q_fail : ((0 : Int) < (r.fail.length : Int)) = False := eq_false (by omega)
  simp (maxSteps := 1000000) (disch := first | omega | decide +kernel | (simp only [symN] <;> omega) | assumption) only [Jaa, Jac, reduceIte, Nat.reduceEqDiff, Nat.reduceAdd, Nat.reduceMul, v1, v2, x0, x1, x2, x3, x5, x6, x7, x8, x9, x10, x11, x12, a1, a2, a3, a4, c1, c2, c3, c4, c5, l3, q_fail]
  by_cases h_what : r.what = 0
  case neg =>
    have q_what : (((r.what : Nat) : Int) = 0) = False := eq_false (by omega)
    simp (maxSteps := 1000000) (disch := first | omega | decide +kernel | (simp only [symN] <;> omega) | assumption) only [Jaa, Jac, reduceIte, Nat.reduceEqDiff, Nat.reduceAdd, Nat.reduceMul, v1, v2, x0, x1, x2, x3, x5, x6, x7, x8, x9, x10, x11, x12, a1, a2, a3, a4, c1, c2, c3, c4, c5, l3, q_what]
    refine ⟨?_, hk.bump'⟩
    have hb : refB may fin fail r = false := by unfold refB Jbk; simp [hkind, h_what]
    simp [Jag, Jab, hb]
  have q_what : (((r.what : Nat) : Int) = 0) = True := eq_true (by omega)
  simp (maxSteps := 1000000) (disch := first | omega | decide +kernel | (simp only [symN] <;> omega) | assumption) only [Jaa, Jac, reduceIte, Nat.reduceEqDiff, Nat.reduceAdd, Nat.reduceMul, v1, v2, x0, x1, x2, x3, x5, x6, x7, x8, x9, x10, x11, x12, a1, a2, a3, a4, c1, c2, c3, c4, c5, l3, q_what]
  by_cases h_new : r.new = 0
  case neg =>
    have q_new : (((r.new : Nat) : Int) = 0) = False := eq_false (by omega)
    simp (maxSteps := 1000000) (disch := first | omega | decide +kernel | (simp only [symN] <;> omega) | assumption) only [Jaa, Jac, reduceIte, Nat.reduceEqDiff, Nat.reduceAdd, Nat.reduceMul, v1, v2, x0, x1, x2, x3, x5, x6, x7, x8, x9, x10, x11, x12, a1, a2, a3, a4, c1, c2, c3, c4, c5, l3, q_new]
    refine ⟨?_, hk.bump'⟩
    have hb : refB may fin fail r = false := by unfold refB Jbk; simp [hkind, h_new]
    simp [Jag, Jab, hb]
  have q_new : (((r.new : Nat) : Int) = 0) = True := eq_true (by omega)
  simp (maxSteps := 1000000) (disch := first | omega | decide +kernel | (simp only [symN] <;> omega) | assumption) only [Jaa, Jac, reduceIte, Nat.reduceEqDiff, Nat.reduceAdd, Nat.reduceMul, v1, v2, x0, x1, x2, x3, x5, x6, x7, x8, x9, x10, x11, x12, a1, a2, a3, a4, c1, c2, c3, c4, c5, l3, q_new]
  have sA := fun m => Jbu may r.to s.to (τ.bump m) (haτ m).to hf.to hm.okTo
  rw [e0] at sA
  refine Ja3 (sA _) ?_
  by_cases h_all : (r.to.all fun p => may p.1 p.2) = true
  case neg =>
    have h_all : (r.to.all fun p => may p.1 p.2) = false := by simpa using h_all
    simp (maxSteps := 1000000) (disch := first | omega | decide +kernel | (simp only [symN] <;> omega) | assumption) only [Jaa, Jac, reduceIte, Nat.reduceEqDiff, Nat.reduceAdd, Nat.reduceMul, v1, v2, x0, x1, x2, x3, x5, x6, x7, x8, x9, x10, x11, x12, a1, a2, a3, a4, c1, c2, c3, c4, c5, l3, h_all]
    refine ⟨?_, hk.bump'⟩
    have hb : refB may fin fail r = false := by unfold refB; rw [h_all]; simp
    simp [Jag, Jab, hb]
  simp (maxSteps := 1000000) (disch := first | omega | decide +kernel | (simp only [symN] <;> omega) | assumption) only [Jaa, Jac, reduceIte, Nat.reduceEqDiff, Nat.reduceAdd, Nat.reduceMul, v1, v2, x0, x1, x2, x3, x5, x6, x7, x8, x9, x10, x11, x12, a1, a2, a3, a4, c1, c2, c3, c4, c5, l3, h_all]
  have sR := fun m => Jca r.which s.which (τ.bump m) (haτ m).which hf.which
  rw [e3] at sR
  refine Ja3 (sR _) ?_
  by_cases h_ris : Jbl none r.which = true
  case neg =>
    have h_ris : Jbl none r.which = false := by simpa using h_ris
    simp (maxSteps := 1000000) (disch := first | omega | decide +kernel | (simp only [symN] <;> omega) | assumption) only [Jaa, Jac, reduceIte, Nat.reduceEqDiff, Nat.reduceAdd, Nat.reduceMul, v1, v2, x0, x1, x2, x3, x5, x6, x7, x8, x9, x10, x11, x12, a1, a2, a3, a4, c1, c2, c3, c4, c5, l3, h_ris]
    refine ⟨?_, hk.bump'⟩
    have hb : refB may fin fail r = false := by unfold refB; rw [h_ris]; simp
    simp [Jag, Jab, hb]
  have hon : Jbk r = true := by
    have z_to : r.to = [] := List.eq_nil_of_length_eq_zero h_to
    unfold Jbk
    simp [hkind, h_content, h_fin, h_fail, h_what, h_new, z_to, h_none, l3r]
  have hR : refB may fin fail r = Jcl may fin fail r := by unfold refB; rw [hon, h_all, h_ris, ht2, decide_eq_false hid, decide_eq_true hcs]; simp
  simp (maxSteps := 1000000) (disch := first | omega | decide +kernel | (simp only [symN] <;> omega) | assumption) only [Jaa, Jac, reduceIte, Nat.reduceEqDiff, Nat.reduceAdd, Nat.reduceMul, v1, v2, x0, x1, x2, x3, x5, x6, x7, x8, x9, x10, x11, x12, a1, a2, a3, a4, c1, c2, c3, c4, c5, l3, h_ris]
  by_cases h_w1 : r.which.length = 1
  case neg =>
    have q_w1 : ((r.which.length : Int) = 1) = False := eq_false (by omega)
    simp (maxSteps := 1000000) (disch := first | omega | decide +kernel | (simp only [symN] <;> omega) | assumption) only [Jaa, Jac, reduceIte, Nat.reduceEqDiff, Nat.reduceAdd, Nat.reduceMul, v1, v2, x0, x1, x2, x3, x5, x6, x7, x8, x9, x10, x11, x12, a1, a2, a3, a4, c1, c2, c3, c4, c5, l3, q_w1]
    refine ⟨?_, hk.bump'⟩
    simp [Jag, Jab, hR, Jcl, hkind, h_w1]
  have q_w1 : ((r.which.length : Int) = 1) = True := eq_true (by omega)
  simp (maxSteps := 1000000) (disch := first | omega | decide +kernel | (simp only [symN] <;> omega) | assumption) only [Jaa, Jac, reduceIte, Nat.reduceEqDiff, Nat.reduceAdd, Nat.reduceMul, v1, v2, x0, x1, x2, x3, x5, x6, x7, x8, x9, x10, x11, x12, a1, a2, a3, a4, c1, c2, c3, c4, c5, l3, q_w1]
  by_cases h_n1 : 0 ≤ r.next
  case neg =>
    have q_n1 : ((0 : Int) ≤ r.next) = False := eq_false (by omega)
    simp (maxSteps := 1000000) (disch := first | omega | decide +kernel | (simp only [symN] <;> omega) | assumption) only [Jaa, Jac, reduceIte, Nat.reduceEqDiff, Nat.reduceAdd, Nat.reduceMul, v1, v2, x0, x1, x2, x3, x5, x6, x7, x8, x9, x10, x11, x12, a1, a2, a3, a4, c1, c2, c3, c4, c5, l3, q_n1]
    refine ⟨?_, hk.bump'⟩
    simp [Jag, Jab, hR, Jcl, hkind, h_w1, h_n1]
  have q_n1 : ((0 : Int) ≤ r.next) = True := eq_true (by omega)
  simp (maxSteps := 1000000) (disch := first | omega | decide +kernel | (simp only [symN] <;> omega) | assumption) only [Jaa, Jac, reduceIte, Nat.reduceEqDiff, Nat.reduceAdd, Nat.reduceMul, v1, v2, x0, x1, x2, x3, x5, x6, x7, x8, x9, x10, x11, x12, a1, a2, a3, a4, c1, c2, c3, c4, c5, l3, q_n1]
  by_cases h_n2 : r.next ≤ 1099511627776
  case neg =>
    have q_n2 : (r.next ≤ (1099511627776 : Int)) = False := eq_false (by omega)
    simp (maxSteps := 1000000) (disch := first | omega | decide +kernel | (simp only [symN] <;> omega) | assumption) only [Jaa, Jac, reduceIte, Nat.reduceEqDiff, Nat.reduceAdd, Nat.reduceMul, v1, v2, x0, x1, x2, x3, x5, x6, x7, x8, x9, x10, x11, x12, a1, a2, a3, a4, c1, c2, c3, c4, c5, l3, q_n2]
    refine ⟨?_, hk.bump'⟩
    simp [Jag, Jab, hR, Jcl, hkind, h_w1, h_n1, h_n2]
  have q_n2 : (r.next ≤ (1099511627776 : Int)) = True := eq_true (by omega)
  simp (maxSteps := 1000000) (disch := first | omega | decide +kernel | (simp only [symN] <;> omega) | assumption) only [Jaa, Jac, reduceIte, Nat.reduceEqDiff, Nat.reduceAdd, Nat.reduceMul, v1, v2, x0, x1, x2, x3, x5, x6, x7, x8, x9, x10, x11, x12, a1, a2, a3, a4, c1, c2, c3, c4, c5, l3, q_n2]
  refine ⟨?_, hk.bump'⟩
  simp [Jag, Jab, hR, Jcl, hkind, h_w1, h_n1, h_n2]
end Go.Proofs
