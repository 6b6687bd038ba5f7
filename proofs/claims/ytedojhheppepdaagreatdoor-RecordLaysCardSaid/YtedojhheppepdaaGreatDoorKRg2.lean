/-
  The reference's May of records, of one kind. No condition.
-/
import Derived.Test.YtedojhheppepdaaGreatDoorKRe6TRb1
namespace Go.Proofs
open Go Go.Ev
set_option maxRecDepth 100000
set_option linter.unusedSimpArgs false
set_option linter.unusedVariables false
set_option linter.defProp false
set_option maxHeartbeats 40000000
attribute [local irreducible] zTF Jcf zOp zO zQ1 zQ2 zObj zQ zU zW zCl zRd zLd zPr zIf Jci zC
theorem Jva {c1 c2 : Code} (hc : Tryz.f17.body = some (.seq c1 c2)) (may : ByteArray → ByteArray → Bool) (fin : Jan → Bool) (fail : Jaw → Bool) (r : RecM) (s : RecS) (σ : St) (hw : σ.Wf) (ha : Jbo σ r s) (hf : r.Fits) (hm : Jd8 may fin fail r)
    (hid : ¬ r.id = 0) (ht : Jc4 r.tick = true) (hcs : r.content.size ≤ 8192) (hkind : r.kind = 2)
    (env : Env) (τ : St) (A : Nat) (v1 : eget env 1 = .pointer (some ⟨A, 0, none⟩)) (v2 : eget env 2 = .bool false) (gA : τ.get A = some (.cells true 0 A (Jaj r s))) (hk : Jad σ τ) :
    zC Tryz.prog [] Jda Tryz.f17.ntmps c2 env τ (fun ex env' σ' => zX ex (zRes (Ja2 Tryz.prog env' σ' Tryz.f17.results.toList) (fun l => (fun v σ' => v = .bool (refB may fin fail r) ∧ Jad σ σ') (packed l) σ') .mk) (fun _ => False) (zRes (Ja2 Tryz.prog env' σ' Tryz.f17.results.toList) (fun l => (fun v σ' => v = .bool (refB may fin fail r) ∧ Jad σ σ') (packed l) σ') .mk) .mk) .mk := by
  cases hc
  obtain ⟨b0, k0, e0⟩ := ha.to.shape
  obtain ⟨b1, k1, e1⟩ := ha.fin.shape
  obtain ⟨b2, k2, e2⟩ := ha.fail.shape
  obtain ⟨b3, k3, e3⟩ := ha.which.shape
  rw [List.length_map] at e0 e1 e2 e3
  have haτ : ∀ m, Jbo (τ.bump m) r s := fun m => ha.keeps hw (hk.trans .bump)
  obtain ⟨x0, x1, x2, x3, x5, x6, x7, x8, x9, x10, x11, x12, x13⟩ := Jlb gA
  rw [e0] at x5
  rw [e1] at x7
  rw [e2] at x8
  rw [e3] at x9
  simp only [Jc4, Bool.and_eq_true, decide_eq_true_eq] at ht
  have a1 : (((r.id : Nat) : Int) = 0) = False := eq_false (by omega)
  have a2 : (r.tick < 0) = False := eq_false (by omega)
  have a3 : ((1099511627776 : Int) < r.tick) = False := eq_false (by omega)
  have a4 : ((8192 : Int) < (r.content.size : Int)) = False := eq_false (by omega)
  have ht2 : Jc4 r.tick = true := by simp [Jc4]; omega
  have c1 : (((r.kind : Nat) : Int) = 1) = False := eq_false (by omega)
  have c2 : (((r.kind : Nat) : Int) = 2) = True := eq_true (by omega)
  have c3 : (((r.kind : Nat) : Int) = 3) = False := eq_false (by omega)
  have c4 : (((r.kind : Nat) : Int) = 4) = False := eq_false (by omega)
  have c5 : (((r.kind : Nat) : Int) = 5) = False := eq_false (by omega)
  have l3 : (((r.kind : Nat) : Int) < 3) = True := eq_true (by omega)
  have l3r : ¬ 3 ≤ r.kind := by omega
  simp (maxSteps := 1000000) (disch := first | omega | decide +kernel | (simp only [symN] <;> omega) | assumption) only [Tryz.f17, Jaa, Jac, reduceIte, Nat.reduceEqDiff, Nat.reduceAdd, Nat.reduceMul, v1, v2, x0, x1, x2, x3, x5, x6, x7, x8, x9, x10, x11, x12, a1, a2, a3, a4, c1, c2, c3, c4, c5, l3]
  by_cases h_to : r.to.length = 0
  case neg =>
    have q_to : ((0 : Int) < (r.to.length : Int)) = True := eq_true (by omega)
    have n_to : ¬ r.to = [] := fun e => h_to (by rw [e]; rfl)
    simp (maxSteps := 1000000) (disch := first | omega | decide +kernel | (simp only [symN] <;> omega) | assumption) only [Jaa, Jac, reduceIte, Nat.reduceEqDiff, Nat.reduceAdd, Nat.reduceMul, v1, v2, x0, x1, x2, x3, x5, x6, x7, x8, x9, x10, x11, x12, a1, a2, a3, a4, c1, c2, c3, c4, c5, l3, q_to]
    refine ⟨?_, hk.bump'⟩
    have hb : refB may fin fail r = false := by unfold refB Jbk; simp [hkind, h_to, n_to]
    simp [Jag, Jab, hb]
  have q_to : ((0 : Int) < (r.to.length : Int)) = False := eq_false (by omega)
  simp (maxSteps := 1000000) (disch := first | omega | decide +kernel | (simp only [symN] <;> omega) | assumption) only [Jaa, Jac, reduceIte, Nat.reduceEqDiff, Nat.reduceAdd, Nat.reduceMul, v1, v2, x0, x1, x2, x3, x5, x6, x7, x8, x9, x10, x11, x12, a1, a2, a3, a4, c1, c2, c3, c4, c5, l3, q_to]
  by_cases h_content : isE r.content = true
  case neg =>
    have q_content : (r.content.toList == ({ data := #[] } : ByteArray).toList) = false := by simpa [isE] using h_content
    have h_content : isE r.content = false := by simpa using h_content
    simp (maxSteps := 1000000) (disch := first | omega | decide +kernel | (simp only [symN] <;> omega) | assumption) only [Jaa, Jac, reduceIte, Nat.reduceEqDiff, Nat.reduceAdd, Nat.reduceMul, v1, v2, x0, x1, x2, x3, x5, x6, x7, x8, x9, x10, x11, x12, a1, a2, a3, a4, c1, c2, c3, c4, c5, l3, q_content]
    refine ⟨?_, hk.bump'⟩
    have hb : refB may fin fail r = false := by unfold refB Jbk; simp [hkind, h_content]
    simp [Jag, Jab, hb]
  have q_content : (r.content.toList == ({ data := #[] } : ByteArray).toList) = true := h_content
  simp (maxSteps := 1000000) (disch := first | omega | decide +kernel | (simp only [symN] <;> omega) | assumption) only [Jaa, Jac, reduceIte, Nat.reduceEqDiff, Nat.reduceAdd, Nat.reduceMul, v1, v2, x0, x1, x2, x3, x5, x6, x7, x8, x9, x10, x11, x12, a1, a2, a3, a4, c1, c2, c3, c4, c5, l3, q_content]
  refine Ja3 (Jch r.sl r.sd _) ?_
  by_cases h_none : Jet r.sl r.sd = true
  case neg =>
    have h_none : Jet r.sl r.sd = false := by simpa using h_none
    simp (maxSteps := 1000000) (disch := first | omega | decide +kernel | (simp only [symN] <;> omega) | assumption) only [Jaa, Jac, reduceIte, Nat.reduceEqDiff, Nat.reduceAdd, Nat.reduceMul, v1, v2, x0, x1, x2, x3, x5, x6, x7, x8, x9, x10, x11, x12, a1, a2, a3, a4, c1, c2, c3, c4, c5, l3, h_none]
    refine ⟨?_, hk.bump'⟩
    have hb : refB may fin fail r = false := by unfold refB Jbk; simp [hkind, h_none]
    simp [Jag, Jab, hb]
  simp (maxSteps := 1000000) (disch := first | omega | decide +kernel | (simp only [symN] <;> omega) | assumption) only [Jaa, Jac, reduceIte, Nat.reduceEqDiff, Nat.reduceAdd, Nat.reduceMul, v1, v2, x0, x1, x2, x3, x5, x6, x7, x8, x9, x10, x11, x12, a1, a2, a3, a4, c1, c2, c3, c4, c5, l3, h_none]
  by_cases h_which : r.which.length = 0
  case neg =>
    have q_which : ((0 : Int) < (r.which.length : Int)) = True := eq_true (by omega)
    have n_which : ¬ r.which = [] := fun e => h_which (by rw [e]; rfl)
    simp (maxSteps := 1000000) (disch := first | omega | decide +kernel | (simp only [symN] <;> omega) | assumption) only [Jaa, Jac, reduceIte, Nat.reduceEqDiff, Nat.reduceAdd, Nat.reduceMul, v1, v2, x0, x1, x2, x3, x5, x6, x7, x8, x9, x10, x11, x12, a1, a2, a3, a4, c1, c2, c3, c4, c5, l3, q_which]
    refine ⟨?_, hk.bump'⟩
    have hb : refB may fin fail r = false := by unfold refB Jbk; simp [hkind, h_which, n_which, l3r]
    simp [Jag, Jab, hb]
  have q_which : ((0 : Int) < (r.which.length : Int)) = False := eq_false (by omega)
  simp (maxSteps := 1000000) (disch := first | omega | decide +kernel | (simp only [symN] <;> omega) | assumption) only [Jaa, Jac, reduceIte, Nat.reduceEqDiff, Nat.reduceAdd, Nat.reduceMul, v1, v2, x0, x1, x2, x3, x5, x6, x7, x8, x9, x10, x11, x12, a1, a2, a3, a4, c1, c2, c3, c4, c5, l3, q_which]
  by_cases h_next : r.next = 0
  case neg =>
    have q_next : (r.next = 0) = False := eq_false (by omega)
    simp (maxSteps := 1000000) (disch := first | omega | decide +kernel | (simp only [symN] <;> omega) | assumption) only [Jaa, Jac, reduceIte, Nat.reduceEqDiff, Nat.reduceAdd, Nat.reduceMul, v1, v2, x0, x1, x2, x3, x5, x6, x7, x8, x9, x10, x11, x12, a1, a2, a3, a4, c1, c2, c3, c4, c5, l3, q_next]
    refine ⟨?_, hk.bump'⟩
    have hb : refB may fin fail r = false := by unfold refB Jbk; simp [hkind, h_next]
    simp [Jag, Jab, hb]
  have q_next : (r.next = 0) = True := eq_true (by omega)
  simp (maxSteps := 1000000) (disch := first | omega | decide +kernel | (simp only [symN] <;> omega) | assumption) only [Jaa, Jac, reduceIte, Nat.reduceEqDiff, Nat.reduceAdd, Nat.reduceMul, v1, v2, x0, x1, x2, x3, x5, x6, x7, x8, x9, x10, x11, x12, a1, a2, a3, a4, c1, c2, c3, c4, c5, l3, q_next]
  by_cases h_what : r.what = 0
  case neg =>
    have q_what : (((r.what : Nat) : Int) = 0) = False := eq_false (by omega)
    simp (maxSteps := 1000000) (disch := first | omega | decide +kernel | (simp only [symN] <;> omega) | assumption) only [Jaa, Jac, reduceIte, Nat.reduceEqDiff, Nat.reduceAdd, Nat.reduceMul, v1, v2, x0, x1, x2, x3, x5, x6, x7, x8, x9, x10, x11, x12, a1, a2, a3, a4, c1, c2, c3, c4, c5, l3, q_what]
    refine ⟨?_, hk.bump'⟩
    have hb : refB may fin fail r = false := by unfold refB Jbk; simp [hkind, h_what]
    simp [Jag, Jab, hb]
  have q_what : (((r.what : Nat) : Int) = 0) = True := eq_true (by omega)
  simp (maxSteps := 1000000) (disch := first | omega | decide +kernel | (simp only [symN] <;> omega) | assumption) only [Jaa, Jac, reduceIte, Nat.reduceEqDiff, Nat.reduceAdd, Nat.reduceMul, v1, v2, x0, x1, x2, x3, x5, x6, x7, x8, x9, x10, x11, x12, a1, a2, a3, a4, c1, c2, c3, c4, c5, l3, q_what]
  by_cases h_new : r.new = 0
  case neg =>
    have q_new : (((r.new : Nat) : Int) = 0) = False := eq_false (by omega)
    simp (maxSteps := 1000000) (disch := first | omega | decide +kernel | (simp only [symN] <;> omega) | assumption) only [Jaa, Jac, reduceIte, Nat.reduceEqDiff, Nat.reduceAdd, Nat.reduceMul, v1, v2, x0, x1, x2, x3, x5, x6, x7, x8, x9, x10, x11, x12, a1, a2, a3, a4, c1, c2, c3, c4, c5, l3, q_new]
    refine ⟨?_, hk.bump'⟩
    have hb : refB may fin fail r = false := by unfold refB Jbk; simp [hkind, h_new]
    simp [Jag, Jab, hb]
  have q_new : (((r.new : Nat) : Int) = 0) = True := eq_true (by omega)
  simp (maxSteps := 1000000) (disch := first | omega | decide +kernel | (simp only [symN] <;> omega) | assumption) only [Jaa, Jac, reduceIte, Nat.reduceEqDiff, Nat.reduceAdd, Nat.reduceMul, v1, v2, x0, x1, x2, x3, x5, x6, x7, x8, x9, x10, x11, x12, a1, a2, a3, a4, c1, c2, c3, c4, c5, l3, q_new]
  have sA := fun m => Jbu may r.to s.to (τ.bump m) (haτ m).to hf.to hm.okTo
  rw [e0] at sA
  refine Ja3 (sA _) ?_
  by_cases h_all : (r.to.all fun p => may p.1 p.2) = true
  case neg =>
    have h_all : (r.to.all fun p => may p.1 p.2) = false := by simpa using h_all
    simp (maxSteps := 1000000) (disch := first | omega | decide +kernel | (simp only [symN] <;> omega) | assumption) only [Jaa, Jac, reduceIte, Nat.reduceEqDiff, Nat.reduceAdd, Nat.reduceMul, v1, v2, x0, x1, x2, x3, x5, x6, x7, x8, x9, x10, x11, x12, a1, a2, a3, a4, c1, c2, c3, c4, c5, l3, h_all]
    refine ⟨?_, hk.bump'⟩
    have hb : refB may fin fail r = false := by unfold refB; rw [h_all]; simp
    simp [Jag, Jab, hb]
  simp (maxSteps := 1000000) (disch := first | omega | decide +kernel | (simp only [symN] <;> omega) | assumption) only [Jaa, Jac, reduceIte, Nat.reduceEqDiff, Nat.reduceAdd, Nat.reduceMul, v1, v2, x0, x1, x2, x3, x5, x6, x7, x8, x9, x10, x11, x12, a1, a2, a3, a4, c1, c2, c3, c4, c5, l3, h_all]
  have sR := fun m => Jca r.which s.which (τ.bump m) (haτ m).which hf.which
  rw [e3] at sR
  refine Ja3 (sR _) ?_
  by_cases h_ris : Jbl none r.which = true
  case neg =>
    have h_ris : Jbl none r.which = false := by simpa using h_ris
    simp (maxSteps := 1000000) (disch := first | omega | decide +kernel | (simp only [symN] <;> omega) | assumption) only [Jaa, Jac, reduceIte, Nat.reduceEqDiff, Nat.reduceAdd, Nat.reduceMul, v1, v2, x0, x1, x2, x3, x5, x6, x7, x8, x9, x10, x11, x12, a1, a2, a3, a4, c1, c2, c3, c4, c5, l3, h_ris]
    refine ⟨?_, hk.bump'⟩
    have hb : refB may fin fail r = false := by unfold refB; rw [h_ris]; simp
    simp [Jag, Jab, hb]
  have hon : Jbk r = true := by
    have z_to : r.to = [] := List.eq_nil_of_length_eq_zero h_to
    have z_which : r.which = [] := List.eq_nil_of_length_eq_zero h_which
    unfold Jbk
    simp [hkind, h_content, h_next, h_what, h_new, z_to, z_which, h_none]
  have hR : refB may fin fail r = Jcl may fin fail r := by unfold refB; rw [hon, h_all, h_ris, ht2, decide_eq_false hid, decide_eq_true hcs]; simp
  simp (maxSteps := 1000000) (disch := first | omega | decide +kernel | (simp only [symN] <;> omega) | assumption) only [Jaa, Jac, reduceIte, Nat.reduceEqDiff, Nat.reduceAdd, Nat.reduceMul, v1, v2, x0, x1, x2, x3, x5, x6, x7, x8, x9, x10, x11, x12, a1, a2, a3, a4, c1, c2, c3, c4, c5, l3, h_ris]
  refine Jay (Jaf _) Jae (fun kk env' (τ' : St) => ∃ i m, i + kk = r.fin.length ∧ τ' = τ.bump m ∧ (r.fin.take i).all fin = true ∧ eget env' 1 = .pointer (some ⟨A, 0, none⟩) ∧ eget env' 4 = .int .i64 (i : Nat)) (n := r.fin.length) (by kernel_rfl) ⟨0, _, by omega, rfl, by simp, by simp [Jab, v1], by simp [Jab]⟩ ?_
  intro kk4 env4 τ4 hI4
  obtain ⟨i, m, hi, rfl, hall4, v1, w4⟩ := hI4
  by_cases hk0 : kk4 = 0
  case neg =>
    obtain ⟨kk, rfl⟩ : ∃ kk, kk4 = kk + 1 := ⟨kk4 - 1, by omega⟩
    have hil : i < r.fin.length := by omega
    have hlt : ((i : Int) < (r.fin.length : Int)) = True := eq_true (by omega)
    have hr0 : ∃ A' o k', s.fin = .slice (some ⟨A', o, none⟩) r.fin.length k' ∧ ∀ m, rdG (τ.bump m) (τ.get A') (o + i * 9) 9 = some [.string r.fin[i].l, .string r.fin[i].d, .string r.fin[i].box, .string r.fin[i].host, .string r.fin[i].sl, .string r.fin[i].sd, .string r.fin[i].vl, .string r.fin[i].vd, .bool r.fin[i].owner] := by
      rcases ha.fin.keeps hw hk with ⟨hnil, _⟩ | ⟨A', o, k', cc, h1, hcc, hr⟩
      · have e : r.fin.length = 0 := by simpa using congrArg List.length hnil
        omega
      · refine ⟨A', o, k', by rw [h1, List.length_map], fun m => ?_⟩
        have := SlR.rd (k := 0) hcc hr (i := i) (by simpa using hil) m
        rw [this]; simp [Jan.cells]
    obtain ⟨A', o, k', hsl, hrd⟩ := hr0
    have xx : ∀ m, rdG (τ.bump m) (τ.get A) 7 1 = some [.slice (some ⟨A', o, none⟩) r.fin.length k'] := fun m => by rw [x7, ← e1, hsl]
    have ib : ((i : Nat) : Int) < ((r.fin.length : Nat) : Int) := by omega
    have wi : IntKind.i64.wrap ((i : Int) + 1) = ((i + 1 : Nat) : Int) := Jbt i 1 (by have := hf.fin; omega)
    have hb := hm.okFin r.fin[i] (List.getElem_mem hil)
    unfold Jan.cells at hb
    simp (maxSteps := 1000000) (disch := first | omega | decide +kernel | (simp only [symN] <;> omega) | assumption) only [Jaa, Jac, reduceIte, Nat.reduceEqDiff, Nat.reduceAdd, Nat.reduceMul, v1, w4, xx, hlt, hrd, ib]
    refine Ja3 (hb _) ?_
    by_cases hq : fin r.fin[i] = true
    · simp (maxSteps := 1000000) (disch := first | omega | decide +kernel | (simp only [symN] <;> omega) | assumption) only [Jaa, Jac, reduceIte, Nat.reduceEqDiff, Nat.reduceAdd, Nat.reduceMul, v1, w4, hq, wi]
      refine ⟨kk, by omega, i + 1, _, by omega, rfl, ?_, by first | exact v1 | trivial, by first | rfl | trivial⟩
      rw [List.take_succ_eq_append_getElem hil, List.all_append, hall4, List.all_cons, hq]; rfl
    · have hq : fin r.fin[i] = false := by simpa using hq
      simp (maxSteps := 1000000) (disch := first | omega | decide +kernel | (simp only [symN] <;> omega) | assumption) only [Jaa, Jac, reduceIte, Nat.reduceEqDiff, Nat.reduceAdd, Nat.reduceMul, v1, w4, hq]
      have hfa : r.fin.all fin = false := by rw [List.all_eq_false]; exact ⟨r.fin[i], List.getElem_mem hil, by rw [hq]; simp⟩
      refine ⟨?_, hk.bump'⟩
      have hb0 : refB may fin fail r = false := by rw [hR]; unfold Jcl; simp [hkind, hfa]
      simp [Jag, Jab, hb0]
  have hlt : ((i : Int) < (r.fin.length : Int)) = False := eq_false (by omega)
  rw [List.take_of_length_le (by omega)] at hall4
  simp (maxSteps := 1000000) (disch := first | omega | decide +kernel | (simp only [symN] <;> omega) | assumption) only [Jaa, Jac, reduceIte, Nat.reduceEqDiff, Nat.reduceAdd, Nat.reduceMul, v1, w4, x7, hlt, decide_false]
  refine Jay (Jaf _) Jae (fun kk env' (τ' : St) => ∃ i m, i + kk = r.fail.length ∧ τ' = τ.bump m ∧ (r.fail.take i).all fail = true ∧ eget env' 1 = .pointer (some ⟨A, 0, none⟩) ∧ eget env' 5 = .int .i64 (i : Nat)) (n := r.fail.length) (by kernel_rfl) ⟨0, _, by omega, rfl, by simp, by simp [Jab, v1], by simp [Jab]⟩ ?_
  intro kk5 env5 τ5 hI5
  obtain ⟨i, m, hi, rfl, hall5, v1, w5⟩ := hI5
  by_cases hk0 : kk5 = 0
  case neg =>
    obtain ⟨kk, rfl⟩ : ∃ kk, kk5 = kk + 1 := ⟨kk5 - 1, by omega⟩
    have hil : i < r.fail.length := by omega
    have hlt : ((i : Int) < (r.fail.length : Int)) = True := eq_true (by omega)
    have hr0 : ∃ A' o k', s.fail = .slice (some ⟨A', o, none⟩) r.fail.length k' ∧ ∀ m, rdG (τ.bump m) (τ.get A') (o + i * 4) 4 = some [.string r.fail[i].l, .string r.fail[i].d, .int .i64 r.fail[i].code, .string r.fail[i].text] := by
      rcases ha.fail.keeps hw hk with ⟨hnil, _⟩ | ⟨A', o, k', cc, h1, hcc, hr⟩
      · have e : r.fail.length = 0 := by simpa using congrArg List.length hnil
        omega
      · refine ⟨A', o, k', by rw [h1, List.length_map], fun m => ?_⟩
        have := SlR.rd (k := 0) hcc hr (i := i) (by simpa using hil) m
        rw [this]; simp [Jaw.cells]
    obtain ⟨A', o, k', hsl, hrd⟩ := hr0
    have xx : ∀ m, rdG (τ.bump m) (τ.get A) 8 1 = some [.slice (some ⟨A', o, none⟩) r.fail.length k'] := fun m => by rw [x8, ← e2, hsl]
    have ib : ((i : Nat) : Int) < ((r.fail.length : Nat) : Int) := by omega
    have wi : IntKind.i64.wrap ((i : Int) + 1) = ((i + 1 : Nat) : Int) := Jbt i 1 (by have := hf.fail; omega)
    have hb := hm.okFail r.fail[i] (List.getElem_mem hil)
    unfold Jaw.cells at hb
    simp (maxSteps := 1000000) (disch := first | omega | decide +kernel | (simp only [symN] <;> omega) | assumption) only [Jaa, Jac, reduceIte, Nat.reduceEqDiff, Nat.reduceAdd, Nat.reduceMul, v1, w5, xx, hlt, hrd, ib]
    refine Ja3 (hb _) ?_
    by_cases hq : fail r.fail[i] = true
    · simp (maxSteps := 1000000) (disch := first | omega | decide +kernel | (simp only [symN] <;> omega) | assumption) only [Jaa, Jac, reduceIte, Nat.reduceEqDiff, Nat.reduceAdd, Nat.reduceMul, v1, w5, hq, wi]
      refine ⟨kk, by omega, i + 1, _, by omega, rfl, ?_, by first | exact v1 | trivial, by first | rfl | trivial⟩
      rw [List.take_succ_eq_append_getElem hil, List.all_append, hall5, List.all_cons, hq]; rfl
    · have hq : fail r.fail[i] = false := by simpa using hq
      simp (maxSteps := 1000000) (disch := first | omega | decide +kernel | (simp only [symN] <;> omega) | assumption) only [Jaa, Jac, reduceIte, Nat.reduceEqDiff, Nat.reduceAdd, Nat.reduceMul, v1, w5, hq]
      have hfa : r.fail.all fail = false := by rw [List.all_eq_false]; exact ⟨r.fail[i], List.getElem_mem hil, by rw [hq]; simp⟩
      refine ⟨?_, hk.bump'⟩
      have hb0 : refB may fin fail r = false := by rw [hR]; unfold Jcl; simp [hkind, hfa]
      simp [Jag, Jab, hb0]
  have hlt : ((i : Int) < (r.fail.length : Int)) = False := eq_false (by omega)
  rw [List.take_of_length_le (by omega)] at hall5
  by_cases h_l1 : r.fin.length ≤ 64
  case neg =>
    have q_l1 : ((r.fin.length : Int) ≤ 64) = False := eq_false (by omega)
    simp (maxSteps := 1000000) (disch := first | omega | decide +kernel | (simp only [symN] <;> omega) | assumption) only [Jaa, Jac, reduceIte, Nat.reduceEqDiff, Nat.reduceAdd, Nat.reduceMul, v1, w5, x7, x8, hlt, q_l1]
    refine ⟨?_, hk.bump'⟩
    simp [Jag, Jab, hR, Jcl, hkind, hall4, hall5, h_l1]
  have q_l1 : ((r.fin.length : Int) ≤ 64) = True := eq_true (by omega)
  by_cases h_l2 : r.fail.length ≤ 64
  case neg =>
    have q_l2 : ((r.fail.length : Int) ≤ 64) = False := eq_false (by omega)
    simp (maxSteps := 1000000) (disch := first | omega | decide +kernel | (simp only [symN] <;> omega) | assumption) only [Jaa, Jac, reduceIte, Nat.reduceEqDiff, Nat.reduceAdd, Nat.reduceMul, v1, w5, x7, x8, hlt, q_l1, q_l2]
    refine ⟨?_, hk.bump'⟩
    simp [Jag, Jab, hR, Jcl, hkind, hall4, hall5, h_l1, h_l2]
  have q_l2 : ((r.fail.length : Int) ≤ 64) = True := eq_true (by omega)
  simp (maxSteps := 1000000) (disch := first | omega | decide +kernel | (simp only [symN] <;> omega) | assumption) only [Jaa, Jac, reduceIte, Nat.reduceEqDiff, Nat.reduceAdd, Nat.reduceMul, v1, w5, x7, x8, hlt, q_l1, q_l2]
  refine ⟨?_, hk.bump'⟩
  simp [Jag, Jab, hR, Jcl, hkind, hall4, hall5, h_l1, h_l2]
end Go.Proofs
