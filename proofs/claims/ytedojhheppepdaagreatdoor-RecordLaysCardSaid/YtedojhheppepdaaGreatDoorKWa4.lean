/-
  record.Bytes. No condition.
-/
import Derived.Test.YtedojhheppepdaaGreatDoorKWa3TRe2
namespace Go.Proofs
open Go Go.Ev
set_option maxRecDepth 100000
set_option linter.unusedSimpArgs false
set_option linter.unusedVariables false
set_option linter.defProp false
set_option maxHeartbeats 40000000
attribute [local irreducible] zTF Jcf zOp zO zQ1 zQ2 zObj zQ zU zW zCl zRd zLd zPr zIf Jci zC
def Jk0 (ok : Bool) (bs : List Value) (σ : St) (v : Value) (σ' : St) : Prop :=
  (ok = false ∧ v = .tuple #[.slice none 0 0, .int .i64 1] ∨ ok = true ∧ 16384 < bs.length ∧ v = .tuple #[.slice none 0 0, .int .i64 3] ∨
    ok = true ∧ bs.length ≤ 16384 ∧ ∃ A vv FF, v = .tuple #[.slice (some ⟨A, 0, none⟩) bs.length 2, .int .i64 0] ∧ σ'.get A = some (.cells true vv FF bs)) ∧ Jad σ σ'
theorem Jro {α : Type} {f : α → List Value} {l : List α} {n : Nat} (h : ∀ x ∈ l, (f x).length ≤ n) : (rowL f l).length ≤ 1 + l.length * n := by
  have := Jc1 h
  simp only [rowL, List.length_append, Jap]
  omega
theorem Js8 (may : ByteArray → ByteArray → Bool) (fin : Jan → Bool) (fail : Jaw → Bool) (r : RecM) (s : RecS) (σ : St) (hw : σ.Wf) (ha : Jbo σ r s) (hf : r.Fits) (hm : Jjl may fin fail r) (hsm : r.Small) :
    TF Tryz.prog [] 13 #[.agg ⟨Jah r s⟩] σ fun v σ' => Jk0 (mayM may fin fail r) (Jdl r) σ v σ' := by
  refine TF.walk (Jaf _) Jae Tryz.func13 (by kernel_rfl) rfl fun c hc => ?_
  cases hc
  obtain ⟨b0, k0, e0⟩ := ha.to.shape
  obtain ⟨b1, k1, e1⟩ := ha.fin.shape
  obtain ⟨b2, k2, e2⟩ := ha.fail.shape
  obtain ⟨b3, k3, e3⟩ := ha.which.shape
  have ca : (Value.agg ⟨Jah r s⟩).cells = ⟨Jah r s⟩ := rfl
  rw [Jey, Jb8]
  simp (maxSteps := 1000000) (disch := first | omega | decide +kernel | (simp only [symN] <;> omega) | assumption) only [Jdj, Jac, reduceIte, Nat.reduceEqDiff, Nat.reduceAdd, Nat.reduceMul]
  refine Jff (fun env τ => ∃ R, eget env 1 = .pointer (some ⟨R, 0, none⟩) ∧ τ.get R = some (.cells true 0 R (Jah r s)) ∧ Jad σ τ ∧ R < τ.next ∧ σ.next ≤ R) ?_ ?_
  · exact ⟨σ.next, by simp [Jab], by simp, by (repeat (first | exact Jad.refl _ | apply Jad.bump' | apply Jad.setHint | refine Jad.setFam ?_ (by first | omega | (simp <;> omega)) | refine Jad.set ?_ (by first | omega | (simp <;> omega)))), by simp, Nat.le_refl _⟩
  rintro env τ ⟨R, v1, gR, hk, hRn, hRs⟩
  have haτ : ∀ m, Jbo (τ.bump m) r s := fun m => ha.keeps hw (hk.trans .bump)
  obtain ⟨x0, x1, x2, x3, x5, x6, x7, x8, x9, x10, x11, x12, x13⟩ := Jb7 gR
  simp (maxSteps := 1000000) (disch := first | omega | decide +kernel | (simp only [symN] <;> omega) | assumption) only [Tryz.f13, Jaa, Jac, reduceIte, Nat.reduceEqDiff, Nat.reduceAdd, Nat.reduceMul, v1, x13]
  rw [Jak]
  refine TF.of (Jmf may fin fail r s _ (haτ _) hf hm) ?_
  cases hM : mayM may fin fail r with
  | false =>
    simp (maxSteps := 1000000) (disch := first | omega | decide +kernel | (simp only [symN] <;> omega) | assumption) only [Jaa, Jac, reduceIte, Nat.reduceEqDiff, Nat.reduceAdd, Nat.reduceMul, v1]
    refine ⟨.inl ⟨rfl, ?_⟩, hk.bump'⟩
    simp [Jjz, Jab]
  | true =>
  have q1 : (τ.next + 3 + 2 = R) = False := eq_false (by omega)
  have q2 : (τ.next + 3 + 1 = R) = False := eq_false (by omega)
  have wk : IntKind.i64.wrap ((r.kind : Nat) : Int) = (r.kind : Nat) := Jbf .i64 r.kind (show r.kind < 9223372036854775808 by have := hsm.kind; omega)
  have wi : IntKind.i64.wrap ((r.id : Nat) : Int) = (r.id : Nat) := Jbf .i64 r.id (show r.id < 9223372036854775808 by have := hsm.id; omega)
  have wh : IntKind.i64.wrap ((r.what : Nat) : Int) = (r.what : Nat) := Jbf .i64 r.what (show r.what < 9223372036854775808 by have := hsm.what; omega)
  have wn : IntKind.i64.wrap ((r.new : Nat) : Int) = (r.new : Nat) := Jbf .i64 r.new (show r.new < 9223372036854775808 by have := hsm.new; omega)
  have lF := Jro (f := Jan.bytes) (l := r.fin) fun x hx => Jan.bytes_le (hsm.finS x hx)
  have lX := Jro (f := Jaw.bytes) (l := r.fail) fun x hx => Jaw.bytes_le (hsm.failS x hx)
  have lT := Jro (f := Jc5) (l := r.to) fun x hx => Jix (hsm.toS x hx)
  have lW := Jro (f := Jbp) (l := r.which) (n := 1) fun x hx => by simp [Jbp, Jap]
  have lA := Jbw r.sl r.sd
  have n1 := hsm.fin
  have n2 := hsm.fail
  have n3 := hsm.to
  have n4 := hsm.which
  have n5 := hsm.snd
  have n6 := hsm.content
  simp (maxSteps := 1000000) (disch := first | omega | decide +kernel | (simp only [symN] <;> omega) | assumption) only [Jaa, Jac, reduceIte, Nat.reduceEqDiff, Nat.reduceAdd, Nat.reduceMul, v1, gR, Jah, q1, q2, wk]
  refine Ja9 (fun τ1 => BAt σ τ1 (τ.next + 3 + 1) (τ.next + 3 + 2) R 1 (τ.next + 3 + 2) 0 r s []) ?_ ?_
  · have hW : ∀ n m, ((((((τ.bump n).set (τ.next + 3 + 1) (AObj.cells true 0 (τ.next + 3 + 1) [Value.slice none 0 0])).set (τ.next + 3 + 2) (AObj.cells true 0 (τ.next + 3 + 2) [Value.pointer none])).set (τ.next + 3 + 2) (AObj.cells true 1 (τ.next + 3 + 2) [Value.pointer (some ⟨τ.next + 3 + 1, 0, none⟩)])).bump m).get (τ.next + 3 + 1)) = some (.cells true 0 (τ.next + 3 + 1) [.slice none 0 0]) := fun n m => by simp
    refine ⟨⟨by simp, 0, τ.next + 3 + 1, .inl ⟨rfl, hW _ _⟩⟩, by simp, by simp [q1, q2, gR], by simp, by simp; omega, ?_, ?_, ⟨?_, ?_, ?_⟩⟩
    · rintro (h | ⟨v, F, l, k, h⟩)
      · omega
      · rw [hW] at h; cases h
    · rintro (h | ⟨v, F, l, k, h⟩)
      · omega
      · rw [hW] at h; cases h
    · exact hk.trans (by (repeat (first | exact Jad.refl _ | apply Jad.bump' | apply Jad.setHint | refine Jad.setFam ?_ (by first | omega | (simp <;> omega)) | refine Jad.set ?_ (by first | omega | (simp <;> omega)))))
    · have := hk.next
      rintro B hB (h | ⟨v, F, l, k, h⟩)
      · omega
      · rw [hW] at h; cases h
    · rintro F hF ⟨A, v, F0, l, k, v', c, h, _⟩
      rw [hW] at h; cases h
  generalize τ.next + 3 + 1 = W
  generalize τ.next + 3 + 2 = PW
  intro τ1 H
  rw [Jak]
  refine TF.mono_of (Jbj (r.kind : Nat) 1 (by decide) _ H.wr (by simp only [List.length_append, List.length_nil, Jap]; omega)) ?_
  rintro _ τ2 ⟨rfl, w, k⟩
  replace H := H.step w k
  obtain ⟨x0, x1, x2, x3, x5, x6, x7, x8, x9, x10, x11, x12, x13⟩ := Jb7 H.rc
  simp (maxSteps := 1000000) (disch := first | omega | decide +kernel | (simp only [symN] <;> omega) | assumption) only [Jaa, Jac, reduceIte, Nat.reduceEqDiff, Nat.reduceAdd, Nat.reduceMul, v1, H.pw, x0, x1, x2, x3, x5, x6, x7, x8, x9, x10, x11, x12, wi, wh, wn]
  clear x0 x1 x2 x3 x5 x6 x7 x8 x9 x10 x11 x12 x13
  refine Ja9 (fun τ' => BAt σ τ' W PW R 1 PW 0 r s _) H.bump ?_
  clear H
  intro τ' H
  rw [Jak]
  refine TF.mono_of (Jbj (r.id : Nat) 4 (by decide) _ H.wr (by simp only [List.length_append, List.length_nil, Jap]; omega)) ?_
  rintro _ τ3 ⟨rfl, w, k⟩
  replace H := H.step w k
  obtain ⟨x0, x1, x2, x3, x5, x6, x7, x8, x9, x10, x11, x12, x13⟩ := Jb7 H.rc
  simp (maxSteps := 1000000) (disch := first | omega | decide +kernel | (simp only [symN] <;> omega) | assumption) only [Jaa, Jac, reduceIte, Nat.reduceEqDiff, Nat.reduceAdd, Nat.reduceMul, v1, H.pw, x0, x1, x2, x3, x5, x6, x7, x8, x9, x10, x11, x12, wi, wh, wn]
  clear x0 x1 x2 x3 x5 x6 x7 x8 x9 x10 x11 x12 x13
  refine Ja9 (fun τ' => BAt σ τ' W PW R 1 PW 0 r s _) H.bump ?_
  clear H
  intro τ' H
  rw [Jak]
  refine TF.mono_of (Jbj r.tick 8 (by decide) _ H.wr (by simp only [List.length_append, List.length_nil, Jap]; omega)) ?_
  rintro _ τ4 ⟨rfl, w, k⟩
  replace H := H.step w k
  have hH : BAt σ τ4 W PW R 1 PW 0 r s (Jj4 r) := H
  replace H := hH
  clear hH
  have lH : (Jj4 r).length = 13 := by simp only [Jj4, List.length_append, Jap]
  have c1 : (((r.kind : Nat) : Int) = 1) = (r.kind = 1) := propext (by omega)
  have c2 : (((r.kind : Nat) : Int) = 2) = (r.kind = 2) := propext (by omega)
  have c3 : (((r.kind : Nat) : Int) = 3) = (r.kind = 3) := propext (by omega)
  have c4 : (((r.kind : Nat) : Int) = 4) = (r.kind = 4) := propext (by omega)
  have c5 : (((r.kind : Nat) : Int) = 5) = (r.kind = 5) := propext (by omega)
  by_cases h1 : r.kind = 1
  · have g1 := eq_true (show r.kind = 1 by omega)
    have g2 := eq_false (show ¬ r.kind = 2 by omega)
    have g3 := eq_false (show ¬ r.kind = 3 by omega)
    have g4 := eq_false (show ¬ r.kind = 4 by omega)
    have g5 := eq_false (show ¬ r.kind = 5 by omega)
    obtain ⟨x0, x1, x2, x3, x5, x6, x7, x8, x9, x10, x11, x12, x13⟩ := Jb7 H.rc
    simp (maxSteps := 1000000) (disch := first | omega | decide +kernel | (simp only [symN] <;> omega) | assumption) only [Jaa, Jac, reduceIte, Nat.reduceEqDiff, Nat.reduceAdd, Nat.reduceMul, v1, H.pw, x0, x1, x2, x3, x5, x6, x7, x8, x9, x10, x11, x12, wi, wh, wn, e0, e1, e2, e3, c1, c2, c3, c4, c5, g1, g2, g3, g4, g5]
    clear x0 x1 x2 x3 x5 x6 x7 x8 x9 x10 x11 x12 x13
    refine Ja9 (fun τ' => BAt σ τ' W PW R 1 PW 0 r s _) H.bump ?_
    clear H
    intro τ' H
    rw [Jak]
    refine TF.mono_of (Jem r.sl r.sd n5.1 n5.2 _ H.wr (by (try simp only [List.length_append, List.length_nil, Jap, Ja4]); omega)) ?_
    rintro _ τ11 ⟨rfl, w, k⟩
    replace H := H.step w k
    obtain ⟨x0, x1, x2, x3, x5, x6, x7, x8, x9, x10, x11, x12, x13⟩ := Jb7 H.rc
    simp (maxSteps := 1000000) (disch := first | omega | decide +kernel | (simp only [symN] <;> omega) | assumption) only [Jaa, Jac, reduceIte, Nat.reduceEqDiff, Nat.reduceAdd, Nat.reduceMul, v1, H.pw, x0, x1, x2, x3, x5, x6, x7, x8, x9, x10, x11, x12, wi, wh, wn, e0, e1, e2, e3, c1, c2, c3, c4, c5, g1, g2, g3, g4, g5]
    clear x0 x1 x2 x3 x5 x6 x7 x8 x9 x10 x11 x12 x13
    refine Ja9 (fun τ' => BAt σ τ' W PW R 1 PW 0 r s _) H.bump ?_
    clear H
    intro τ' H
    rw [Jak, ← e0]
    refine TF.mono_of (Jkt r.to s.to σ _ hw ha.to H.new H.wr hsm.toS n3 (by (try simp only [List.length_append, List.length_nil, Jap, Ja4]); omega)) ?_
    rintro _ τ12 ⟨rfl, w, k⟩
    replace H := H.step w k
    obtain ⟨x0, x1, x2, x3, x5, x6, x7, x8, x9, x10, x11, x12, x13⟩ := Jb7 H.rc
    simp (maxSteps := 1000000) (disch := first | omega | decide +kernel | (simp only [symN] <;> omega) | assumption) only [Jaa, Jac, reduceIte, Nat.reduceEqDiff, Nat.reduceAdd, Nat.reduceMul, v1, H.pw, x0, x1, x2, x3, x5, x6, x7, x8, x9, x10, x11, x12, wi, wh, wn, e0, e1, e2, e3, c1, c2, c3, c4, c5, g1, g2, g3, g4, g5]
    clear x0 x1 x2 x3 x5 x6 x7 x8 x9 x10 x11 x12 x13
    refine Ja9 (fun τ' => BAt σ τ' W PW R 1 PW 0 r s _) H.bump ?_
    clear H
    intro τ' H
    rw [Jak]
    refine TF.mono_of (Jdq r.content n6 _ H.wr (by (try simp only [List.length_append, List.length_nil, Jap, Ja4]); omega)) ?_
    rintro _ τ13 ⟨rfl, w, k⟩
    replace H := H.step w k
    obtain ⟨hWn, vv, FF, hcase⟩ := H.wr
    rcases hcase with ⟨hnil, _⟩ | ⟨A, v', F', hWg, hAg, hne, hAl⟩
    · have := congrArg List.length hnil
      simp only [List.length_append, lH, List.length_nil] at this
      omega
    generalize hC : Jj4 r ++ Jbd r.sl r.sd ++ rowL Jc5 r.to ++ Jbe r.content = C at hWg hAg
    have hform : Jdl r = C := by rw [← hC]; simp [Jdl, Jlk, Jlj, Jli, g1, g2, g3, g4, g5, List.append_assoc]
    rw [hform]
    by_cases hlong : 16384 < C.length
    · have hl1 : (16384 < (C.length : Int)) = True := eq_true (by omega)
      obtain ⟨x0, x1, x2, x3, x5, x6, x7, x8, x9, x10, x11, x12, x13⟩ := Jb7 H.rc
      simp (maxSteps := 1000000) (disch := first | omega | decide +kernel | (simp only [symN] <;> omega) | assumption) only [Jaa, Jac, reduceIte, Nat.reduceEqDiff, Nat.reduceAdd, Nat.reduceMul, v1, H.pw, x0, x1, x2, x3, x5, x6, x7, x8, x9, x10, x11, x12, c1, c2, c3, c4, c5, hWg, hl1, g1, g2, g3, g4, g5]
      exact ⟨.inr (.inl ⟨rfl, hlong, rfl⟩), H.new.keeps.bump'⟩
    · have hl1 : (16384 < (C.length : Int)) = False := eq_false (by omega)
      obtain ⟨x0, x1, x2, x3, x5, x6, x7, x8, x9, x10, x11, x12, x13⟩ := Jb7 H.rc
      simp (maxSteps := 1000000) (disch := first | omega | decide +kernel | (simp only [symN] <;> omega) | assumption) only [Jaa, Jac, reduceIte, Nat.reduceEqDiff, Nat.reduceAdd, Nat.reduceMul, v1, H.pw, x0, x1, x2, x3, x5, x6, x7, x8, x9, x10, x11, x12, c1, c2, c3, c4, c5, hWg, hl1, g1, g2, g3, g4, g5]
      exact ⟨.inr (.inr ⟨rfl, by omega, A, v', F', rfl, by simpa using hAg⟩), H.new.keeps.bump'⟩
  by_cases h2 : r.kind = 2
  · have g1 := eq_false (show ¬ r.kind = 1 by omega)
    have g2 := eq_true (show r.kind = 2 by omega)
    have g3 := eq_false (show ¬ r.kind = 3 by omega)
    have g4 := eq_false (show ¬ r.kind = 4 by omega)
    have g5 := eq_false (show ¬ r.kind = 5 by omega)
    obtain ⟨x0, x1, x2, x3, x5, x6, x7, x8, x9, x10, x11, x12, x13⟩ := Jb7 H.rc
    simp (maxSteps := 1000000) (disch := first | omega | decide +kernel | (simp only [symN] <;> omega) | assumption) only [Jaa, Jac, reduceIte, Nat.reduceEqDiff, Nat.reduceAdd, Nat.reduceMul, v1, H.pw, x0, x1, x2, x3, x5, x6, x7, x8, x9, x10, x11, x12, wi, wh, wn, e0, e1, e2, e3, c1, c2, c3, c4, c5, g1, g2, g3, g4, g5]
    clear x0 x1 x2 x3 x5 x6 x7 x8 x9 x10 x11 x12 x13
    refine Ja9 (fun τ' => BAt σ τ' W PW R 1 PW 0 r s _) H.bump ?_
    clear H
    intro τ' H
    rw [Jak, ← e1]
    refine TF.mono_of (Jsn r.fin s.fin σ _ hw ha.fin H.new H.wr hsm.finS n1 (by (try simp only [List.length_append, List.length_nil, Jap, Ja4]); omega)) ?_
    rintro _ τ14 ⟨rfl, w, k⟩
    replace H := H.step w k
    obtain ⟨x0, x1, x2, x3, x5, x6, x7, x8, x9, x10, x11, x12, x13⟩ := Jb7 H.rc
    simp (maxSteps := 1000000) (disch := first | omega | decide +kernel | (simp only [symN] <;> omega) | assumption) only [Jaa, Jac, reduceIte, Nat.reduceEqDiff, Nat.reduceAdd, Nat.reduceMul, v1, H.pw, x0, x1, x2, x3, x5, x6, x7, x8, x9, x10, x11, x12, wi, wh, wn, e0, e1, e2, e3, c1, c2, c3, c4, c5, g1, g2, g3, g4, g5]
    clear x0 x1 x2 x3 x5 x6 x7 x8 x9 x10 x11 x12 x13
    refine Ja9 (fun τ' => BAt σ τ' W PW R 1 PW 0 r s _) H.bump ?_
    clear H
    intro τ' H
    rw [Jak, ← e2]
    refine TF.mono_of (Jsl r.fail s.fail σ _ hw ha.fail H.new H.wr hsm.failS n2 (by (try simp only [List.length_append, List.length_nil, Jap, Ja4]); omega)) ?_
    rintro _ τ15 ⟨rfl, w, k⟩
    replace H := H.step w k
    obtain ⟨hWn, vv, FF, hcase⟩ := H.wr
    rcases hcase with ⟨hnil, _⟩ | ⟨A, v', F', hWg, hAg, hne, hAl⟩
    · have := congrArg List.length hnil
      simp only [List.length_append, lH, List.length_nil] at this
      omega
    generalize hC : Jj4 r ++ rowL Jan.bytes r.fin ++ rowL Jaw.bytes r.fail = C at hWg hAg
    have hform : Jdl r = C := by rw [← hC]; simp [Jdl, Jlk, Jlj, Jli, g1, g2, g3, g4, g5, List.append_assoc]
    rw [hform]
    by_cases hlong : 16384 < C.length
    · have hl1 : (16384 < (C.length : Int)) = True := eq_true (by omega)
      obtain ⟨x0, x1, x2, x3, x5, x6, x7, x8, x9, x10, x11, x12, x13⟩ := Jb7 H.rc
      simp (maxSteps := 1000000) (disch := first | omega | decide +kernel | (simp only [symN] <;> omega) | assumption) only [Jaa, Jac, reduceIte, Nat.reduceEqDiff, Nat.reduceAdd, Nat.reduceMul, v1, H.pw, x0, x1, x2, x3, x5, x6, x7, x8, x9, x10, x11, x12, c1, c2, c3, c4, c5, hWg, hl1, g1, g2, g3, g4, g5]
      exact ⟨.inr (.inl ⟨rfl, hlong, rfl⟩), H.new.keeps.bump'⟩
    · have hl1 : (16384 < (C.length : Int)) = False := eq_false (by omega)
      obtain ⟨x0, x1, x2, x3, x5, x6, x7, x8, x9, x10, x11, x12, x13⟩ := Jb7 H.rc
      simp (maxSteps := 1000000) (disch := first | omega | decide +kernel | (simp only [symN] <;> omega) | assumption) only [Jaa, Jac, reduceIte, Nat.reduceEqDiff, Nat.reduceAdd, Nat.reduceMul, v1, H.pw, x0, x1, x2, x3, x5, x6, x7, x8, x9, x10, x11, x12, c1, c2, c3, c4, c5, hWg, hl1, g1, g2, g3, g4, g5]
      exact ⟨.inr (.inr ⟨rfl, by omega, A, v', F', rfl, by simpa using hAg⟩), H.new.keeps.bump'⟩
  by_cases h3 : r.kind = 3
  · have g1 := eq_false (show ¬ r.kind = 1 by omega)
    have g2 := eq_false (show ¬ r.kind = 2 by omega)
    have g3 := eq_true (show r.kind = 3 by omega)
    have g4 := eq_false (show ¬ r.kind = 4 by omega)
    have g5 := eq_false (show ¬ r.kind = 5 by omega)
    obtain ⟨x0, x1, x2, x3, x5, x6, x7, x8, x9, x10, x11, x12, x13⟩ := Jb7 H.rc
    simp (maxSteps := 1000000) (disch := first | omega | decide +kernel | (simp only [symN] <;> omega) | assumption) only [Jaa, Jac, reduceIte, Nat.reduceEqDiff, Nat.reduceAdd, Nat.reduceMul, v1, H.pw, x0, x1, x2, x3, x5, x6, x7, x8, x9, x10, x11, x12, wi, wh, wn, e0, e1, e2, e3, c1, c2, c3, c4, c5, g1, g2, g3, g4, g5]
    clear x0 x1 x2 x3 x5 x6 x7 x8 x9 x10 x11 x12 x13
    refine Ja9 (fun τ' => BAt σ τ' W PW R 1 PW 0 r s _) H.bump ?_
    clear H
    intro τ' H
    rw [Jak]
    refine TF.mono_of (Jhr H hw ha.which n4 (by (try simp only [List.length_append, List.length_nil, Jap, Ja4]); omega)) ?_
    rintro _ τ16 ⟨rfl, w, k⟩
    replace H := H.step w k
    obtain ⟨x0, x1, x2, x3, x5, x6, x7, x8, x9, x10, x11, x12, x13⟩ := Jb7 H.rc
    simp (maxSteps := 1000000) (disch := first | omega | decide +kernel | (simp only [symN] <;> omega) | assumption) only [Jaa, Jac, reduceIte, Nat.reduceEqDiff, Nat.reduceAdd, Nat.reduceMul, v1, H.pw, x0, x1, x2, x3, x5, x6, x7, x8, x9, x10, x11, x12, wi, wh, wn, e0, e1, e2, e3, c1, c2, c3, c4, c5, g1, g2, g3, g4, g5]
    clear x0 x1 x2 x3 x5 x6 x7 x8 x9 x10 x11 x12 x13
    refine Ja9 (fun τ' => BAt σ τ' W PW R 1 PW 0 r s _) H.bump ?_
    clear H
    intro τ' H
    rw [Jak]
    refine TF.mono_of (Jbj r.next 8 (by decide) _ H.wr (by (try simp only [List.length_append, List.length_nil, Jap, Ja4]); omega)) ?_
    rintro _ τ17 ⟨rfl, w, k⟩
    replace H := H.step w k
    obtain ⟨hWn, vv, FF, hcase⟩ := H.wr
    rcases hcase with ⟨hnil, _⟩ | ⟨A, v', F', hWg, hAg, hne, hAl⟩
    · have := congrArg List.length hnil
      simp only [List.length_append, lH, List.length_nil] at this
      omega
    generalize hC : Jj4 r ++ rowL Jbp r.which ++ numL r.next 8 = C at hWg hAg
    have hform : Jdl r = C := by rw [← hC]; simp [Jdl, Jlk, Jlj, Jli, g1, g2, g3, g4, g5, List.append_assoc]
    rw [hform]
    by_cases hlong : 16384 < C.length
    · have hl1 : (16384 < (C.length : Int)) = True := eq_true (by omega)
      obtain ⟨x0, x1, x2, x3, x5, x6, x7, x8, x9, x10, x11, x12, x13⟩ := Jb7 H.rc
      simp (maxSteps := 1000000) (disch := first | omega | decide +kernel | (simp only [symN] <;> omega) | assumption) only [Jaa, Jac, reduceIte, Nat.reduceEqDiff, Nat.reduceAdd, Nat.reduceMul, v1, H.pw, x0, x1, x2, x3, x5, x6, x7, x8, x9, x10, x11, x12, c1, c2, c3, c4, c5, hWg, hl1, g1, g2, g3, g4, g5]
      exact ⟨.inr (.inl ⟨rfl, hlong, rfl⟩), H.new.keeps.bump'⟩
    · have hl1 : (16384 < (C.length : Int)) = False := eq_false (by omega)
      obtain ⟨x0, x1, x2, x3, x5, x6, x7, x8, x9, x10, x11, x12, x13⟩ := Jb7 H.rc
      simp (maxSteps := 1000000) (disch := first | omega | decide +kernel | (simp only [symN] <;> omega) | assumption) only [Jaa, Jac, reduceIte, Nat.reduceEqDiff, Nat.reduceAdd, Nat.reduceMul, v1, H.pw, x0, x1, x2, x3, x5, x6, x7, x8, x9, x10, x11, x12, c1, c2, c3, c4, c5, hWg, hl1, g1, g2, g3, g4, g5]
      exact ⟨.inr (.inr ⟨rfl, by omega, A, v', F', rfl, by simpa using hAg⟩), H.new.keeps.bump'⟩
  by_cases h4 : r.kind = 4
  · have g1 := eq_false (show ¬ r.kind = 1 by omega)
    have g2 := eq_false (show ¬ r.kind = 2 by omega)
    have g3 := eq_false (show ¬ r.kind = 3 by omega)
    have g4 := eq_true (show r.kind = 4 by omega)
    have g5 := eq_false (show ¬ r.kind = 5 by omega)
    obtain ⟨x0, x1, x2, x3, x5, x6, x7, x8, x9, x10, x11, x12, x13⟩ := Jb7 H.rc
    simp (maxSteps := 1000000) (disch := first | omega | decide +kernel | (simp only [symN] <;> omega) | assumption) only [Jaa, Jac, reduceIte, Nat.reduceEqDiff, Nat.reduceAdd, Nat.reduceMul, v1, H.pw, x0, x1, x2, x3, x5, x6, x7, x8, x9, x10, x11, x12, wi, wh, wn, e0, e1, e2, e3, c1, c2, c3, c4, c5, g1, g2, g3, g4, g5]
    clear x0 x1 x2 x3 x5 x6 x7 x8 x9 x10 x11 x12 x13
    refine Ja9 (fun τ' => BAt σ τ' W PW R 1 PW 0 r s _) H.bump ?_
    clear H
    intro τ' H
    rw [Jak]
    refine TF.mono_of (Jhr H hw ha.which n4 (by (try simp only [List.length_append, List.length_nil, Jap, Ja4]); omega)) ?_
    rintro _ τ18 ⟨rfl, w, k⟩
    replace H := H.step w k
    obtain ⟨x0, x1, x2, x3, x5, x6, x7, x8, x9, x10, x11, x12, x13⟩ := Jb7 H.rc
    simp (maxSteps := 1000000) (disch := first | omega | decide +kernel | (simp only [symN] <;> omega) | assumption) only [Jaa, Jac, reduceIte, Nat.reduceEqDiff, Nat.reduceAdd, Nat.reduceMul, v1, H.pw, x0, x1, x2, x3, x5, x6, x7, x8, x9, x10, x11, x12, wi, wh, wn, e0, e1, e2, e3, c1, c2, c3, c4, c5, g1, g2, g3, g4, g5]
    clear x0 x1 x2 x3 x5 x6 x7 x8 x9 x10 x11 x12 x13
    refine Ja9 (fun τ' => BAt σ τ' W PW R 1 PW 0 r s _) H.bump ?_
    clear H
    intro τ' H
    rw [Jak]
    refine TF.mono_of (Jbj (r.what : Nat) 1 (by decide) _ H.wr (by (try simp only [List.length_append, List.length_nil, Jap, Ja4]); omega)) ?_
    rintro _ τ19 ⟨rfl, w, k⟩
    replace H := H.step w k
    obtain ⟨hWn, vv, FF, hcase⟩ := H.wr
    rcases hcase with ⟨hnil, _⟩ | ⟨A, v', F', hWg, hAg, hne, hAl⟩
    · have := congrArg List.length hnil
      simp only [List.length_append, lH, List.length_nil] at this
      omega
    generalize hC : Jj4 r ++ rowL Jbp r.which ++ numL (r.what : Nat) 1 = C at hWg hAg
    have hform : Jdl r = C := by rw [← hC]; simp [Jdl, Jlk, Jlj, Jli, g1, g2, g3, g4, g5, List.append_assoc]
    rw [hform]
    by_cases hlong : 16384 < C.length
    · have hl1 : (16384 < (C.length : Int)) = True := eq_true (by omega)
      obtain ⟨x0, x1, x2, x3, x5, x6, x7, x8, x9, x10, x11, x12, x13⟩ := Jb7 H.rc
      simp (maxSteps := 1000000) (disch := first | omega | decide +kernel | (simp only [symN] <;> omega) | assumption) only [Jaa, Jac, reduceIte, Nat.reduceEqDiff, Nat.reduceAdd, Nat.reduceMul, v1, H.pw, x0, x1, x2, x3, x5, x6, x7, x8, x9, x10, x11, x12, c1, c2, c3, c4, c5, hWg, hl1, g1, g2, g3, g4, g5]
      exact ⟨.inr (.inl ⟨rfl, hlong, rfl⟩), H.new.keeps.bump'⟩
    · have hl1 : (16384 < (C.length : Int)) = False := eq_false (by omega)
      obtain ⟨x0, x1, x2, x3, x5, x6, x7, x8, x9, x10, x11, x12, x13⟩ := Jb7 H.rc
      simp (maxSteps := 1000000) (disch := first | omega | decide +kernel | (simp only [symN] <;> omega) | assumption) only [Jaa, Jac, reduceIte, Nat.reduceEqDiff, Nat.reduceAdd, Nat.reduceMul, v1, H.pw, x0, x1, x2, x3, x5, x6, x7, x8, x9, x10, x11, x12, c1, c2, c3, c4, c5, hWg, hl1, g1, g2, g3, g4, g5]
      exact ⟨.inr (.inr ⟨rfl, by omega, A, v', F', rfl, by simpa using hAg⟩), H.new.keeps.bump'⟩
  by_cases h5 : r.kind = 5
  · have g1 := eq_false (show ¬ r.kind = 1 by omega)
    have g2 := eq_false (show ¬ r.kind = 2 by omega)
    have g3 := eq_false (show ¬ r.kind = 3 by omega)
    have g4 := eq_false (show ¬ r.kind = 4 by omega)
    have g5 := eq_true (show r.kind = 5 by omega)
    obtain ⟨x0, x1, x2, x3, x5, x6, x7, x8, x9, x10, x11, x12, x13⟩ := Jb7 H.rc
    simp (maxSteps := 1000000) (disch := first | omega | decide +kernel | (simp only [symN] <;> omega) | assumption) only [Jaa, Jac, reduceIte, Nat.reduceEqDiff, Nat.reduceAdd, Nat.reduceMul, v1, H.pw, x0, x1, x2, x3, x5, x6, x7, x8, x9, x10, x11, x12, wi, wh, wn, e0, e1, e2, e3, c1, c2, c3, c4, c5, g1, g2, g3, g4, g5]
    clear x0 x1 x2 x3 x5 x6 x7 x8 x9 x10 x11 x12 x13
    refine Ja9 (fun τ' => BAt σ τ' W PW R 1 PW 0 r s _) H.bump ?_
    clear H
    intro τ' H
    rw [Jak]
    refine TF.mono_of (Jhr H hw ha.which n4 (by (try simp only [List.length_append, List.length_nil, Jap, Ja4]); omega)) ?_
    rintro _ τ20 ⟨rfl, w, k⟩
    replace H := H.step w k
    obtain ⟨x0, x1, x2, x3, x5, x6, x7, x8, x9, x10, x11, x12, x13⟩ := Jb7 H.rc
    simp (maxSteps := 1000000) (disch := first | omega | decide +kernel | (simp only [symN] <;> omega) | assumption) only [Jaa, Jac, reduceIte, Nat.reduceEqDiff, Nat.reduceAdd, Nat.reduceMul, v1, H.pw, x0, x1, x2, x3, x5, x6, x7, x8, x9, x10, x11, x12, wi, wh, wn, e0, e1, e2, e3, c1, c2, c3, c4, c5, g1, g2, g3, g4, g5]
    clear x0 x1 x2 x3 x5 x6 x7 x8 x9 x10 x11 x12 x13
    refine Ja9 (fun τ' => BAt σ τ' W PW R 1 PW 0 r s _) H.bump ?_
    clear H
    intro τ' H
    rw [Jak]
    refine TF.mono_of (Jbj (r.new : Nat) 4 (by decide) _ H.wr (by (try simp only [List.length_append, List.length_nil, Jap, Ja4]); omega)) ?_
    rintro _ τ21 ⟨rfl, w, k⟩
    replace H := H.step w k
    obtain ⟨x0, x1, x2, x3, x5, x6, x7, x8, x9, x10, x11, x12, x13⟩ := Jb7 H.rc
    simp (maxSteps := 1000000) (disch := first | omega | decide +kernel | (simp only [symN] <;> omega) | assumption) only [Jaa, Jac, reduceIte, Nat.reduceEqDiff, Nat.reduceAdd, Nat.reduceMul, v1, H.pw, x0, x1, x2, x3, x5, x6, x7, x8, x9, x10, x11, x12, wi, wh, wn, e0, e1, e2, e3, c1, c2, c3, c4, c5, g1, g2, g3, g4, g5]
    clear x0 x1 x2 x3 x5 x6 x7 x8 x9 x10 x11 x12 x13
    refine Ja9 (fun τ' => BAt σ τ' W PW R 1 PW 0 r s _) H.bump ?_
    clear H
    intro τ' H
    rw [Jak, ← e0]
    refine TF.mono_of (Jkt r.to s.to σ _ hw ha.to H.new H.wr hsm.toS n3 (by (try simp only [List.length_append, List.length_nil, Jap, Ja4]); omega)) ?_
    rintro _ τ22 ⟨rfl, w, k⟩
    replace H := H.step w k
    obtain ⟨x0, x1, x2, x3, x5, x6, x7, x8, x9, x10, x11, x12, x13⟩ := Jb7 H.rc
    simp (maxSteps := 1000000) (disch := first | omega | decide +kernel | (simp only [symN] <;> omega) | assumption) only [Jaa, Jac, reduceIte, Nat.reduceEqDiff, Nat.reduceAdd, Nat.reduceMul, v1, H.pw, x0, x1, x2, x3, x5, x6, x7, x8, x9, x10, x11, x12, wi, wh, wn, e0, e1, e2, e3, c1, c2, c3, c4, c5, g1, g2, g3, g4, g5]
    clear x0 x1 x2 x3 x5 x6 x7 x8 x9 x10 x11 x12 x13
    refine Ja9 (fun τ' => BAt σ τ' W PW R 1 PW 0 r s _) H.bump ?_
    clear H
    intro τ' H
    rw [Jak]
    refine TF.mono_of (Jdq r.content n6 _ H.wr (by (try simp only [List.length_append, List.length_nil, Jap, Ja4]); omega)) ?_
    rintro _ τ23 ⟨rfl, w, k⟩
    replace H := H.step w k
    obtain ⟨hWn, vv, FF, hcase⟩ := H.wr
    rcases hcase with ⟨hnil, _⟩ | ⟨A, v', F', hWg, hAg, hne, hAl⟩
    · have := congrArg List.length hnil
      simp only [List.length_append, lH, List.length_nil] at this
      omega
    generalize hC : Jj4 r ++ rowL Jbp r.which ++ numL (r.new : Nat) 4 ++ rowL Jc5 r.to ++ Jbe r.content = C at hWg hAg
    have hform : Jdl r = C := by rw [← hC]; simp [Jdl, Jlk, Jlj, Jli, g1, g2, g3, g4, g5, List.append_assoc]
    rw [hform]
    by_cases hlong : 16384 < C.length
    · have hl1 : (16384 < (C.length : Int)) = True := eq_true (by omega)
      obtain ⟨x0, x1, x2, x3, x5, x6, x7, x8, x9, x10, x11, x12, x13⟩ := Jb7 H.rc
      simp (maxSteps := 1000000) (disch := first | omega | decide +kernel | (simp only [symN] <;> omega) | assumption) only [Jaa, Jac, reduceIte, Nat.reduceEqDiff, Nat.reduceAdd, Nat.reduceMul, v1, H.pw, x0, x1, x2, x3, x5, x6, x7, x8, x9, x10, x11, x12, c1, c2, c3, c4, c5, hWg, hl1, g1, g2, g3, g4, g5]
      exact ⟨.inr (.inl ⟨rfl, hlong, rfl⟩), H.new.keeps.bump'⟩
    · have hl1 : (16384 < (C.length : Int)) = False := eq_false (by omega)
      obtain ⟨x0, x1, x2, x3, x5, x6, x7, x8, x9, x10, x11, x12, x13⟩ := Jb7 H.rc
      simp (maxSteps := 1000000) (disch := first | omega | decide +kernel | (simp only [symN] <;> omega) | assumption) only [Jaa, Jac, reduceIte, Nat.reduceEqDiff, Nat.reduceAdd, Nat.reduceMul, v1, H.pw, x0, x1, x2, x3, x5, x6, x7, x8, x9, x10, x11, x12, c1, c2, c3, c4, c5, hWg, hl1, g1, g2, g3, g4, g5]
      exact ⟨.inr (.inr ⟨rfl, by omega, A, v', F', rfl, by simpa using hAg⟩), H.new.keeps.bump'⟩
  exfalso
  have : mayM may fin fail r = false := by simp [mayM, Jd1, h1, h2, h3, h4, h5]
  rw [hM] at this; cases this
end Go.Proofs
