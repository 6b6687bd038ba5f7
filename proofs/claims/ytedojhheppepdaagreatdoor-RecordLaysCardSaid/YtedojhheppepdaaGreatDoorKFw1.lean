/-
  The law's Few. No condition.
-/
import Derived.Test.YtedojhheppepdaaGreatDoorKRb3TFw0
namespace Go.Proofs
open Go Go.Ev
set_option maxRecDepth 100000
set_option linter.unusedSimpArgs false
set_option linter.unusedVariables false
set_option linter.defProp false
set_option maxHeartbeats 40000000
attribute [local irreducible] zTF Jcf zOp zO zQ1 zQ2 zObj zQ zU zW zCl zRd zLd zPr zIf Jci zC
structure Jxj (σ : St) (r : RecM) (s : RecS) : Prop where
  to : SlK σ s.to 2 (r.to.map Jbz)
  fin : SlK σ s.fin 9 (r.fin.map Jan.cells)
  fail : SlK σ s.fail 4 (r.fail.map Jaw.cells)
  which : SlK σ s.which 1 (r.which.map Ja8)
def Jly : List Value := [.int .u8 0, .int .u32 0, .int .i64 0, .string ⟨#[]⟩, .string ⟨#[]⟩, nilS, .string ⟨#[]⟩, nilS, nilS, nilS, .int .u8 0, .int .i64 0, .int .u32 0]
def outC (r : RecM) (to fin fail which : Value) : List Value := [.int .u8 (r.kind : Nat), .int .u32 (r.id : Nat), .int .i64 r.tick, .string (cutB r.sl 80), .string (cutB r.sd 300), to, .string (cutB r.content 9000), fin, fail, which, .int .u8 (r.what : Nat), .int .i64 r.next, .int .u32 (r.new : Nat)]
theorem Jr5 {α β : Type} (f : α → β) (l : List α) (k : Nat) : (l.map f).take (l.take k).length = (l.take k).map f := by
  rw [← List.map_take, List.length_take]
  congr 1
  rcases Nat.le_total l.length k with h | h
  · rw [Nat.min_eq_right h, List.take_of_length_le (Nat.le_refl _), List.take_of_length_le h]
  · rw [Nat.min_eq_left h]
theorem Js6 (r : RecM) (s : RecS) (σ : St) (hw : σ.Wf) (ha : Jxj σ r s) :
    TF Tryz.prog [] 12 #[.agg ⟨Jah r s⟩] σ fun v σ' => ∃ s', v = .agg ⟨Jah (fewM r) s'⟩ ∧ RecN σ σ' (fewM r) s' ∧ Jad σ σ' := by
  refine TF.walk (Jaf _) Jae Tryz.func12 (by kernel_rfl) rfl fun c hc => ?_
  cases hc
  have ca : (Value.agg ⟨Jah r s⟩).cells = ⟨Jah r s⟩ := rfl
  obtain ⟨b0, k0, e0⟩ := ha.to.shape
  obtain ⟨b1, k1, e1⟩ := ha.fin.shape
  obtain ⟨b2, k2, e2⟩ := ha.fail.shape
  obtain ⟨b3, k3, e3⟩ := ha.which.shape
  rw [List.length_map] at e0 e1 e2 e3
  have u0 := ha.to.cut Jd7 Jje (m := (r.to.take 20).length) (by rw [List.length_map, List.length_take]; omega)
  have u1 := ha.fin.cut Jd6 Jjd (m := (r.fin.take 20).length) (by rw [List.length_map, List.length_take]; omega)
  have u2 := ha.fail.cut Jd5 Jjc (m := (r.fail.take 20).length) (by rw [List.length_map, List.length_take]; omega)
  have u3 := ha.which.cut Jd4 Jlq (m := (r.which.take 130).length) (by rw [List.length_map, List.length_take]; omega)
  rw [e0, Jr5] at u0
  rw [e1, Jr5] at u1
  rw [e2, Jr5] at u2
  rw [e3, Jr5] at u3
  obtain ⟨d0, j0, f0, g0⟩ := u0
  obtain ⟨d1, j1, f1, g1⟩ := u1
  obtain ⟨d2, j2, f2, g2⟩ := u2
  obtain ⟨d3, j3, f3, g3⟩ := u3
  have m0 : min (r.to.length : Int) 20 = (((r.to.take 20).length : Nat) : Int) := by rw [List.length_take]; omega
  have m1 : min (r.fin.length : Int) 20 = (((r.fin.take 20).length : Nat) : Int) := by rw [List.length_take]; omega
  have m2 : min (r.fail.length : Int) 20 = (((r.fail.take 20).length : Nat) : Int) := by rw [List.length_take]; omega
  have m3 : min (r.which.length : Int) 130 = (((r.which.take 130).length : Nat) : Int) := by rw [List.length_take]; omega
  have y3 : sub? (Jah r s) 3 2 = some [.string r.sl, .string r.sd] := rfl
  have y5 : sub? (Jah r s) 5 1 = some [s.to] := rfl
  have y6 : sub? (Jah r s) 6 1 = some [.string r.content] := rfl
  have y7 : sub? (Jah r s) 7 1 = some [s.fin] := rfl
  have y8 : sub? (Jah r s) 8 1 = some [s.fail] := rfl
  have y9 : sub? (Jah r s) 9 1 = some [s.which] := rfl
  rw [e0] at y5
  rw [e1] at y7
  rw [e2] at y8
  rw [e3] at y9
  rw [Jey, Jb8]
  simp (maxSteps := 1000000) (disch := first | omega | decide +kernel | (simp only [symN] <;> omega) | assumption) only [Jdj, Jac, reduceIte, Nat.reduceEqDiff, Nat.reduceAdd, Nat.reduceMul]
  refine Jff (fun env τ => ∃ R P, eget env 1 = .pointer (some ⟨R, 0, none⟩) ∧ eget env 2 = .pointer (some ⟨P, 0, none⟩) ∧ τ.get R = some (.cells true 0 R (Jah r s)) ∧ τ.get P = some (.cells true 0 P Jly) ∧ Jad σ τ ∧ R < τ.next ∧ P < τ.next ∧ R ≠ P ∧ σ.next ≤ R ∧ σ.next ≤ P) ?_ ?_
  · refine ⟨σ.next, σ.next + 1, by simp [Jab], by simp [Jab], by simp, by simp [Jly, nilS], by (repeat (first | exact Jad.refl _ | apply Jad.bump' | apply Jad.setHint | refine Jad.setFam ?_ (by first | omega | (simp <;> omega)) | refine Jad.set ?_ (by first | omega | (simp <;> omega)))), by simp, by simp, by omega, Nat.le_refl _, by omega⟩
  rintro env τ ⟨R, P, v1, v2, gR, gP, hk, hRn, hPn, hRP, hRs, hPs⟩
  obtain ⟨x0, x1, x2, x3, x5, x6, x7, x8, x9, x10, x11, x12, x13⟩ := Jb7 gR
  simp only [Jah, e0, e1, e2, e3] at x13
  rw [Jey, Jb8]
  have qa := lt_q hRn
  have qb := Jb9 hRn
  have qc := lt_q hPn
  have qd := Jb9 hPn
  simp (maxSteps := 1000000) (disch := first | omega | decide +kernel | (simp only [symN] <;> omega) | assumption) only [Jdj, Jac, reduceIte, Nat.reduceEqDiff, Nat.reduceAdd, Nat.reduceMul, v1, x13, qa, qb, qc, qd]
  refine Jff (fun env' τ' => ∃ O, eget env' 1 = .pointer (some ⟨R, 0, none⟩) ∧ eget env' 2 = .pointer (some ⟨P, 0, none⟩) ∧ eget env' 3 = .pointer (some ⟨O, 0, none⟩) ∧ FAt σ τ' R P O (Jah r s) Jly (Jah r s)) ?_ ?_
  · exact ⟨τ.next + 1, by simp [Jab, v1], by simp [Jab, v2], by simp [Jab], by simp [qa, gR], by simp [qc, gP], ⟨1, by simp [Jah, e0, e1, e2, e3]⟩, by (simp <;> omega), by (simp <;> omega), by simp, hRs, hPs, by omega, hRP, by omega, by omega, hk.trans (by (repeat (first | exact Jad.refl _ | apply Jad.bump' | apply Jad.setHint | refine Jad.setFam ?_ (by first | omega | (simp <;> omega)) | refine Jad.set ?_ (by first | omega | (simp <;> omega)))))⟩
  clear x0 x1 x2 x3 x5 x6 x7 x8 x9 x10 x11 x12 x13 qa qb qc qd v1 v2 gR gP hk hRn hPn hRP hRs hPs
  intro env' τ' hI
  obtain ⟨O, w1, w2, w3, H⟩ := hI
  obtain ⟨vo, rO⟩ := H.rO
  have rO' := rO
  simp only [Jah, e0, e1, e2, e3] at rO'
  have rR := H.rR
  have qOR := eq_false (fun e => H.RO e.symm : ¬ O = R)
  have qOP := eq_false (fun e => H.PO e.symm : ¬ O = P)
  have hRn := H.rn
  have hPn := H.pn
  have hOn := H.on
  have hRs := H.sr
  have hPs := H.sp
  have hOs := H.so
  simp (maxSteps := 1000000) (disch := first | omega | decide +kernel | (simp only [symN] <;> omega) | assumption) only [Tryz.f12, Jaa, Jac, reduceIte, Nat.reduceEqDiff, Nat.reduceAdd, Nat.reduceMul, true_and, and_self, w1, w2, w3, rR, rO', y3, y5, y6, y7, y8, y9]
  refine Ja3 (Jcm r.sl r.sd _) ?_
  unfold Jbb
  simp (maxSteps := 1000000) (disch := first | omega | decide +kernel | (simp only [symN] <;> omega) | assumption) only [Jaa, Jac, reduceIte, Nat.reduceEqDiff, Nat.reduceAdd, Nat.reduceMul, true_and, and_self, w1, w2, w3, rR, rO', y3, y5, y6, y7, y8, y9]
  refine Ja3 (Jc9 r.content 9000 _) ?_
  simp (maxSteps := 1000000) (disch := first | omega | decide +kernel | (simp only [symN] <;> omega) | assumption) only [Jaa, Jac, reduceIte, Nat.reduceEqDiff, Nat.reduceAdd, Nat.reduceMul, true_and, and_self, w1, w2, w3, rR, rO', qOR, y3, y5, y6, y7, y8, y9, m3, f3]
  refine Ja9 (fun τ'' => FAt σ τ'' R P O (Jah r s) Jly (outC r nilS nilS nilS (.slice b3 r.which.length k3))) ⟨by simp [qOR, qOP, H.rR], by simp [qOR, qOP, H.rP], ⟨vo + 1 + 1 + 1 + 1 + 1, by simp [qOR, qOP, outC, nilS]⟩, Nat.lt_of_lt_of_le H.rn (by (simp <;> omega)), Nat.lt_of_lt_of_le H.pn (by (simp <;> omega)), Nat.lt_of_lt_of_le H.on (by (simp <;> omega)), H.sr, H.sp, H.so, H.RP, H.RO, H.PO, by repeat (first | exact H.keeps | apply Jad.bump' | apply Jad.setHint | refine Jad.setFam ?_ (by first | omega | (simp <;> omega)) | refine Jad.set ?_ (by first | omega | (simp <;> omega)))⟩ ?_
  intro τ2 H
  have hO2 := H.on
  have hP2 := H.pn
  have hb2 := H.keeps.next
  refine Jbc (Jp9 (r.which.take 130) _ σ τ2 hw H.keeps g3.sl (by rw [List.length_take]; omega)) ?_
  intro v τ3 hQ
  obtain ⟨hK3, hN⟩ := hQ
  replace H := H.keep hK3
  have hOn := H.on
  have hb3 := H.keeps.next
  obtain ⟨bw, kw, hv⟩ := hN.shape
  subst hv
  rw [List.length_map] at hN
  obtain ⟨vo, rO⟩ := H.rO
  have rO' := rO
  simp only [outC, nilS] at rO'
  have rR := H.rR
  simp (maxSteps := 1000000) (disch := first | omega | decide +kernel | (simp only [symN] <;> omega) | assumption) only [Jaa, Jac, reduceIte, Nat.reduceEqDiff, Nat.reduceAdd, Nat.reduceMul, true_and, and_self, w1, w2, w3, rR, rO', qOR, y3, y5, y6, y7, y8, y9, m0, f0, List.length_map]
  have hOb_τa : O < τ3.next := H.on
  have hRb_τa : R < τ3.next := H.rn
  have hPb_τa : P < τ3.next := H.pn
  refine Jay (Jaf _) Jae (fun kk env' (τ' : St) => ∃ i bT kT, i + kk = (r.to.take 20).length ∧ FAt σ τ' R P O (Jah r s) Jly (outC r (.slice bT i kT) nilS nilS (.slice bw (r.which.take 130).length kw)) ∧ Jfy O τ3 τ' ∧ RowN τ3 τ' 2 (.slice bT i kT) (((r.to.take 20).take i).map fun p => Jbz (fewA p)) ∧ eget env' 1 = .pointer (some ⟨R, 0, none⟩) ∧ eget env' 2 = .pointer (some ⟨P, 0, none⟩) ∧ eget env' 3 = .pointer (some ⟨O, 0, none⟩) ∧ eget env' 37 = .slice d0 (r.to.take 20).length j0 ∧ eget env' 38 = .int .i64 ((r.to.take 20).length : Nat) ∧ eget env' 39 = .int .i64 (i : Nat)) (n := (r.to.take 20).length) (by kernel_rfl) ?_ ?_
  · refine ⟨0, none, 0, by omega, ⟨by simp [qOR, qOP, H.rR], by simp [qOR, qOP, H.rP], ⟨vo + 1, by simp [qOR, qOP, outC, nilS]⟩, Nat.lt_of_lt_of_le H.rn (by (simp <;> omega)), Nat.lt_of_lt_of_le H.pn (by (simp <;> omega)), Nat.lt_of_lt_of_le H.on (by (simp <;> omega)), H.sr, H.sp, H.so, H.RP, H.RO, H.PO, by repeat (first | exact H.keeps | apply Jad.bump' | apply Jad.setHint | refine Jad.setFam ?_ (by first | omega | (simp <;> omega)) | refine Jad.set ?_ (by first | omega | (simp <;> omega)))⟩, ?_, .inl ⟨by simp, rfl⟩, by simp [Jab, w1], by simp [Jab, w2], by simp [Jab, w3], by simp [Jab], by simp [Jab], by simp [Jab]⟩
    refine ⟨by (simp <;> omega), fun B hB hBO => ?_⟩
    have eO : (O = B) = False := eq_false (fun e => hBO e.symm)
    simp [eO]
  intro kk env1 τa hI
  obtain ⟨i, bT, kT, hi, H, hKO_τa, hR_τa, w1, w2, w3, ws, wl, wi⟩ := hI
  obtain ⟨vo, rO⟩ := H.rO
  have rO' := rO
  simp only [outC, nilS] at rO'
  have rR := H.rR
  have rP := H.rP
  have qR := lt_q H.rn
  have qP := lt_q H.pn
  have qO := lt_q H.on
  have qRr := Jb9 H.rn
  have qPr := Jb9 H.pn
  have qOr := Jb9 H.on
  have qOR := eq_false (fun e => H.RO e.symm : ¬ O = R)
  have qOP := eq_false (fun e => H.PO e.symm : ¬ O = P)
  have hTl : (r.to.take 20).length ≤ 1000000000 := by rw [List.length_take]; omega
  have hbn := hKO_τa.next
  have hRs := H.sr
  have hPs := H.sp
  have hOs := H.so
  have hRn := H.rn
  have hPn := H.pn
  have hOn := H.on
  by_cases hk0 : kk = 0
  case neg =>
    obtain ⟨k9, rfl⟩ : ∃ k9, kk = k9 + 1 := ⟨kk - 1, by omega⟩
    have hil : i < (r.to.take 20).length := by omega
    have hlt : ((i : Int) < ((r.to.take 20).length : Int)) = True := eq_true (by omega)
    have hr0 : ∃ A' o k', Value.slice d0 (r.to.take 20).length j0 = .slice (some ⟨A', o, none⟩) (r.to.take 20).length k' ∧ ∀ m, rdG (τa.bump m) (τa.get A') (o + i * 2) 2 = some (Jbz (r.to.take 20)[i]) := by
      rcases (g0.sl.keeps hw H.keeps) with ⟨hnil, _⟩ | ⟨A', o, k', cc, h1, hcc, hr⟩
      · have e : (r.to.take 20).length = 0 := by simpa using congrArg List.length hnil
        omega
      · refine ⟨A', o, k', by rw [h1, List.length_map], fun m => ?_⟩
        have := SlR.rd (k := 0) hcc hr (i := i) (by simpa using hil) m
        rw [this]; simp
    obtain ⟨A', o, k', hsl, hrd⟩ := hr0
    rw [hsl] at ws
    have ib : ((i : Nat) : Int) < (((r.to.take 20).length : Nat) : Int) := by omega
    have ib0 : (0 : Int) ≤ ((i : Nat) : Int) := by omega
    have wi1 : IntKind.i64.wrap ((i : Int) + 1) = ((i + 1 : Nat) : Int) := Jbt i 1 (by omega)
    simp only [Jbz, Jbb] at hrd
    rcases hR_τa with ⟨hnil, hv⟩ | ⟨A, ver, F, hv, hA, hAs, hAn, hFs⟩
    · cases hv
      simp only [Nat.zero_mul, Nat.add_zero] at hrd
      simp (maxSteps := 1000000) (disch := first | omega | decide +kernel | (simp only [symN] <;> omega) | assumption) only [Jaa, Jac, reduceIte, Nat.reduceEqDiff, Nat.reduceAdd, Nat.reduceMul, Nat.add_assoc, Nat.add_left_cancel_iff, true_and, and_self, w1, w2, w3, ws, wl, wi, wi1, hlt, hrd, ib, ib0, rO', rR, qR, qP, qO, qRr, qPr, qOr, qOR, qOP, Jjk, Jjg]
      refine Ja3 (Jcm _ _ _) ?_
      simp (maxSteps := 1000000) (disch := first | omega | decide +kernel | (simp only [symN] <;> omega) | assumption) only [Jaa, Jac, reduceIte, Nat.reduceEqDiff, Nat.reduceAdd, Nat.reduceMul, Nat.add_assoc, Nat.add_left_cancel_iff, true_and, and_self, w1, w2, w3, ws, wl, wi, wi1, hlt, hrd, ib, ib0, rO', rR, qR, qP, qO, qRr, qPr, qOr, qOR, qOP, Jjk, Jjg, Jbb]
      refine ⟨k9, by omega, 0 + 1, some ⟨τa.next + 10, 0, none⟩, 2 + 1, by omega, ⟨by simp [qR, qP, qO, qOR, qOP, H.rR], by simp [qR, qP, qO, qOR, qOP, H.rP], ⟨vo + 1, by simp [qR, qP, qO, qOR, qOP, outC, nilS]⟩, Nat.lt_of_lt_of_le H.rn (by (simp <;> omega)), Nat.lt_of_lt_of_le H.pn (by (simp <;> omega)), Nat.lt_of_lt_of_le H.on (by (simp <;> omega)), H.sr, H.sp, H.so, H.RP, H.RO, H.PO, by repeat (first | exact H.keeps | apply Jad.bump' | apply Jad.setHint | refine Jad.setFam ?_ (by first | omega | (simp <;> omega)) | refine Jad.set ?_ (by first | omega | (simp <;> omega)))⟩, ?_, .inr ⟨τa.next + 10, 0, τa.next + 10, ?_, ?_, by omega, by (simp <;> omega), by omega⟩, by first | exact hsl.symm | exact ⟨hsl.symm, rfl⟩ | exact ⟨hsl.symm, trivial⟩⟩
      · refine ⟨by (simp <;> omega), fun B hB hBO => ?_⟩
        have eO : (O = B) = False := eq_false (fun e => hBO e.symm)
        have eN : ∀ k, (τa.next + k = B) = False := fun k => eq_false (by omega)
        refine Eq.trans ?_ (hKO_τa.get B hB hBO)
        simp [eO, eN]
      · rw [List.length_map, List.length_take, Nat.min_eq_left (by omega)]
      · rw [List.take_succ_eq_append_getElem hil, List.map_append, List.flatten_append]
        simp [qO, qOr, Jbz, fewA, Jbb]
    · simp only [Value.slice.injEq] at hv
      obtain ⟨rfl, _, rfl⟩ := hv
      obtain ⟨C, hC⟩ : ∃ C, C = (((r.to.take 20).take i).map fun p => Jbz (fewA p)).flatten := ⟨_, rfl⟩
      rw [← hC] at hA
      have hCl : C.length = i * 2 := by
        rw [hC, Jdp (f := fun p => Jbz (fewA p)) (n := 2) (fun x => rfl), List.length_take, Nat.min_eq_left (by omega)]
      have qA := lt_q hAn
      have qAr := Jb9 hAn
      have qAO : (A = O) = False := eq_false (by omega)
      have qOA : (O = A) = False := eq_false (by omega)
      have qAR : (A = R) = False := eq_false (by omega)
      have qAP : (A = P) = False := eq_false (by omega)
      have hi9 : i ≤ 1000000000 := by omega
      simp (maxSteps := 1000000) (disch := first | omega | decide +kernel | (simp only [symN] <;> omega) | assumption) only [Jaa, Jac, reduceIte, Nat.reduceEqDiff, Nat.reduceAdd, Nat.reduceMul, Nat.add_assoc, Nat.add_left_cancel_iff, true_and, and_self, w1, w2, w3, ws, wl, wi, wi1, hlt, hrd, ib, ib0, rO', rR, qR, qP, qO, qRr, qPr, qOr, qOR, qOP, Jjk, Jjg, hA, qA, qAr, qAO, qOA, qAR, qAP]
      refine Ja3 (Jcm _ _ _) ?_
      simp (maxSteps := 1000000) (disch := first | omega | decide +kernel | (simp only [symN] <;> omega) | assumption) only [Jaa, Jac, reduceIte, Nat.reduceEqDiff, Nat.reduceAdd, Nat.reduceMul, Nat.add_assoc, Nat.add_left_cancel_iff, true_and, and_self, w1, w2, w3, ws, wl, wi, wi1, hlt, hrd, ib, ib0, rO', rR, qR, qP, qO, qRr, qPr, qOr, qOR, qOP, Jjk, Jjg, hA, qA, qAr, qAO, qOA, qAR, qAP, Jbb]
      refine ⟨k9, by omega, i + 1, some ⟨τa.next + 10, 0, none⟩, 2 + 1, by omega, ⟨by simp [qR, qP, qO, qOR, qOP, qA, qAO, qAR, qAP, H.rR], by simp [qR, qP, qO, qOR, qOP, qA, qAO, qAR, qAP, H.rP], ⟨vo + 1, by simp [qR, qP, qO, qOR, qOP, qA, qAO, qAR, qAP, outC, nilS]⟩, Nat.lt_of_lt_of_le H.rn (by (simp <;> omega)), Nat.lt_of_lt_of_le H.pn (by (simp <;> omega)), Nat.lt_of_lt_of_le H.on (by (simp <;> omega)), H.sr, H.sp, H.so, H.RP, H.RO, H.PO, by repeat (first | exact H.keeps | apply Jad.bump' | apply Jad.setHint | refine Jad.setFam ?_ (by first | omega | (simp <;> omega)) | refine Jad.set ?_ (by first | omega | (simp <;> omega)))⟩, ?_, .inr ⟨τa.next + 10, ver, F, ?_, ?_, by omega, by (simp <;> omega), by omega⟩, by first | exact hsl.symm | exact ⟨hsl.symm, rfl⟩ | exact ⟨hsl.symm, trivial⟩⟩
      · refine ⟨by (simp <;> omega), fun B hB hBO => ?_⟩
        have eO : (O = B) = False := eq_false (fun e => hBO e.symm)
        have eN : ∀ k, (τa.next + k = B) = False := fun k => eq_false (by omega)
        have eA : (A = B) = False := eq_false (by omega)
        refine Eq.trans ?_ (hKO_τa.get B hB hBO)
        simp [eO, eN, eA]
      · rw [List.length_map, List.length_take, Nat.min_eq_left (by omega)]
      · rw [List.take_succ_eq_append_getElem hil, List.map_append, List.flatten_append, ← hC]
        simp [qO, qOr, qA, Jbz, fewA, Jbb]
  have hlt : ((i : Int) < ((r.to.take 20).length : Int)) = False := eq_false (by omega)
  obtain rfl : i = (r.to.take 20).length := by omega
  rw [List.take_of_length_le (Nat.le_refl _)] at hR_τa
  simp (maxSteps := 1000000) (disch := first | omega | decide +kernel | (simp only [symN] <;> omega) | assumption) only [Jaa, Jac, reduceIte, Nat.reduceEqDiff, Nat.reduceAdd, Nat.reduceMul, Nat.add_assoc, true_and, and_self, w1, w2, w3, ws, wl, wi, hlt, rO', rR, rP, qR, qP, qO, qRr, qPr, qOr, qOR, qOP, y7, m1, f1]
  have hOb_τb : O < τa.next := H.on
  have hRb_τb : R < τa.next := H.rn
  have hPb_τb : P < τa.next := H.pn
  refine Jay (Jaf _) Jae (fun kk env' (τ' : St) => ∃ i bF kF, i + kk = (r.fin.take 20).length ∧ FAt σ τ' R P O (Jah r s) Jly (outC r (.slice bT (r.to.take 20).length kT) (.slice bF i kF) nilS (.slice bw (r.which.take 130).length kw)) ∧ Jfy O τa τ' ∧ RowN τa τ' 9 (.slice bF i kF) (((r.fin.take 20).take i).map fun p => Jan.cells (fewF p)) ∧ eget env' 1 = .pointer (some ⟨R, 0, none⟩) ∧ eget env' 2 = .pointer (some ⟨P, 0, none⟩) ∧ eget env' 3 = .pointer (some ⟨O, 0, none⟩) ∧ eget env' 57 = .slice d1 (r.fin.take 20).length j1 ∧ eget env' 58 = .int .i64 ((r.fin.take 20).length : Nat) ∧ eget env' 59 = .int .i64 (i : Nat)) (n := (r.fin.take 20).length) (by kernel_rfl) ?_ ?_
  · refine ⟨0, none, 0, by omega, H.keep .bump, ?_, .inl ⟨by simp, rfl⟩, by simp [Jab, w1], by simp [Jab, w2], by simp [Jab, w3], by simp [Jab], by simp [Jab], by simp [Jab]⟩
    refine ⟨by (simp <;> omega), fun B hB hBO => ?_⟩
    have eO : (O = B) = False := eq_false (fun e => hBO e.symm)
    simp [eO]
  intro kk env1 τb hI
  obtain ⟨i, bF, kF, hi, H, hKO_τb, hR_τb, w1, w2, w3, ws, wl, wi⟩ := hI
  obtain ⟨vo, rO⟩ := H.rO
  have rO' := rO
  simp only [outC, nilS] at rO'
  have rR := H.rR
  have rP := H.rP
  have qR := lt_q H.rn
  have qP := lt_q H.pn
  have qO := lt_q H.on
  have qRr := Jb9 H.rn
  have qPr := Jb9 H.pn
  have qOr := Jb9 H.on
  have qOR := eq_false (fun e => H.RO e.symm : ¬ O = R)
  have qOP := eq_false (fun e => H.PO e.symm : ¬ O = P)
  have hTl : (r.fin.take 20).length ≤ 1000000000 := by rw [List.length_take]; omega
  have hbn := hKO_τb.next
  have hRs := H.sr
  have hPs := H.sp
  have hOs := H.so
  have hRn := H.rn
  have hPn := H.pn
  have hOn := H.on
  by_cases hk0 : kk = 0
  case neg =>
    obtain ⟨k9, rfl⟩ : ∃ k9, kk = k9 + 1 := ⟨kk - 1, by omega⟩
    have hil : i < (r.fin.take 20).length := by omega
    have hlt : ((i : Int) < ((r.fin.take 20).length : Int)) = True := eq_true (by omega)
    have hr0 : ∃ A' o k', Value.slice d1 (r.fin.take 20).length j1 = .slice (some ⟨A', o, none⟩) (r.fin.take 20).length k' ∧ ∀ m, rdG (τb.bump m) (τb.get A') (o + i * 9) 9 = some (Jan.cells (r.fin.take 20)[i]) := by
      rcases (g1.sl.keeps hw H.keeps) with ⟨hnil, _⟩ | ⟨A', o, k', cc, h1, hcc, hr⟩
      · have e : (r.fin.take 20).length = 0 := by simpa using congrArg List.length hnil
        omega
      · refine ⟨A', o, k', by rw [h1, List.length_map], fun m => ?_⟩
        have := SlR.rd (k := 0) hcc hr (i := i) (by simpa using hil) m
        rw [this]; simp
    obtain ⟨A', o, k', hsl, hrd⟩ := hr0
    rw [hsl] at ws
    have ib : ((i : Nat) : Int) < (((r.fin.take 20).length : Nat) : Int) := by omega
    have ib0 : (0 : Int) ≤ ((i : Nat) : Int) := by omega
    have wi1 : IntKind.i64.wrap ((i : Int) + 1) = ((i + 1 : Nat) : Int) := Jbt i 1 (by omega)
    simp only [Jan.cells] at hrd
    rcases hR_τb with ⟨hnil, hv⟩ | ⟨A, ver, F, hv, hA, hAs, hAn, hFs⟩
    · cases hv
      simp only [Nat.zero_mul, Nat.add_zero] at hrd
      simp (maxSteps := 1000000) (disch := first | omega | decide +kernel | (simp only [symN] <;> omega) | assumption) only [Jaa, Jac, reduceIte, Nat.reduceEqDiff, Nat.reduceAdd, Nat.reduceMul, Nat.add_assoc, Nat.add_left_cancel_iff, true_and, and_self, w1, w2, w3, ws, wl, wi, wi1, hlt, hrd, ib, ib0, rO', rR, qR, qP, qO, qRr, qPr, qOr, qOR, qOP, Jce, Jcd]
      refine Ja3 (Jcm _ _ _) ?_
      simp (maxSteps := 1000000) (disch := first | omega | decide +kernel | (simp only [symN] <;> omega) | assumption) only [Jaa, Jac, reduceIte, Nat.reduceEqDiff, Nat.reduceAdd, Nat.reduceMul, Nat.add_assoc, Nat.add_left_cancel_iff, true_and, and_self, w1, w2, w3, ws, wl, wi, wi1, hlt, hrd, ib, ib0, rO', rR, qR, qP, qO, qRr, qPr, qOr, qOR, qOP, Jce, Jcd, Jbb]
      refine Ja3 (Jc9 _ 80 _) ?_
      simp (maxSteps := 1000000) (disch := first | omega | decide +kernel | (simp only [symN] <;> omega) | assumption) only [Jaa, Jac, reduceIte, Nat.reduceEqDiff, Nat.reduceAdd, Nat.reduceMul, Nat.add_assoc, Nat.add_left_cancel_iff, true_and, and_self, w1, w2, w3, ws, wl, wi, wi1, hlt, hrd, ib, ib0, rO', rR, qR, qP, qO, qRr, qPr, qOr, qOR, qOP, Jce, Jcd, Jbb]
      refine Ja3 (Jc9 _ 300 _) ?_
      simp (maxSteps := 1000000) (disch := first | omega | decide +kernel | (simp only [symN] <;> omega) | assumption) only [Jaa, Jac, reduceIte, Nat.reduceEqDiff, Nat.reduceAdd, Nat.reduceMul, Nat.add_assoc, Nat.add_left_cancel_iff, true_and, and_self, w1, w2, w3, ws, wl, wi, wi1, hlt, hrd, ib, ib0, rO', rR, qR, qP, qO, qRr, qPr, qOr, qOR, qOP, Jce, Jcd, Jbb]
      refine Ja3 (Jcm _ _ _) ?_
      simp (maxSteps := 1000000) (disch := first | omega | decide +kernel | (simp only [symN] <;> omega) | assumption) only [Jaa, Jac, reduceIte, Nat.reduceEqDiff, Nat.reduceAdd, Nat.reduceMul, Nat.add_assoc, Nat.add_left_cancel_iff, true_and, and_self, w1, w2, w3, ws, wl, wi, wi1, hlt, hrd, ib, ib0, rO', rR, qR, qP, qO, qRr, qPr, qOr, qOR, qOP, Jce, Jcd, Jbb]
      refine Ja3 (Jcm _ _ _) ?_
      simp (maxSteps := 1000000) (disch := first | omega | decide +kernel | (simp only [symN] <;> omega) | assumption) only [Jaa, Jac, reduceIte, Nat.reduceEqDiff, Nat.reduceAdd, Nat.reduceMul, Nat.add_assoc, Nat.add_left_cancel_iff, true_and, and_self, w1, w2, w3, ws, wl, wi, wi1, hlt, hrd, ib, ib0, rO', rR, qR, qP, qO, qRr, qPr, qOr, qOR, qOP, Jce, Jcd, Jbb]
      refine ⟨k9, by omega, 0 + 1, some ⟨τb.next + 26, 0, none⟩, 9 + 1, by omega, ⟨by simp [qR, qP, qO, qOR, qOP, H.rR], by simp [qR, qP, qO, qOR, qOP, H.rP], ⟨vo + 1, by simp [qR, qP, qO, qOR, qOP, outC, nilS]⟩, Nat.lt_of_lt_of_le H.rn (by (simp <;> omega)), Nat.lt_of_lt_of_le H.pn (by (simp <;> omega)), Nat.lt_of_lt_of_le H.on (by (simp <;> omega)), H.sr, H.sp, H.so, H.RP, H.RO, H.PO, by repeat (first | exact H.keeps | apply Jad.bump' | apply Jad.setHint | refine Jad.setFam ?_ (by first | omega | (simp <;> omega)) | refine Jad.set ?_ (by first | omega | (simp <;> omega)))⟩, ?_, .inr ⟨τb.next + 26, 0, τb.next + 26, ?_, ?_, by omega, by (simp <;> omega), by omega⟩, by first | exact hsl.symm | exact ⟨hsl.symm, rfl⟩ | exact ⟨hsl.symm, trivial⟩⟩
      · refine ⟨by (simp <;> omega), fun B hB hBO => ?_⟩
        have eO : (O = B) = False := eq_false (fun e => hBO e.symm)
        have eN : ∀ k, (τb.next + k = B) = False := fun k => eq_false (by omega)
        refine Eq.trans ?_ (hKO_τb.get B hB hBO)
        simp [eO, eN]
      · rw [List.length_map, List.length_take, Nat.min_eq_left (by omega)]
      · rw [List.take_succ_eq_append_getElem hil, List.map_append, List.flatten_append]
        simp [qO, qOr, Jan.cells, fewF]
    · simp only [Value.slice.injEq] at hv
      obtain ⟨rfl, _, rfl⟩ := hv
      obtain ⟨C, hC⟩ : ∃ C, C = (((r.fin.take 20).take i).map fun p => Jan.cells (fewF p)).flatten := ⟨_, rfl⟩
      rw [← hC] at hA
      have hCl : C.length = i * 9 := by
        rw [hC, Jdp (f := fun p => Jan.cells (fewF p)) (n := 9) (fun x => rfl), List.length_take, Nat.min_eq_left (by omega)]
      have qA := lt_q hAn
      have qAr := Jb9 hAn
      have qAO : (A = O) = False := eq_false (by omega)
      have qOA : (O = A) = False := eq_false (by omega)
      have qAR : (A = R) = False := eq_false (by omega)
      have qAP : (A = P) = False := eq_false (by omega)
      have hi9 : i ≤ 1000000000 := by omega
      simp (maxSteps := 1000000) (disch := first | omega | decide +kernel | (simp only [symN] <;> omega) | assumption) only [Jaa, Jac, reduceIte, Nat.reduceEqDiff, Nat.reduceAdd, Nat.reduceMul, Nat.add_assoc, Nat.add_left_cancel_iff, true_and, and_self, w1, w2, w3, ws, wl, wi, wi1, hlt, hrd, ib, ib0, rO', rR, qR, qP, qO, qRr, qPr, qOr, qOR, qOP, Jce, Jcd, hA, qA, qAr, qAO, qOA, qAR, qAP]
      refine Ja3 (Jcm _ _ _) ?_
      simp (maxSteps := 1000000) (disch := first | omega | decide +kernel | (simp only [symN] <;> omega) | assumption) only [Jaa, Jac, reduceIte, Nat.reduceEqDiff, Nat.reduceAdd, Nat.reduceMul, Nat.add_assoc, Nat.add_left_cancel_iff, true_and, and_self, w1, w2, w3, ws, wl, wi, wi1, hlt, hrd, ib, ib0, rO', rR, qR, qP, qO, qRr, qPr, qOr, qOR, qOP, Jce, Jcd, hA, qA, qAr, qAO, qOA, qAR, qAP, Jbb]
      refine Ja3 (Jc9 _ 80 _) ?_
      simp (maxSteps := 1000000) (disch := first | omega | decide +kernel | (simp only [symN] <;> omega) | assumption) only [Jaa, Jac, reduceIte, Nat.reduceEqDiff, Nat.reduceAdd, Nat.reduceMul, Nat.add_assoc, Nat.add_left_cancel_iff, true_and, and_self, w1, w2, w3, ws, wl, wi, wi1, hlt, hrd, ib, ib0, rO', rR, qR, qP, qO, qRr, qPr, qOr, qOR, qOP, Jce, Jcd, hA, qA, qAr, qAO, qOA, qAR, qAP, Jbb]
      refine Ja3 (Jc9 _ 300 _) ?_
      simp (maxSteps := 1000000) (disch := first | omega | decide +kernel | (simp only [symN] <;> omega) | assumption) only [Jaa, Jac, reduceIte, Nat.reduceEqDiff, Nat.reduceAdd, Nat.reduceMul, Nat.add_assoc, Nat.add_left_cancel_iff, true_and, and_self, w1, w2, w3, ws, wl, wi, wi1, hlt, hrd, ib, ib0, rO', rR, qR, qP, qO, qRr, qPr, qOr, qOR, qOP, Jce, Jcd, hA, qA, qAr, qAO, qOA, qAR, qAP, Jbb]
      refine Ja3 (Jcm _ _ _) ?_
      simp (maxSteps := 1000000) (disch := first | omega | decide +kernel | (simp only [symN] <;> omega) | assumption) only [Jaa, Jac, reduceIte, Nat.reduceEqDiff, Nat.reduceAdd, Nat.reduceMul, Nat.add_assoc, Nat.add_left_cancel_iff, true_and, and_self, w1, w2, w3, ws, wl, wi, wi1, hlt, hrd, ib, ib0, rO', rR, qR, qP, qO, qRr, qPr, qOr, qOR, qOP, Jce, Jcd, hA, qA, qAr, qAO, qOA, qAR, qAP, Jbb]
      refine Ja3 (Jcm _ _ _) ?_
      simp (maxSteps := 1000000) (disch := first | omega | decide +kernel | (simp only [symN] <;> omega) | assumption) only [Jaa, Jac, reduceIte, Nat.reduceEqDiff, Nat.reduceAdd, Nat.reduceMul, Nat.add_assoc, Nat.add_left_cancel_iff, true_and, and_self, w1, w2, w3, ws, wl, wi, wi1, hlt, hrd, ib, ib0, rO', rR, qR, qP, qO, qRr, qPr, qOr, qOR, qOP, Jce, Jcd, hA, qA, qAr, qAO, qOA, qAR, qAP, Jbb]
      refine ⟨k9, by omega, i + 1, some ⟨τb.next + 26, 0, none⟩, 9 + 1, by omega, ⟨by simp [qR, qP, qO, qOR, qOP, qA, qAO, qAR, qAP, H.rR], by simp [qR, qP, qO, qOR, qOP, qA, qAO, qAR, qAP, H.rP], ⟨vo + 1, by simp [qR, qP, qO, qOR, qOP, qA, qAO, qAR, qAP, outC, nilS]⟩, Nat.lt_of_lt_of_le H.rn (by (simp <;> omega)), Nat.lt_of_lt_of_le H.pn (by (simp <;> omega)), Nat.lt_of_lt_of_le H.on (by (simp <;> omega)), H.sr, H.sp, H.so, H.RP, H.RO, H.PO, by repeat (first | exact H.keeps | apply Jad.bump' | apply Jad.setHint | refine Jad.setFam ?_ (by first | omega | (simp <;> omega)) | refine Jad.set ?_ (by first | omega | (simp <;> omega)))⟩, ?_, .inr ⟨τb.next + 26, ver, F, ?_, ?_, by omega, by (simp <;> omega), by omega⟩, by first | exact hsl.symm | exact ⟨hsl.symm, rfl⟩ | exact ⟨hsl.symm, trivial⟩⟩
      · refine ⟨by (simp <;> omega), fun B hB hBO => ?_⟩
        have eO : (O = B) = False := eq_false (fun e => hBO e.symm)
        have eN : ∀ k, (τb.next + k = B) = False := fun k => eq_false (by omega)
        have eA : (A = B) = False := eq_false (by omega)
        refine Eq.trans ?_ (hKO_τb.get B hB hBO)
        simp [eO, eN, eA]
      · rw [List.length_map, List.length_take, Nat.min_eq_left (by omega)]
      · rw [List.take_succ_eq_append_getElem hil, List.map_append, List.flatten_append, ← hC]
        simp [qO, qOr, qA, Jan.cells, fewF]
  have hlt : ((i : Int) < ((r.fin.take 20).length : Int)) = False := eq_false (by omega)
  obtain rfl : i = (r.fin.take 20).length := by omega
  rw [List.take_of_length_le (Nat.le_refl _)] at hR_τb
  simp (maxSteps := 1000000) (disch := first | omega | decide +kernel | (simp only [symN] <;> omega) | assumption) only [Jaa, Jac, reduceIte, Nat.reduceEqDiff, Nat.reduceAdd, Nat.reduceMul, Nat.add_assoc, true_and, and_self, w1, w2, w3, ws, wl, wi, hlt, rO', rR, rP, qR, qP, qO, qRr, qPr, qOr, qOR, qOP, y8, m2, f2]
  have hOb_τc : O < τb.next := H.on
  have hRb_τc : R < τb.next := H.rn
  have hPb_τc : P < τb.next := H.pn
  refine Jay (Jaf _) Jae (fun kk env' (τ' : St) => ∃ i bX kX, i + kk = (r.fail.take 20).length ∧ FAt σ τ' R P O (Jah r s) Jly (outC r (.slice bT (r.to.take 20).length kT) (.slice bF (r.fin.take 20).length kF) (.slice bX i kX) (.slice bw (r.which.take 130).length kw)) ∧ Jfy O τb τ' ∧ RowN τb τ' 4 (.slice bX i kX) (((r.fail.take 20).take i).map fun p => Jaw.cells (fewX p)) ∧ eget env' 1 = .pointer (some ⟨R, 0, none⟩) ∧ eget env' 2 = .pointer (some ⟨P, 0, none⟩) ∧ eget env' 3 = .pointer (some ⟨O, 0, none⟩) ∧ eget env' 93 = .slice d2 (r.fail.take 20).length j2 ∧ eget env' 94 = .int .i64 ((r.fail.take 20).length : Nat) ∧ eget env' 95 = .int .i64 (i : Nat)) (n := (r.fail.take 20).length) (by kernel_rfl) ?_ ?_
  · refine ⟨0, none, 0, by omega, H.keep .bump, ?_, .inl ⟨by simp, rfl⟩, by simp [Jab, w1], by simp [Jab, w2], by simp [Jab, w3], by simp [Jab], by simp [Jab], by simp [Jab]⟩
    refine ⟨by (simp <;> omega), fun B hB hBO => ?_⟩
    have eO : (O = B) = False := eq_false (fun e => hBO e.symm)
    simp [eO]
  intro kk env1 τc hI
  obtain ⟨i, bX, kX, hi, H, hKO_τc, hR_τc, w1, w2, w3, ws, wl, wi⟩ := hI
  obtain ⟨vo, rO⟩ := H.rO
  have rO' := rO
  simp only [outC, nilS] at rO'
  have rR := H.rR
  have rP := H.rP
  have qR := lt_q H.rn
  have qP := lt_q H.pn
  have qO := lt_q H.on
  have qRr := Jb9 H.rn
  have qPr := Jb9 H.pn
  have qOr := Jb9 H.on
  have qOR := eq_false (fun e => H.RO e.symm : ¬ O = R)
  have qOP := eq_false (fun e => H.PO e.symm : ¬ O = P)
  have hTl : (r.fail.take 20).length ≤ 1000000000 := by rw [List.length_take]; omega
  have hbn := hKO_τc.next
  have hRs := H.sr
  have hPs := H.sp
  have hOs := H.so
  have hRn := H.rn
  have hPn := H.pn
  have hOn := H.on
  by_cases hk0 : kk = 0
  case neg =>
    obtain ⟨k9, rfl⟩ : ∃ k9, kk = k9 + 1 := ⟨kk - 1, by omega⟩
    have hil : i < (r.fail.take 20).length := by omega
    have hlt : ((i : Int) < ((r.fail.take 20).length : Int)) = True := eq_true (by omega)
    have hr0 : ∃ A' o k', Value.slice d2 (r.fail.take 20).length j2 = .slice (some ⟨A', o, none⟩) (r.fail.take 20).length k' ∧ ∀ m, rdG (τc.bump m) (τc.get A') (o + i * 4) 4 = some (Jaw.cells (r.fail.take 20)[i]) := by
      rcases (g2.sl.keeps hw H.keeps) with ⟨hnil, _⟩ | ⟨A', o, k', cc, h1, hcc, hr⟩
      · have e : (r.fail.take 20).length = 0 := by simpa using congrArg List.length hnil
        omega
      · refine ⟨A', o, k', by rw [h1, List.length_map], fun m => ?_⟩
        have := SlR.rd (k := 0) hcc hr (i := i) (by simpa using hil) m
        rw [this]; simp
    obtain ⟨A', o, k', hsl, hrd⟩ := hr0
    rw [hsl] at ws
    have ib : ((i : Nat) : Int) < (((r.fail.take 20).length : Nat) : Int) := by omega
    have ib0 : (0 : Int) ≤ ((i : Nat) : Int) := by omega
    have wi1 : IntKind.i64.wrap ((i : Int) + 1) = ((i + 1 : Nat) : Int) := Jbt i 1 (by omega)
    simp only [Jaw.cells] at hrd
    rcases hR_τc with ⟨hnil, hv⟩ | ⟨A, ver, F, hv, hA, hAs, hAn, hFs⟩
    · cases hv
      simp only [Nat.zero_mul, Nat.add_zero] at hrd
      simp (maxSteps := 1000000) (disch := first | omega | decide +kernel | (simp only [symN] <;> omega) | assumption) only [Jaa, Jac, reduceIte, Nat.reduceEqDiff, Nat.reduceAdd, Nat.reduceMul, Nat.add_assoc, Nat.add_left_cancel_iff, true_and, and_self, w1, w2, w3, ws, wl, wi, wi1, hlt, hrd, ib, ib0, rO', rR, qR, qP, qO, qRr, qPr, qOr, qOR, qOP, Jfe, Jfa]
      refine Ja3 (Jcm _ _ _) ?_
      simp (maxSteps := 1000000) (disch := first | omega | decide +kernel | (simp only [symN] <;> omega) | assumption) only [Jaa, Jac, reduceIte, Nat.reduceEqDiff, Nat.reduceAdd, Nat.reduceMul, Nat.add_assoc, Nat.add_left_cancel_iff, true_and, and_self, w1, w2, w3, ws, wl, wi, wi1, hlt, hrd, ib, ib0, rO', rR, qR, qP, qO, qRr, qPr, qOr, qOR, qOP, Jfe, Jfa, Jbb]
      refine Ja3 (Jc9 _ 250 _) ?_
      simp (maxSteps := 1000000) (disch := first | omega | decide +kernel | (simp only [symN] <;> omega) | assumption) only [Jaa, Jac, reduceIte, Nat.reduceEqDiff, Nat.reduceAdd, Nat.reduceMul, Nat.add_assoc, Nat.add_left_cancel_iff, true_and, and_self, w1, w2, w3, ws, wl, wi, wi1, hlt, hrd, ib, ib0, rO', rR, qR, qP, qO, qRr, qPr, qOr, qOR, qOP, Jfe, Jfa, Jbb]
      refine ⟨k9, by omega, 0 + 1, some ⟨τc.next + 17, 0, none⟩, 4 + 1, by omega, ⟨by simp [qR, qP, qO, qOR, qOP, H.rR], by simp [qR, qP, qO, qOR, qOP, H.rP], ⟨vo + 1, by simp [qR, qP, qO, qOR, qOP, outC, nilS]⟩, Nat.lt_of_lt_of_le H.rn (by (simp <;> omega)), Nat.lt_of_lt_of_le H.pn (by (simp <;> omega)), Nat.lt_of_lt_of_le H.on (by (simp <;> omega)), H.sr, H.sp, H.so, H.RP, H.RO, H.PO, by repeat (first | exact H.keeps | apply Jad.bump' | apply Jad.setHint | refine Jad.setFam ?_ (by first | omega | (simp <;> omega)) | refine Jad.set ?_ (by first | omega | (simp <;> omega)))⟩, ?_, .inr ⟨τc.next + 17, 0, τc.next + 17, ?_, ?_, by omega, by (simp <;> omega), by omega⟩, by first | exact hsl.symm | exact ⟨hsl.symm, rfl⟩ | exact ⟨hsl.symm, trivial⟩⟩
      · refine ⟨by (simp <;> omega), fun B hB hBO => ?_⟩
        have eO : (O = B) = False := eq_false (fun e => hBO e.symm)
        have eN : ∀ k, (τc.next + k = B) = False := fun k => eq_false (by omega)
        refine Eq.trans ?_ (hKO_τc.get B hB hBO)
        simp [eO, eN]
      · rw [List.length_map, List.length_take, Nat.min_eq_left (by omega)]
      · rw [List.take_succ_eq_append_getElem hil, List.map_append, List.flatten_append]
        simp [qO, qOr, Jaw.cells, fewX]
    · simp only [Value.slice.injEq] at hv
      obtain ⟨rfl, _, rfl⟩ := hv
      obtain ⟨C, hC⟩ : ∃ C, C = (((r.fail.take 20).take i).map fun p => Jaw.cells (fewX p)).flatten := ⟨_, rfl⟩
      rw [← hC] at hA
      have hCl : C.length = i * 4 := by
        rw [hC, Jdp (f := fun p => Jaw.cells (fewX p)) (n := 4) (fun x => rfl), List.length_take, Nat.min_eq_left (by omega)]
      have qA := lt_q hAn
      have qAr := Jb9 hAn
      have qAO : (A = O) = False := eq_false (by omega)
      have qOA : (O = A) = False := eq_false (by omega)
      have qAR : (A = R) = False := eq_false (by omega)
      have qAP : (A = P) = False := eq_false (by omega)
      have hi9 : i ≤ 1000000000 := by omega
      simp (maxSteps := 1000000) (disch := first | omega | decide +kernel | (simp only [symN] <;> omega) | assumption) only [Jaa, Jac, reduceIte, Nat.reduceEqDiff, Nat.reduceAdd, Nat.reduceMul, Nat.add_assoc, Nat.add_left_cancel_iff, true_and, and_self, w1, w2, w3, ws, wl, wi, wi1, hlt, hrd, ib, ib0, rO', rR, qR, qP, qO, qRr, qPr, qOr, qOR, qOP, Jfe, Jfa, hA, qA, qAr, qAO, qOA, qAR, qAP]
      refine Ja3 (Jcm _ _ _) ?_
      simp (maxSteps := 1000000) (disch := first | omega | decide +kernel | (simp only [symN] <;> omega) | assumption) only [Jaa, Jac, reduceIte, Nat.reduceEqDiff, Nat.reduceAdd, Nat.reduceMul, Nat.add_assoc, Nat.add_left_cancel_iff, true_and, and_self, w1, w2, w3, ws, wl, wi, wi1, hlt, hrd, ib, ib0, rO', rR, qR, qP, qO, qRr, qPr, qOr, qOR, qOP, Jfe, Jfa, hA, qA, qAr, qAO, qOA, qAR, qAP, Jbb]
      refine Ja3 (Jc9 _ 250 _) ?_
      simp (maxSteps := 1000000) (disch := first | omega | decide +kernel | (simp only [symN] <;> omega) | assumption) only [Jaa, Jac, reduceIte, Nat.reduceEqDiff, Nat.reduceAdd, Nat.reduceMul, Nat.add_assoc, Nat.add_left_cancel_iff, true_and, and_self, w1, w2, w3, ws, wl, wi, wi1, hlt, hrd, ib, ib0, rO', rR, qR, qP, qO, qRr, qPr, qOr, qOR, qOP, Jfe, Jfa, hA, qA, qAr, qAO, qOA, qAR, qAP, Jbb]
      refine ⟨k9, by omega, i + 1, some ⟨τc.next + 17, 0, none⟩, 4 + 1, by omega, ⟨by simp [qR, qP, qO, qOR, qOP, qA, qAO, qAR, qAP, H.rR], by simp [qR, qP, qO, qOR, qOP, qA, qAO, qAR, qAP, H.rP], ⟨vo + 1, by simp [qR, qP, qO, qOR, qOP, qA, qAO, qAR, qAP, outC, nilS]⟩, Nat.lt_of_lt_of_le H.rn (by (simp <;> omega)), Nat.lt_of_lt_of_le H.pn (by (simp <;> omega)), Nat.lt_of_lt_of_le H.on (by (simp <;> omega)), H.sr, H.sp, H.so, H.RP, H.RO, H.PO, by repeat (first | exact H.keeps | apply Jad.bump' | apply Jad.setHint | refine Jad.setFam ?_ (by first | omega | (simp <;> omega)) | refine Jad.set ?_ (by first | omega | (simp <;> omega)))⟩, ?_, .inr ⟨τc.next + 17, ver, F, ?_, ?_, by omega, by (simp <;> omega), by omega⟩, by first | exact hsl.symm | exact ⟨hsl.symm, rfl⟩ | exact ⟨hsl.symm, trivial⟩⟩
      · refine ⟨by (simp <;> omega), fun B hB hBO => ?_⟩
        have eO : (O = B) = False := eq_false (fun e => hBO e.symm)
        have eN : ∀ k, (τc.next + k = B) = False := fun k => eq_false (by omega)
        have eA : (A = B) = False := eq_false (by omega)
        refine Eq.trans ?_ (hKO_τc.get B hB hBO)
        simp [eO, eN, eA]
      · rw [List.length_map, List.length_take, Nat.min_eq_left (by omega)]
      · rw [List.take_succ_eq_append_getElem hil, List.map_append, List.flatten_append, ← hC]
        simp [qO, qOr, qA, Jaw.cells, fewX]
  have hlt : ((i : Int) < ((r.fail.take 20).length : Int)) = False := eq_false (by omega)
  obtain rfl : i = (r.fail.take 20).length := by omega
  rw [List.take_of_length_le (Nat.le_refl _)] at hR_τc
  simp only [Jly, nilS] at rP
  simp (maxSteps := 1000000) (disch := first | omega | decide +kernel | (simp only [symN] <;> omega) | assumption) only [Jaa, Jac, reduceIte, Nat.reduceEqDiff, Nat.reduceAdd, Nat.reduceMul, Nat.add_assoc, true_and, and_self, w1, w2, w3, ws, wl, wi, hlt, rO', rR, rP, qR, qP, qO, qRr, qPr, qOr, qOR, qOP]
  have E1 : (fewM r).to.map Jbz = (r.to.take 20).map fun p => Jbz (fewA p) := by simp [fewM, Function.comp_def]
  have E2 : (fewM r).fin.map Jan.cells = (r.fin.take 20).map fun p => Jan.cells (fewF p) := by simp [fewM, Function.comp_def]
  have E3 : (fewM r).fail.map Jaw.cells = (r.fail.take 20).map fun p => Jaw.cells (fewX p) := by simp [fewM, Function.comp_def]
  have E4 : (fewM r).which.map Ja8 = (r.which.take 130).map Ja8 := rfl
  refine ⟨⟨.slice bT (r.to.take 20).length kT, .slice bF (r.fin.take 20).length kF, .slice bX (r.fail.take 20).length kX, .slice bw (r.which.take 130).length kw⟩, rfl, ⟨?_, ?_, ?_, ?_⟩, ?_⟩
  · rw [E1]
    have hle : σ.next ≤ τ3.next := hb3
    refine ((((hR_τa.keepO hOb_τa hKO_τb).keepO hOb_τa hKO_τc).keepO hPb_τa (Jfy.mk ?_ fun B hB hBP => ?_))).from ?_
    · (simp <;> omega)
    · have e := eq_false (fun e => hBP e.symm : ¬ P = B)
      simp [e]
    · exact hle
  · rw [E2]
    have hle : σ.next ≤ τa.next := Nat.le_trans hb3 hKO_τa.next
    refine (((hR_τb.keepO hOb_τb hKO_τc).keepO hPb_τb (Jfy.mk ?_ fun B hB hBP => ?_))).from ?_
    · (simp <;> omega)
    · have e := eq_false (fun e => hBP e.symm : ¬ P = B)
      simp [e]
    · exact hle
  · rw [E3]
    have hle : σ.next ≤ τb.next := Nat.le_trans hb3 (Nat.le_trans hKO_τa.next hKO_τb.next)
    refine ((hR_τc.keepO hPb_τc (Jfy.mk ?_ fun B hB hBP => ?_))).from ?_
    · (simp <;> omega)
    · have e := eq_false (fun e => hBP e.symm : ¬ P = B)
      simp [e]
    · exact hle
  · rw [E4]
    have hle : σ.next ≤ τ2.next := hb2
    refine (((((hN.keepO hO2 hKO_τa).keepO hO2 hKO_τb).keepO hO2 hKO_τc).keepO hP2 (Jfy.mk ?_ fun B hB hBP => ?_))).from ?_
    · (simp <;> omega)
    · have e := eq_false (fun e => hBP e.symm : ¬ P = B)
      simp [e]
    · exact hle
  · repeat (first | exact H.keeps | apply Jad.bump' | apply Jad.setHint | refine Jad.setFam ?_ (by first | omega | (simp <;> omega)) | refine Jad.set ?_ (by first | omega | (simp <;> omega)))
end Go.Proofs
