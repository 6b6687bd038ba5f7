/-
  The law's Of. No condition.
-/
import Derived.Test.YtedojhheppepdaaGreatDoorKRb3TFw0
namespace Go.Proofs
open Go Go.Ev
set_option maxRecDepth 100000
set_option linter.unusedSimpArgs false
set_option linter.unusedVariables false
set_option linter.defProp false
set_option maxHeartbeats 40000000
attribute [local irreducible] zTF Jcf zOp zO zQ1 zQ2 zObj zQ zU zW zCl zRd zLd zPr zIf Jci zC
def Jnf : List Value := [.int .i64 0, .int .u32 0, .int .i64 0, .string ⟨#[]⟩, .string ⟨#[]⟩, nilS, .string ⟨#[]⟩, nilS, nilS, nilS, .int .i64 0, .int .i64 0, .int .u32 0]
def outR (r : RecM) (to fin fail which : Value) : List Value := [.int .i64 (r.kind : Nat), .int .u32 (r.id : Nat), .int .i64 r.tick, .string r.sl, .string r.sd, to, .string r.content, fin, fail, which, .int .i64 (r.what : Nat), .int .i64 r.next, .int .u32 (r.new : Nat)]
theorem Jri : Jj7 Tryz.prog 5 3 = .pure := by kernel_rfl
theorem Ju1 (r : RecM) (s : RecS) (σ0 σ : St) (hw : σ0.Wf) (hkb : Jad σ0 σ) (ha : Jbo σ0 r s) (hf : r.Fits) :
    TF Tryz.prog [] 15 #[.agg ⟨Jah r s⟩] σ fun v σ' => ∃ s', v = .agg ⟨Jaj r s'⟩ ∧ Jbo σ' r s' ∧ Jad σ σ' := by
  refine TF.walk (Jaf _) Jae Tryz.func15 (by kernel_rfl) rfl fun c hc => ?_
  cases hc
  have ca : (Value.agg ⟨Jah r s⟩).cells = ⟨Jah r s⟩ := rfl
  obtain ⟨b0, k0, e0⟩ := ha.to.shape
  obtain ⟨b1, k1, e1⟩ := ha.fin.shape
  obtain ⟨b2, k2, e2⟩ := ha.fail.shape
  obtain ⟨b3, k3, e3⟩ := ha.which.shape
  rw [List.length_map] at e0 e1 e2 e3
  have l0 := hf.to
  have l1 := hf.fin
  have l2 := hf.fail
  have y0 : sub? (Jah r s) 0 1 = some [.int .u8 (r.kind : Nat)] := rfl
  have y1 : sub? (Jah r s) 1 1 = some [.int .u32 (r.id : Nat)] := rfl
  have y2 : sub? (Jah r s) 2 1 = some [.int .i64 r.tick] := rfl
  have y3 : sub? (Jah r s) 3 2 = some [.string r.sl, .string r.sd] := rfl
  have y5 : sub? (Jah r s) 5 1 = some [s.to] := rfl
  have y6 : sub? (Jah r s) 6 1 = some [.string r.content] := rfl
  have y7 : sub? (Jah r s) 7 1 = some [s.fin] := rfl
  have y8 : sub? (Jah r s) 8 1 = some [s.fail] := rfl
  have y9 : sub? (Jah r s) 9 1 = some [s.which] := rfl
  have y10 : sub? (Jah r s) 10 1 = some [.int .u8 (r.what : Nat)] := rfl
  have y11 : sub? (Jah r s) 11 1 = some [.int .i64 r.next] := rfl
  have y12 : sub? (Jah r s) 12 1 = some [.int .u32 (r.new : Nat)] := rfl
  rw [e0] at y5
  rw [e1] at y7
  rw [e2] at y8
  rw [e3] at y9
  have wk : IntKind.i64.wrap ((r.kind : Nat) : Int) = (r.kind : Nat) := Jbf .i64 r.kind (show r.kind < 9223372036854775808 by have := hf.kind; omega)
  have wh : IntKind.i64.wrap ((r.what : Nat) : Int) = (r.what : Nat) := Jbf .i64 r.what (show r.what < 9223372036854775808 by have := hf.what; omega)
  rw [Jey, Jb8]
  simp (maxSteps := 1000000) (disch := first | omega | decide +kernel | (simp only [symN] <;> omega) | assumption) only [Jdj, Jac, reduceIte, Nat.reduceEqDiff, Nat.reduceAdd, Nat.reduceMul]
  refine Jff (fun env τ => ∃ R P, eget env 1 = .pointer (some ⟨R, 0, none⟩) ∧ eget env 2 = .pointer (some ⟨P, 0, none⟩) ∧ τ.get R = some (.cells true 0 R (Jah r s)) ∧ τ.get P = some (.cells true 0 P Jnf) ∧ Jad σ τ ∧ R < τ.next ∧ P < τ.next ∧ R ≠ P ∧ σ.next ≤ R ∧ σ.next ≤ P) ?_ ?_
  · refine ⟨σ.next, σ.next + 1, by simp [Jab], by simp [Jab], by simp, by simp [Jnf, nilS], by (repeat (first | exact Jad.refl _ | apply Jad.bump' | apply Jad.setHint | refine Jad.setFam ?_ (by first | omega | (simp <;> omega)) | refine Jad.set ?_ (by first | omega | (simp <;> omega)))), by simp, by simp, by omega, Nat.le_refl _, by omega⟩
  rintro env τ ⟨R, P, w1, w2, rR, gP, hk, hRn, hPn, hRP, hRs, hPs⟩
  have qR := lt_q hRn
  have qP := lt_q hPn
  rw [Jey]
  simp (maxSteps := 1000000) (disch := first | omega | decide +kernel | (simp only [symN] <;> omega) | assumption) only [Jdj, Jac, reduceIte, Nat.reduceEqDiff, Nat.reduceAdd, Nat.reduceMul, Kd5, sy9, sy10, true_and, and_self, w1, w2, rR, y0, y1, y2, y3, y5, y6, y7, y8, y9, y10, y11, y12, wk, wh, Jri]
  refine Ja3 (Jhq r.sl r.sd _) ?_
  simp (maxSteps := 1000000) (disch := first | omega | decide +kernel | (simp only [symN] <;> omega) | assumption) only [Jdj, Jac, reduceIte, Nat.reduceEqDiff, Nat.reduceAdd, Nat.reduceMul, sy9, sy10, true_and, and_self, Jbb, w1, w2, rR, qR, qP, y0, y1, y2, y3, y5, y6, y7, y8, y9, y10, y11, y12, wk, wh, Jri]
  refine Jff (fun env' τ' => ∃ O, eget env' 1 = .pointer (some ⟨R, 0, none⟩) ∧ eget env' 2 = .pointer (some ⟨P, 0, none⟩) ∧ eget env' 3 = .pointer (some ⟨O, 0, none⟩) ∧ FAt σ τ' R P O (Jah r s) Jnf (outR r nilS nilS nilS (.slice b3 r.which.length k3))) ?_ ?_
  · exact ⟨τ.next + 22, by simp [Jab, w1], by simp [Jab, w2], by simp [Jab], by simp [qR, rR], by simp [qP, gP], ⟨1, by simp [outR, nilS]⟩, by (simp <;> omega), by (simp <;> omega), by simp, hRs, hPs, by omega, hRP, by omega, by omega, hk.trans (by (repeat (first | exact Jad.refl _ | apply Jad.bump' | apply Jad.setHint | refine Jad.setFam ?_ (by first | omega | (simp <;> omega)) | refine Jad.set ?_ (by first | omega | (simp <;> omega)))))⟩
  clear qR qP w1 w2 rR gP hk hRn hPn hRP hRs hPs
  intro env' τ3 hI
  obtain ⟨O, w1, w2, w3, H⟩ := hI
  obtain ⟨vo, rO⟩ := H.rO
  have rO' := rO
  simp only [outR, nilS] at rO'
  have rR := H.rR
  have qOR := eq_false (fun e => H.RO e.symm : ¬ O = R)
  have qOP := eq_false (fun e => H.PO e.symm : ¬ O = P)
  simp (maxSteps := 1000000) (disch := first | omega | decide +kernel | (simp only [symN] <;> omega) | assumption) only [Tryz.f15, Jaa, Jac, reduceIte, Nat.reduceEqDiff, Nat.reduceAdd, Nat.reduceMul, true_and, and_self, w1, w2, w3, rR, rO', y5]
  have hOb_τa : O < τ3.next := H.on
  have hRb_τa : R < τ3.next := H.rn
  have hPb_τa : P < τ3.next := H.pn
  refine Jay (Jaf _) Jae (fun kk env' (τ' : St) => ∃ i bT kT, i + kk = r.to.length ∧ FAt σ τ' R P O (Jah r s) Jnf (outR r (.slice bT i kT) nilS nilS (.slice b3 r.which.length k3)) ∧ Jfy O τ3 τ' ∧ RowN τ3 τ' 2 (.slice bT i kT) ((r.to.take i).map Jbz) ∧ eget env' 1 = .pointer (some ⟨R, 0, none⟩) ∧ eget env' 2 = .pointer (some ⟨P, 0, none⟩) ∧ eget env' 3 = .pointer (some ⟨O, 0, none⟩) ∧ eget env' 33 = .slice b0 r.to.length k0 ∧ eget env' 34 = .int .i64 (r.to.length : Nat) ∧ eget env' 35 = .int .i64 (i : Nat)) (n := r.to.length) (by kernel_rfl) ?_ ?_
  · refine ⟨0, none, 0, by omega, H.keep .bump, ?_, .inl ⟨by simp, rfl⟩, by simp [Jab, w1], by simp [Jab, w2], by simp [Jab, w3], by simp [Jab], by simp [Jab], by simp [Jab]⟩
    refine ⟨by (simp <;> omega), fun B hB hBO => ?_⟩
    have eO : (O = B) = False := eq_false (fun e => hBO e.symm)
    simp [eO]
  intro kk env1 τa hI
  obtain ⟨i, bT, kT, hi, H, hKO_τa, hR_τa, w1, w2, w3, ws, wl, wi⟩ := hI
  obtain ⟨vo, rO⟩ := H.rO
  have rO' := rO
  simp only [outR, nilS] at rO'
  have rR := H.rR
  have rP := H.rP
  have qR := lt_q H.rn
  have qP := lt_q H.pn
  have qO := lt_q H.on
  have qRr := Jb9 H.rn
  have qPr := Jb9 H.pn
  have qOr := Jb9 H.on
  have qOR := eq_false (fun e => H.RO e.symm : ¬ O = R)
  have qOP := eq_false (fun e => H.PO e.symm : ¬ O = P)
  have hTl : r.to.length ≤ 1000000000 := by omega
  have hbn := hKO_τa.next
  have hRs := H.sr
  have hPs := H.sp
  have hOs := H.so
  have hRn := H.rn
  have hPn := H.pn
  have hOn := H.on
  by_cases hk0 : kk = 0
  case neg =>
    obtain ⟨k9, rfl⟩ : ∃ k9, kk = k9 + 1 := ⟨kk - 1, by omega⟩
    have hil : i < r.to.length := by omega
    have hlt : ((i : Int) < (r.to.length : Int)) = True := eq_true (by omega)
    have hr0 : ∃ A' o k', Value.slice b0 r.to.length k0 = .slice (some ⟨A', o, none⟩) r.to.length k' ∧ ∀ m, rdG (τa.bump m) (τa.get A') (o + i * 2) 2 = some (Jbz r.to[i]) := by
      rcases (ha.to.keeps hw (hkb.trans H.keeps)) with ⟨hnil, _⟩ | ⟨A', o, k', cc, h1, hcc, hr⟩
      · have e : r.to.length = 0 := by simpa using congrArg List.length hnil
        omega
      · refine ⟨A', o, k', by rw [← e0, h1, List.length_map], fun m => ?_⟩
        have := SlR.rd (k := 0) hcc hr (i := i) (by simpa using hil) m
        rw [this]; simp
    obtain ⟨A', o, k', hsl, hrd⟩ := hr0
    rw [hsl] at ws
    have ib : ((i : Nat) : Int) < ((r.to.length : Nat) : Int) := by omega
    have ib0 : (0 : Int) ≤ ((i : Nat) : Int) := by omega
    have wi1 : IntKind.i64.wrap ((i : Int) + 1) = ((i + 1 : Nat) : Int) := Jbt i 1 (by omega)
    simp only [Jbz, Jbb] at hrd
    rcases hR_τa with ⟨hnil, hv⟩ | ⟨A, ver, F, hv, hA, hAs, hAn, hFs⟩
    · cases hv
      simp only [Nat.zero_mul, Nat.add_zero] at hrd
      simp (maxSteps := 1000000) (disch := first | omega | decide +kernel | (simp only [symN] <;> omega) | assumption) only [Jaa, Jac, reduceIte, Nat.reduceEqDiff, Nat.reduceAdd, Nat.reduceMul, Nat.add_assoc, Nat.add_left_cancel_iff, true_and, and_self, w1, w2, w3, ws, wl, wi, wi1, hlt, hrd, ib, ib0, rO', rR, qR, qP, qO, qRr, qPr, qOr, qOR, qOP, Jjj, Jjf]
      refine Ja3 (Jhq _ _ _) ?_
      simp (maxSteps := 1000000) (disch := first | omega | decide +kernel | (simp only [symN] <;> omega) | assumption) only [Jaa, Jac, reduceIte, Nat.reduceEqDiff, Nat.reduceAdd, Nat.reduceMul, Nat.add_assoc, Nat.add_left_cancel_iff, true_and, and_self, w1, w2, w3, ws, wl, wi, wi1, hlt, hrd, ib, ib0, rO', rR, qR, qP, qO, qRr, qPr, qOr, qOR, qOP, Jjj, Jjf, Jbb]
      refine ⟨k9, by omega, 0 + 1, some ⟨τa.next + 10, 0, none⟩, 2 + 1, by omega, ⟨by simp [qR, qP, qO, qOR, qOP, H.rR], by simp [qR, qP, qO, qOR, qOP, H.rP], ⟨vo + 1, by simp [qR, qP, qO, qOR, qOP, outR, nilS]⟩, Nat.lt_of_lt_of_le H.rn (by (simp <;> omega)), Nat.lt_of_lt_of_le H.pn (by (simp <;> omega)), Nat.lt_of_lt_of_le H.on (by (simp <;> omega)), H.sr, H.sp, H.so, H.RP, H.RO, H.PO, by repeat (first | exact H.keeps | apply Jad.bump' | apply Jad.setHint | refine Jad.setFam ?_ (by first | omega | (simp <;> omega)) | refine Jad.set ?_ (by first | omega | (simp <;> omega)))⟩, ?_, .inr ⟨τa.next + 10, 0, τa.next + 10, ?_, ?_, by omega, by (simp <;> omega), by omega⟩, by first | exact hsl.symm | exact ⟨hsl.symm, rfl⟩ | exact ⟨hsl.symm, trivial⟩⟩
      · refine ⟨by (simp <;> omega), fun B hB hBO => ?_⟩
        have eO : (O = B) = False := eq_false (fun e => hBO e.symm)
        have eN : ∀ k, (τa.next + k = B) = False := fun k => eq_false (by omega)
        refine Eq.trans ?_ (hKO_τa.get B hB hBO)
        simp [eO, eN]
      · rw [List.length_map, List.length_take, Nat.min_eq_left (by omega)]
      · rw [List.take_succ_eq_append_getElem hil, List.map_append, List.flatten_append]
        simp [qO, qOr, Jbz, Jbb]
    · simp only [Value.slice.injEq] at hv
      obtain ⟨rfl, _, rfl⟩ := hv
      obtain ⟨C, hC⟩ : ∃ C, C = ((r.to.take i).map Jbz).flatten := ⟨_, rfl⟩
      rw [← hC] at hA
      have hCl : C.length = i * 2 := by
        rw [hC, Jdp (f := Jbz) (n := 2) (fun x => rfl), List.length_take, Nat.min_eq_left (by omega)]
      have qA := lt_q hAn
      have qAr := Jb9 hAn
      have qAO : (A = O) = False := eq_false (by omega)
      have qOA : (O = A) = False := eq_false (by omega)
      have qAR : (A = R) = False := eq_false (by omega)
      have qAP : (A = P) = False := eq_false (by omega)
      have hi9 : i ≤ 1000000000 := by omega
      simp (maxSteps := 1000000) (disch := first | omega | decide +kernel | (simp only [symN] <;> omega) | assumption) only [Jaa, Jac, reduceIte, Nat.reduceEqDiff, Nat.reduceAdd, Nat.reduceMul, Nat.add_assoc, Nat.add_left_cancel_iff, true_and, and_self, w1, w2, w3, ws, wl, wi, wi1, hlt, hrd, ib, ib0, rO', rR, qR, qP, qO, qRr, qPr, qOr, qOR, qOP, Jjj, Jjf, hA, qA, qAr, qAO, qOA, qAR, qAP]
      refine Ja3 (Jhq _ _ _) ?_
      simp (maxSteps := 1000000) (disch := first | omega | decide +kernel | (simp only [symN] <;> omega) | assumption) only [Jaa, Jac, reduceIte, Nat.reduceEqDiff, Nat.reduceAdd, Nat.reduceMul, Nat.add_assoc, Nat.add_left_cancel_iff, true_and, and_self, w1, w2, w3, ws, wl, wi, wi1, hlt, hrd, ib, ib0, rO', rR, qR, qP, qO, qRr, qPr, qOr, qOR, qOP, Jjj, Jjf, hA, qA, qAr, qAO, qOA, qAR, qAP, Jbb]
      refine ⟨k9, by omega, i + 1, some ⟨τa.next + 10, 0, none⟩, 2 + 1, by omega, ⟨by simp [qR, qP, qO, qOR, qOP, qA, qAO, qAR, qAP, H.rR], by simp [qR, qP, qO, qOR, qOP, qA, qAO, qAR, qAP, H.rP], ⟨vo + 1, by simp [qR, qP, qO, qOR, qOP, qA, qAO, qAR, qAP, outR, nilS]⟩, Nat.lt_of_lt_of_le H.rn (by (simp <;> omega)), Nat.lt_of_lt_of_le H.pn (by (simp <;> omega)), Nat.lt_of_lt_of_le H.on (by (simp <;> omega)), H.sr, H.sp, H.so, H.RP, H.RO, H.PO, by repeat (first | exact H.keeps | apply Jad.bump' | apply Jad.setHint | refine Jad.setFam ?_ (by first | omega | (simp <;> omega)) | refine Jad.set ?_ (by first | omega | (simp <;> omega)))⟩, ?_, .inr ⟨τa.next + 10, ver, F, ?_, ?_, by omega, by (simp <;> omega), by omega⟩, by first | exact hsl.symm | exact ⟨hsl.symm, rfl⟩ | exact ⟨hsl.symm, trivial⟩⟩
      · refine ⟨by (simp <;> omega), fun B hB hBO => ?_⟩
        have eO : (O = B) = False := eq_false (fun e => hBO e.symm)
        have eN : ∀ k, (τa.next + k = B) = False := fun k => eq_false (by omega)
        have eA : (A = B) = False := eq_false (by omega)
        refine Eq.trans ?_ (hKO_τa.get B hB hBO)
        simp [eO, eN, eA]
      · rw [List.length_map, List.length_take, Nat.min_eq_left (by omega)]
      · rw [List.take_succ_eq_append_getElem hil, List.map_append, List.flatten_append, ← hC]
        simp [qO, qOr, qA, Jbz, Jbb]
  have hlt : ((i : Int) < (r.to.length : Int)) = False := eq_false (by omega)
  obtain rfl : i = r.to.length := by omega
  rw [List.take_of_length_le (Nat.le_refl _)] at hR_τa
  simp (maxSteps := 1000000) (disch := first | omega | decide +kernel | (simp only [symN] <;> omega) | assumption) only [Jaa, Jac, reduceIte, Nat.reduceEqDiff, Nat.reduceAdd, Nat.reduceMul, Nat.add_assoc, true_and, and_self, w1, w2, w3, ws, wl, wi, hlt, rO', rR, rP, qR, qP, qO, qRr, qPr, qOr, qOR, qOP, y7]
  have hOb_τb : O < τa.next := H.on
  have hRb_τb : R < τa.next := H.rn
  have hPb_τb : P < τa.next := H.pn
  refine Jay (Jaf _) Jae (fun kk env' (τ' : St) => ∃ i bF kF, i + kk = r.fin.length ∧ FAt σ τ' R P O (Jah r s) Jnf (outR r (.slice bT r.to.length kT) (.slice bF i kF) nilS (.slice b3 r.which.length k3)) ∧ Jfy O τa τ' ∧ RowN τa τ' 9 (.slice bF i kF) ((r.fin.take i).map Jan.cells) ∧ eget env' 1 = .pointer (some ⟨R, 0, none⟩) ∧ eget env' 2 = .pointer (some ⟨P, 0, none⟩) ∧ eget env' 3 = .pointer (some ⟨O, 0, none⟩) ∧ eget env' 48 = .slice b1 r.fin.length k1 ∧ eget env' 49 = .int .i64 (r.fin.length : Nat) ∧ eget env' 50 = .int .i64 (i : Nat)) (n := r.fin.length) (by kernel_rfl) ?_ ?_
  · refine ⟨0, none, 0, by omega, H.keep .bump, ?_, .inl ⟨by simp, rfl⟩, by simp [Jab, w1], by simp [Jab, w2], by simp [Jab, w3], by simp [Jab], by simp [Jab], by simp [Jab]⟩
    refine ⟨by (simp <;> omega), fun B hB hBO => ?_⟩
    have eO : (O = B) = False := eq_false (fun e => hBO e.symm)
    simp [eO]
  intro kk env1 τb hI
  obtain ⟨i, bF, kF, hi, H, hKO_τb, hR_τb, w1, w2, w3, ws, wl, wi⟩ := hI
  obtain ⟨vo, rO⟩ := H.rO
  have rO' := rO
  simp only [outR, nilS] at rO'
  have rR := H.rR
  have rP := H.rP
  have qR := lt_q H.rn
  have qP := lt_q H.pn
  have qO := lt_q H.on
  have qRr := Jb9 H.rn
  have qPr := Jb9 H.pn
  have qOr := Jb9 H.on
  have qOR := eq_false (fun e => H.RO e.symm : ¬ O = R)
  have qOP := eq_false (fun e => H.PO e.symm : ¬ O = P)
  have hTl : r.fin.length ≤ 1000000000 := by omega
  have hbn := hKO_τb.next
  have hRs := H.sr
  have hPs := H.sp
  have hOs := H.so
  have hRn := H.rn
  have hPn := H.pn
  have hOn := H.on
  by_cases hk0 : kk = 0
  case neg =>
    obtain ⟨k9, rfl⟩ : ∃ k9, kk = k9 + 1 := ⟨kk - 1, by omega⟩
    have hil : i < r.fin.length := by omega
    have hlt : ((i : Int) < (r.fin.length : Int)) = True := eq_true (by omega)
    have hr0 : ∃ A' o k', Value.slice b1 r.fin.length k1 = .slice (some ⟨A', o, none⟩) r.fin.length k' ∧ ∀ m, rdG (τb.bump m) (τb.get A') (o + i * 9) 9 = some (Jan.cells r.fin[i]) := by
      rcases (ha.fin.keeps hw (hkb.trans H.keeps)) with ⟨hnil, _⟩ | ⟨A', o, k', cc, h1, hcc, hr⟩
      · have e : r.fin.length = 0 := by simpa using congrArg List.length hnil
        omega
      · refine ⟨A', o, k', by rw [← e1, h1, List.length_map], fun m => ?_⟩
        have := SlR.rd (k := 0) hcc hr (i := i) (by simpa using hil) m
        rw [this]; simp
    obtain ⟨A', o, k', hsl, hrd⟩ := hr0
    rw [hsl] at ws
    have ib : ((i : Nat) : Int) < ((r.fin.length : Nat) : Int) := by omega
    have ib0 : (0 : Int) ≤ ((i : Nat) : Int) := by omega
    have wi1 : IntKind.i64.wrap ((i : Int) + 1) = ((i + 1 : Nat) : Int) := Jbt i 1 (by omega)
    simp only [Jan.cells] at hrd
    rcases hR_τb with ⟨hnil, hv⟩ | ⟨A, ver, F, hv, hA, hAs, hAn, hFs⟩
    · cases hv
      simp only [Nat.zero_mul, Nat.add_zero] at hrd
      simp (maxSteps := 1000000) (disch := first | omega | decide +kernel | (simp only [symN] <;> omega) | assumption) only [Jaa, Jac, reduceIte, Nat.reduceEqDiff, Nat.reduceAdd, Nat.reduceMul, Nat.add_assoc, Nat.add_left_cancel_iff, true_and, and_self, w1, w2, w3, ws, wl, wi, wi1, hlt, hrd, ib, ib0, rO', rR, qR, qP, qO, qRr, qPr, qOr, qOR, qOP, Jhx, Jht]
      refine Ja3 (Jh7 (r.fin[0]) _) ?_
      simp (maxSteps := 1000000) (disch := first | omega | decide +kernel | (simp only [symN] <;> omega) | assumption) only [Jaa, Jac, reduceIte, Nat.reduceEqDiff, Nat.reduceAdd, Nat.reduceMul, Nat.add_assoc, Nat.add_left_cancel_iff, true_and, and_self, w1, w2, w3, ws, wl, wi, wi1, hlt, hrd, ib, ib0, rO', rR, qR, qP, qO, qRr, qPr, qOr, qOR, qOP, Jhx, Jht, Jan.cells]
      refine ⟨k9, by omega, 0 + 1, some ⟨τb.next + 10, 0, none⟩, 9 + 1, by omega, ⟨by simp [qR, qP, qO, qOR, qOP, H.rR], by simp [qR, qP, qO, qOR, qOP, H.rP], ⟨vo + 1, by simp [qR, qP, qO, qOR, qOP, outR, nilS]⟩, Nat.lt_of_lt_of_le H.rn (by (simp <;> omega)), Nat.lt_of_lt_of_le H.pn (by (simp <;> omega)), Nat.lt_of_lt_of_le H.on (by (simp <;> omega)), H.sr, H.sp, H.so, H.RP, H.RO, H.PO, by repeat (first | exact H.keeps | apply Jad.bump' | apply Jad.setHint | refine Jad.setFam ?_ (by first | omega | (simp <;> omega)) | refine Jad.set ?_ (by first | omega | (simp <;> omega)))⟩, ?_, .inr ⟨τb.next + 10, 0, τb.next + 10, ?_, ?_, by omega, by (simp <;> omega), by omega⟩, by first | exact hsl.symm | exact ⟨hsl.symm, rfl⟩ | exact ⟨hsl.symm, trivial⟩⟩
      · refine ⟨by (simp <;> omega), fun B hB hBO => ?_⟩
        have eO : (O = B) = False := eq_false (fun e => hBO e.symm)
        have eN : ∀ k, (τb.next + k = B) = False := fun k => eq_false (by omega)
        refine Eq.trans ?_ (hKO_τb.get B hB hBO)
        simp [eO, eN]
      · rw [List.length_map, List.length_take, Nat.min_eq_left (by omega)]
      · rw [List.take_succ_eq_append_getElem hil, List.map_append, List.flatten_append]
        simp [qO, qOr, Jan.cells]
    · simp only [Value.slice.injEq] at hv
      obtain ⟨rfl, _, rfl⟩ := hv
      obtain ⟨C, hC⟩ : ∃ C, C = ((r.fin.take i).map Jan.cells).flatten := ⟨_, rfl⟩
      rw [← hC] at hA
      have hCl : C.length = i * 9 := by
        rw [hC, Jdp (f := Jan.cells) (n := 9) (fun x => rfl), List.length_take, Nat.min_eq_left (by omega)]
      have qA := lt_q hAn
      have qAr := Jb9 hAn
      have qAO : (A = O) = False := eq_false (by omega)
      have qOA : (O = A) = False := eq_false (by omega)
      have qAR : (A = R) = False := eq_false (by omega)
      have qAP : (A = P) = False := eq_false (by omega)
      have hi9 : i ≤ 1000000000 := by omega
      simp (maxSteps := 1000000) (disch := first | omega | decide +kernel | (simp only [symN] <;> omega) | assumption) only [Jaa, Jac, reduceIte, Nat.reduceEqDiff, Nat.reduceAdd, Nat.reduceMul, Nat.add_assoc, Nat.add_left_cancel_iff, true_and, and_self, w1, w2, w3, ws, wl, wi, wi1, hlt, hrd, ib, ib0, rO', rR, qR, qP, qO, qRr, qPr, qOr, qOR, qOP, Jhx, Jht, hA, qA, qAr, qAO, qOA, qAR, qAP]
      refine Ja3 (Jh7 (r.fin[i]) _) ?_
      simp (maxSteps := 1000000) (disch := first | omega | decide +kernel | (simp only [symN] <;> omega) | assumption) only [Jaa, Jac, reduceIte, Nat.reduceEqDiff, Nat.reduceAdd, Nat.reduceMul, Nat.add_assoc, Nat.add_left_cancel_iff, true_and, and_self, w1, w2, w3, ws, wl, wi, wi1, hlt, hrd, ib, ib0, rO', rR, qR, qP, qO, qRr, qPr, qOr, qOR, qOP, Jhx, Jht, hA, qA, qAr, qAO, qOA, qAR, qAP, Jan.cells]
      refine ⟨k9, by omega, i + 1, some ⟨τb.next + 10, 0, none⟩, 9 + 1, by omega, ⟨by simp [qR, qP, qO, qOR, qOP, qA, qAO, qAR, qAP, H.rR], by simp [qR, qP, qO, qOR, qOP, qA, qAO, qAR, qAP, H.rP], ⟨vo + 1, by simp [qR, qP, qO, qOR, qOP, qA, qAO, qAR, qAP, outR, nilS]⟩, Nat.lt_of_lt_of_le H.rn (by (simp <;> omega)), Nat.lt_of_lt_of_le H.pn (by (simp <;> omega)), Nat.lt_of_lt_of_le H.on (by (simp <;> omega)), H.sr, H.sp, H.so, H.RP, H.RO, H.PO, by repeat (first | exact H.keeps | apply Jad.bump' | apply Jad.setHint | refine Jad.setFam ?_ (by first | omega | (simp <;> omega)) | refine Jad.set ?_ (by first | omega | (simp <;> omega)))⟩, ?_, .inr ⟨τb.next + 10, ver, F, ?_, ?_, by omega, by (simp <;> omega), by omega⟩, by first | exact hsl.symm | exact ⟨hsl.symm, rfl⟩ | exact ⟨hsl.symm, trivial⟩⟩
      · refine ⟨by (simp <;> omega), fun B hB hBO => ?_⟩
        have eO : (O = B) = False := eq_false (fun e => hBO e.symm)
        have eN : ∀ k, (τb.next + k = B) = False := fun k => eq_false (by omega)
        have eA : (A = B) = False := eq_false (by omega)
        refine Eq.trans ?_ (hKO_τb.get B hB hBO)
        simp [eO, eN, eA]
      · rw [List.length_map, List.length_take, Nat.min_eq_left (by omega)]
      · rw [List.take_succ_eq_append_getElem hil, List.map_append, List.flatten_append, ← hC]
        simp [qO, qOr, qA, Jan.cells]
  have hlt : ((i : Int) < (r.fin.length : Int)) = False := eq_false (by omega)
  obtain rfl : i = r.fin.length := by omega
  rw [List.take_of_length_le (Nat.le_refl _)] at hR_τb
  simp (maxSteps := 1000000) (disch := first | omega | decide +kernel | (simp only [symN] <;> omega) | assumption) only [Jaa, Jac, reduceIte, Nat.reduceEqDiff, Nat.reduceAdd, Nat.reduceMul, Nat.add_assoc, true_and, and_self, w1, w2, w3, ws, wl, wi, hlt, rO', rR, rP, qR, qP, qO, qRr, qPr, qOr, qOR, qOP, y8]
  have hOb_τc : O < τb.next := H.on
  have hRb_τc : R < τb.next := H.rn
  have hPb_τc : P < τb.next := H.pn
  refine Jay (Jaf _) Jae (fun kk env' (τ' : St) => ∃ i bX kX, i + kk = r.fail.length ∧ FAt σ τ' R P O (Jah r s) Jnf (outR r (.slice bT r.to.length kT) (.slice bF r.fin.length kF) (.slice bX i kX) (.slice b3 r.which.length k3)) ∧ Jfy O τb τ' ∧ RowN τb τ' 4 (.slice bX i kX) ((r.fail.take i).map Jaw.cells) ∧ eget env' 1 = .pointer (some ⟨R, 0, none⟩) ∧ eget env' 2 = .pointer (some ⟨P, 0, none⟩) ∧ eget env' 3 = .pointer (some ⟨O, 0, none⟩) ∧ eget env' 63 = .slice b2 r.fail.length k2 ∧ eget env' 64 = .int .i64 (r.fail.length : Nat) ∧ eget env' 65 = .int .i64 (i : Nat)) (n := r.fail.length) (by kernel_rfl) ?_ ?_
  · refine ⟨0, none, 0, by omega, H.keep .bump, ?_, .inl ⟨by simp, rfl⟩, by simp [Jab, w1], by simp [Jab, w2], by simp [Jab, w3], by simp [Jab], by simp [Jab], by simp [Jab]⟩
    refine ⟨by (simp <;> omega), fun B hB hBO => ?_⟩
    have eO : (O = B) = False := eq_false (fun e => hBO e.symm)
    simp [eO]
  intro kk env1 τc hI
  obtain ⟨i, bX, kX, hi, H, hKO_τc, hR_τc, w1, w2, w3, ws, wl, wi⟩ := hI
  obtain ⟨vo, rO⟩ := H.rO
  have rO' := rO
  simp only [outR, nilS] at rO'
  have rR := H.rR
  have rP := H.rP
  have qR := lt_q H.rn
  have qP := lt_q H.pn
  have qO := lt_q H.on
  have qRr := Jb9 H.rn
  have qPr := Jb9 H.pn
  have qOr := Jb9 H.on
  have qOR := eq_false (fun e => H.RO e.symm : ¬ O = R)
  have qOP := eq_false (fun e => H.PO e.symm : ¬ O = P)
  have hTl : r.fail.length ≤ 1000000000 := by omega
  have hbn := hKO_τc.next
  have hRs := H.sr
  have hPs := H.sp
  have hOs := H.so
  have hRn := H.rn
  have hPn := H.pn
  have hOn := H.on
  by_cases hk0 : kk = 0
  case neg =>
    obtain ⟨k9, rfl⟩ : ∃ k9, kk = k9 + 1 := ⟨kk - 1, by omega⟩
    have hil : i < r.fail.length := by omega
    have hlt : ((i : Int) < (r.fail.length : Int)) = True := eq_true (by omega)
    have hr0 : ∃ A' o k', Value.slice b2 r.fail.length k2 = .slice (some ⟨A', o, none⟩) r.fail.length k' ∧ ∀ m, rdG (τc.bump m) (τc.get A') (o + i * 4) 4 = some (Jaw.cells r.fail[i]) := by
      rcases (ha.fail.keeps hw (hkb.trans H.keeps)) with ⟨hnil, _⟩ | ⟨A', o, k', cc, h1, hcc, hr⟩
      · have e : r.fail.length = 0 := by simpa using congrArg List.length hnil
        omega
      · refine ⟨A', o, k', by rw [← e2, h1, List.length_map], fun m => ?_⟩
        have := SlR.rd (k := 0) hcc hr (i := i) (by simpa using hil) m
        rw [this]; simp
    obtain ⟨A', o, k', hsl, hrd⟩ := hr0
    rw [hsl] at ws
    have ib : ((i : Nat) : Int) < ((r.fail.length : Nat) : Int) := by omega
    have ib0 : (0 : Int) ≤ ((i : Nat) : Int) := by omega
    have wi1 : IntKind.i64.wrap ((i : Int) + 1) = ((i + 1 : Nat) : Int) := Jbt i 1 (by omega)
    simp only [Jaw.cells] at hrd
    rcases hR_τc with ⟨hnil, hv⟩ | ⟨A, ver, F, hv, hA, hAs, hAn, hFs⟩
    · cases hv
      simp only [Nat.zero_mul, Nat.add_zero] at hrd
      simp (maxSteps := 1000000) (disch := first | omega | decide +kernel | (simp only [symN] <;> omega) | assumption) only [Jaa, Jac, reduceIte, Nat.reduceEqDiff, Nat.reduceAdd, Nat.reduceMul, Nat.add_assoc, Nat.add_left_cancel_iff, true_and, and_self, w1, w2, w3, ws, wl, wi, wi1, hlt, hrd, ib, ib0, rO', rR, qR, qP, qO, qRr, qPr, qOr, qOR, qOP, Jhw, Jhs]
      refine Ja3 (Jf6 (r.fail[0]) _) ?_
      simp (maxSteps := 1000000) (disch := first | omega | decide +kernel | (simp only [symN] <;> omega) | assumption) only [Jaa, Jac, reduceIte, Nat.reduceEqDiff, Nat.reduceAdd, Nat.reduceMul, Nat.add_assoc, Nat.add_left_cancel_iff, true_and, and_self, w1, w2, w3, ws, wl, wi, wi1, hlt, hrd, ib, ib0, rO', rR, qR, qP, qO, qRr, qPr, qOr, qOR, qOP, Jhw, Jhs, Jaw.cells]
      refine ⟨k9, by omega, 0 + 1, some ⟨τc.next + 10, 0, none⟩, 4 + 1, by omega, ⟨by simp [qR, qP, qO, qOR, qOP, H.rR], by simp [qR, qP, qO, qOR, qOP, H.rP], ⟨vo + 1, by simp [qR, qP, qO, qOR, qOP, outR, nilS]⟩, Nat.lt_of_lt_of_le H.rn (by (simp <;> omega)), Nat.lt_of_lt_of_le H.pn (by (simp <;> omega)), Nat.lt_of_lt_of_le H.on (by (simp <;> omega)), H.sr, H.sp, H.so, H.RP, H.RO, H.PO, by repeat (first | exact H.keeps | apply Jad.bump' | apply Jad.setHint | refine Jad.setFam ?_ (by first | omega | (simp <;> omega)) | refine Jad.set ?_ (by first | omega | (simp <;> omega)))⟩, ?_, .inr ⟨τc.next + 10, 0, τc.next + 10, ?_, ?_, by omega, by (simp <;> omega), by omega⟩, by first | exact hsl.symm | exact ⟨hsl.symm, rfl⟩ | exact ⟨hsl.symm, trivial⟩⟩
      · refine ⟨by (simp <;> omega), fun B hB hBO => ?_⟩
        have eO : (O = B) = False := eq_false (fun e => hBO e.symm)
        have eN : ∀ k, (τc.next + k = B) = False := fun k => eq_false (by omega)
        refine Eq.trans ?_ (hKO_τc.get B hB hBO)
        simp [eO, eN]
      · rw [List.length_map, List.length_take, Nat.min_eq_left (by omega)]
      · rw [List.take_succ_eq_append_getElem hil, List.map_append, List.flatten_append]
        simp [qO, qOr, Jaw.cells]
    · simp only [Value.slice.injEq] at hv
      obtain ⟨rfl, _, rfl⟩ := hv
      obtain ⟨C, hC⟩ : ∃ C, C = ((r.fail.take i).map Jaw.cells).flatten := ⟨_, rfl⟩
      rw [← hC] at hA
      have hCl : C.length = i * 4 := by
        rw [hC, Jdp (f := Jaw.cells) (n := 4) (fun x => rfl), List.length_take, Nat.min_eq_left (by omega)]
      have qA := lt_q hAn
      have qAr := Jb9 hAn
      have qAO : (A = O) = False := eq_false (by omega)
      have qOA : (O = A) = False := eq_false (by omega)
      have qAR : (A = R) = False := eq_false (by omega)
      have qAP : (A = P) = False := eq_false (by omega)
      have hi9 : i ≤ 1000000000 := by omega
      simp (maxSteps := 1000000) (disch := first | omega | decide +kernel | (simp only [symN] <;> omega) | assumption) only [Jaa, Jac, reduceIte, Nat.reduceEqDiff, Nat.reduceAdd, Nat.reduceMul, Nat.add_assoc, Nat.add_left_cancel_iff, true_and, and_self, w1, w2, w3, ws, wl, wi, wi1, hlt, hrd, ib, ib0, rO', rR, qR, qP, qO, qRr, qPr, qOr, qOR, qOP, Jhw, Jhs, hA, qA, qAr, qAO, qOA, qAR, qAP]
      refine Ja3 (Jf6 (r.fail[i]) _) ?_
      simp (maxSteps := 1000000) (disch := first | omega | decide +kernel | (simp only [symN] <;> omega) | assumption) only [Jaa, Jac, reduceIte, Nat.reduceEqDiff, Nat.reduceAdd, Nat.reduceMul, Nat.add_assoc, Nat.add_left_cancel_iff, true_and, and_self, w1, w2, w3, ws, wl, wi, wi1, hlt, hrd, ib, ib0, rO', rR, qR, qP, qO, qRr, qPr, qOr, qOR, qOP, Jhw, Jhs, hA, qA, qAr, qAO, qOA, qAR, qAP, Jaw.cells]
      refine ⟨k9, by omega, i + 1, some ⟨τc.next + 10, 0, none⟩, 4 + 1, by omega, ⟨by simp [qR, qP, qO, qOR, qOP, qA, qAO, qAR, qAP, H.rR], by simp [qR, qP, qO, qOR, qOP, qA, qAO, qAR, qAP, H.rP], ⟨vo + 1, by simp [qR, qP, qO, qOR, qOP, qA, qAO, qAR, qAP, outR, nilS]⟩, Nat.lt_of_lt_of_le H.rn (by (simp <;> omega)), Nat.lt_of_lt_of_le H.pn (by (simp <;> omega)), Nat.lt_of_lt_of_le H.on (by (simp <;> omega)), H.sr, H.sp, H.so, H.RP, H.RO, H.PO, by repeat (first | exact H.keeps | apply Jad.bump' | apply Jad.setHint | refine Jad.setFam ?_ (by first | omega | (simp <;> omega)) | refine Jad.set ?_ (by first | omega | (simp <;> omega)))⟩, ?_, .inr ⟨τc.next + 10, ver, F, ?_, ?_, by omega, by (simp <;> omega), by omega⟩, by first | exact hsl.symm | exact ⟨hsl.symm, rfl⟩ | exact ⟨hsl.symm, trivial⟩⟩
      · refine ⟨by (simp <;> omega), fun B hB hBO => ?_⟩
        have eO : (O = B) = False := eq_false (fun e => hBO e.symm)
        have eN : ∀ k, (τc.next + k = B) = False := fun k => eq_false (by omega)
        have eA : (A = B) = False := eq_false (by omega)
        refine Eq.trans ?_ (hKO_τc.get B hB hBO)
        simp [eO, eN, eA]
      · rw [List.length_map, List.length_take, Nat.min_eq_left (by omega)]
      · rw [List.take_succ_eq_append_getElem hil, List.map_append, List.flatten_append, ← hC]
        simp [qO, qOr, qA, Jaw.cells]
  have hlt : ((i : Int) < (r.fail.length : Int)) = False := eq_false (by omega)
  obtain rfl : i = r.fail.length := by omega
  rw [List.take_of_length_le (Nat.le_refl _)] at hR_τc
  simp only [Jnf, nilS] at rP
  simp (maxSteps := 1000000) (disch := first | omega | decide +kernel | (simp only [symN] <;> omega) | assumption) only [Jaa, Jac, reduceIte, Nat.reduceEqDiff, Nat.reduceAdd, Nat.reduceMul, Nat.add_assoc, true_and, and_self, w1, w2, w3, ws, wl, wi, hlt, rO', rR, rP, qR, qP, qO, qRr, qPr, qOr, qOR, qOP]
  have HK : ∀ S, Jad σ S → SlR S s.which 1 (r.which.map Ja8) := fun S k => ha.which.keeps hw (hkb.trans k)
  have KS : ∀ (S : St), S = S → True := fun _ _ => trivial
  refine ⟨⟨.slice bT r.to.length kT, .slice bF r.fin.length kF, .slice bX r.fail.length kX, s.which⟩, by rw [e3]; rfl, ⟨?_, ?_, ?_, HK _ ?_⟩, ?_⟩
  · refine ((((hR_τa.keepO hOb_τa hKO_τb).keepO hOb_τa hKO_τc).keepO hPb_τa (Jfy.mk ?_ fun B hB hBP => ?_))).sl (fun x hx => by obtain ⟨p, _, rfl⟩ := List.mem_map.1 hx; rfl)
    · (simp <;> omega)
    · have e := eq_false (fun e => hBP e.symm : ¬ P = B)
      simp [e]
  · refine (((hR_τb.keepO hOb_τb hKO_τc).keepO hPb_τb (Jfy.mk ?_ fun B hB hBP => ?_))).sl (fun x hx => by obtain ⟨p, _, rfl⟩ := List.mem_map.1 hx; rfl)
    · (simp <;> omega)
    · have e := eq_false (fun e => hBP e.symm : ¬ P = B)
      simp [e]
  · refine ((hR_τc.keepO hPb_τc (Jfy.mk ?_ fun B hB hBP => ?_))).sl (fun x hx => by obtain ⟨p, _, rfl⟩ := List.mem_map.1 hx; rfl)
    · (simp <;> omega)
    · have e := eq_false (fun e => hBP e.symm : ¬ P = B)
      simp [e]
  · repeat (first | exact H.keeps | apply Jad.bump' | apply Jad.setHint | refine Jad.setFam ?_ (by first | omega | (simp <;> omega)) | refine Jad.set ?_ (by first | omega | (simp <;> omega)))
  · repeat (first | exact H.keeps | apply Jad.bump' | apply Jad.setHint | refine Jad.setFam ?_ (by first | omega | (simp <;> omega)) | refine Jad.set ?_ (by first | omega | (simp <;> omega)))
end Go.Proofs
