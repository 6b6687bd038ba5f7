/-
  The reference's Bytes, a record of kind 3. No condition.
-/
import Derived.Test.YtedojhheppepdaaGreatDoorKRb3TFw0
namespace Go.Proofs
open Go Go.Ev
set_option maxRecDepth 100000
set_option linter.unusedSimpArgs false
set_option linter.unusedVariables false
set_option linter.defProp false
set_option maxHeartbeats 40000000
attribute [local irreducible] zTF Jcf zOp zO zQ1 zQ2 zObj zQ zU zW zCl zRd zLd zPr zIf Jci zC
theorem Jqe (may : ByteArray → ByteArray → Bool) (fin : Jan → Bool) (fail : Jaw → Bool) (r : RecM) (s : RecS) (σ : St) (hw : σ.Wf) (ha : Jbo σ r s) (hsm : r.Small)
    (hmay : ∀ τ, Jad σ τ → SimF Tryz.prog [] 17 #[.agg ⟨Jaj r s⟩] τ (.bool (mayM may fin fail r)) τ) (hM : mayM may fin fail r = true) (hnext : 0 ≤ r.next) (hkind : r.kind = 3) :
    TF Tryz.prog [] 14 #[.agg ⟨Jaj r s⟩] σ fun v σ' => Jk0 true (Jdl r) σ v σ' := by
  refine TF.walk (Jaf _) Jae Tryz.func14 (by kernel_rfl) rfl fun c hc => ?_
  cases hc
  have ca : (Value.agg ⟨Jaj r s⟩).cells = ⟨Jaj r s⟩ := rfl
  obtain ⟨b0, k0, e0⟩ := ha.to.shape
  obtain ⟨b1, k1, e1⟩ := ha.fin.shape
  obtain ⟨b2, k2, e2⟩ := ha.fail.shape
  obtain ⟨b3, k3, e3⟩ := ha.which.shape
  rw [List.length_map] at e0 e1 e2 e3
  obtain ⟨y0, y1, y2, y3, y5, y6, y7, y8, y9, y10, y11, y12⟩ := Jto r s
  have z5 := y5
  have z7 := y7
  have z8 := y8
  have z9 := y9
  rw [e0] at y5
  rw [e1] at y7
  rw [e2] at y8
  rw [e3] at y9
  rw [Jey, Jb8]
  simp (maxSteps := 1000000) (disch := first | omega | decide +kernel | (simp only [symN] <;> omega) | assumption) only [Jdj, Jac, reduceIte, Nat.reduceEqDiff, Nat.reduceAdd, Nat.reduceMul]
  refine Jff (fun env τ => ∃ R, eget env 1 = .pointer (some ⟨R, 0, none⟩) ∧ τ.get R = some (.cells true 0 R (Jaj r s)) ∧ Jad σ τ ∧ R < τ.next ∧ σ.next ≤ R) ?_ ?_
  · exact ⟨σ.next, by simp [Jab], by simp, by (repeat (first | exact Jad.refl _ | apply Jad.bump' | apply Jad.setHint | refine Jad.setFam ?_ (by first | omega | (simp <;> omega)) | refine Jad.set ?_ (by first | omega | (simp <;> omega)))), by simp, Nat.le_refl _⟩
  rintro env τ ⟨R, v1, gR, hk, HR, hRs⟩
  obtain ⟨x0, x1, x2, x3, x5, x6, x7, x8, x9, x10, x11, x12, x13⟩ := Jlb gR
  simp (maxSteps := 1000000) (disch := first | omega | decide +kernel | (simp only [symN] <;> omega) | assumption) only [Tryz.f14, Jaa, Jac, reduceIte, Nat.reduceEqDiff, Nat.reduceAdd, Nat.reduceMul, v1, x13]
  refine Ja3 (hmay _ (hk.trans .bump)) ?_
  rw [hM]
  obtain ⟨ht0, ht1⟩ := Jik hM
  have c1 : (((r.kind : Nat) : Int) = 1) = False := eq_false (by omega)
  have c2 : (((r.kind : Nat) : Int) = 2) = False := eq_false (by omega)
  have c3 : (((r.kind : Nat) : Int) = 3) = True := eq_true (by omega)
  have c4 : (((r.kind : Nat) : Int) = 4) = False := eq_false (by omega)
  have c5 : (((r.kind : Nat) : Int) = 5) = False := eq_false (by omega)
  have l2 : ((2 : Int) < ((r.kind : Nat) : Int)) = True := eq_true (by omega)
  have w1 : IntKind.u8.wrap ((r.kind : Nat) : Int) = (r.kind : Nat) := by rw [wrap_u8, Nat.mod_eq_of_lt hsm.kind]
  have w2 : IntKind.u64.wrap ((r.id : Nat) : Int) = (r.id : Nat) := Jbf .u64 r.id (show r.id < 18446744073709551616 by have := hsm.id; omega)
  have w3 : IntKind.u64.wrap r.tick = (r.tick.toNat : Nat) := by
    rw [← Int.toNat_of_nonneg ht0]; exact Jbf .u64 _ (show r.tick.toNat < 18446744073709551616 by omega)
  have w4 : IntKind.u64.wrap r.next = (r.next.toNat : Nat) := by
    rw [← Int.toNat_of_nonneg hnext]; exact Jbf .u64 _ (show r.next.toNat < 18446744073709551616 by have := hsm.next; omega)
  have n1 := hsm.fin
  have n2 := hsm.fail
  have n3 := hsm.to
  have n4 := hsm.which
  have n5 := hsm.snd
  have n6 := hsm.content
  have q2 := lt_q HR
  have q2r := Jb9 HR
  simp (maxSteps := 1000000) (disch := first | omega | decide +kernel | (simp only [symN] <;> omega) | assumption) only [Jaa, Jac, reduceIte, Nat.reduceEqDiff, Nat.reduceAdd, Nat.reduceMul, v1, Nat.add_assoc, y0, y1, y2, y3, y5, y6, y7, y8, y9, y10, y11, y12, c1, c2, c3, c4, c5, l2, w1, w2, w3, w4, Jaq, one1, Jau, Jav, Jat, gR, q2, q2r, Jgt]
  have hc0 : [Value.int IntKind.u8 ((r.kind : Nat) : Int)] = numL (r.kind : Nat) 1 := by
    simp only [numL, Jgq, Nat.pow_zero, Nat.div_one]
    rw [Nat.mod_eq_of_lt hsm.kind]
  have Hs := hk.next
  refine Ja9 (fun τ' => CAt σ τ' R 0 (Jaj r s) (τ.next + 9) 0 (τ.next + 9) (numL (r.kind : Nat) 1) ∧ τ.next + 18 ≤ τ'.next) ?_ ?_
  · rw [hc0]
    refine ⟨(CAt.start (hk.bump'.set (by omega)) ?_ (by simp; omega) hRs (by omega) (by omega) (by simp)).bump, by simp⟩
    simp [q2, q2r, gR]
  intro τ1 ⟨H, Hn⟩
  have h1 : (numL (r.kind : Nat) 1).length = 1 := Jap _ _
  have q3 := eq_false H.ne
  have htick : numL (r.tick.toNat : Nat) 8 = numL r.tick 8 := by rw [Int.toNat_of_nonneg ht0]
  have n7 := hsm.what
  refine Jbc (Jbn r.id 4 (by have := hsm.id; omega) (by decide) τ1) ?_
  rintro _ τ2 ⟨⟨A2, ver2, F2, rfl, hA2, hAs2, hAn2, hFs2⟩, hK2⟩
  have H2 := H.keep hK2
  have hn2 := hK2.next
  have hrow := H2.row
  have hrc := H2.rc
  have hsub : sub? (numL (r.id : Nat) 4) 0 (numL (r.id : Nat) 4).length = some (numL (r.id : Nat) 4) := Jbx rfl
  have a0 : (numL (r.id : Nat) 4).length ≠ 0 := by simp only [lenB]; omega
  have a1 : (numL (r.id : Nat) 4).length ≤ 200000 := by simp only [lenB]; omega
  have a2 : (numL (r.kind : Nat) 1).length ≤ 600000000 := by simp only [lenB]; omega
  have a3 : (numL (r.id : Nat) 4).all (·.oneCell') = true := Jdn _ _
  have HA : τ.next + 9 < τ.next + 11 := by omega
  have q1f : (τ.next + 16 = τ.next + 9) = False := eq_false (by omega)
  have a4 : (numL (r.kind : Nat) 1 ++ numL (r.id : Nat) 4).length ≤ 700000000 := by rw [List.length_append]; omega
  simp (maxSteps := 1000000) (disch := first | omega | decide +kernel | (simp only [symN] <;> omega) | assumption) only [Jaa, Jac, reduceIte, Nat.reduceEqDiff, Nat.reduceAdd, Nat.reduceMul, v1, Nat.add_assoc, y0, y1, y2, y3, y5, y6, y7, y8, y9, y10, y11, y12, c1, c2, c3, c4, c5, l2, w1, w2, w3, w4, Jaq, one1, Jau, Jav, Jat, hrow, hrc, hA2, hsub, q1f, q2, q2r, q3]
  refine Ja9 (fun τ' => CAt σ τ' R 0 (Jaj r s) _ 0 _ _ ∧ τ2.next + _ ≤ τ'.next ∧ _ < τ2.next ∧ ∀ B, B ≠ _ → B ≠ _ → τ'.get B = τ2.get B) (H2.appN (by omega) (by omega) (by omega) (by omega)) ?_
  have HR2 := H2.rn
  have Hs2 : σ.next ≤ τ2.next := by omega
  clear H Hn HA H2 hrow hrc hA2 hAs2 hAn2 hFs2 hK2 hn2 hsub a0 a1 a2 a3 a4 q2 q3 HR Hs q1f q2r
  intro τ3 ⟨H, Hn, HA, Hg⟩
  have HR := HR2
  have Hs := Hs2
  clear HR2 Hs2
  refine Jbc (Jbn r.tick.toNat 8 (by omega) (by decide) τ3) ?_
  rintro _ τ4 ⟨⟨A2, ver2, F2, rfl, hA2, hAs2, hAn2, hFs2⟩, hK2⟩
  have H2 := H.keep hK2
  have hn2 := hK2.next
  have hrow := H2.row
  have hrc := H2.rc
  have hsub : sub? (numL (r.tick.toNat : Nat) 8) 0 (numL (r.tick.toNat : Nat) 8).length = some (numL (r.tick.toNat : Nat) 8) := Jbx rfl
  have a0 : (numL (r.tick.toNat : Nat) 8).length ≠ 0 := by simp only [lenB]; omega
  have a1 : (numL (r.tick.toNat : Nat) 8).length ≤ 200000 := by simp only [lenB]; omega
  have a2 : (numL (r.kind : Nat) 1 ++ numL (r.id : Nat) 4).length ≤ 600000000 := by simp only [lenB]; omega
  have a3 : (numL (r.tick.toNat : Nat) 8).all (·.oneCell') = true := Jdn _ _
  have q1 := lt_q HA
  have q2 := lt_q HR
  have q3 := eq_false H.ne
  have a4 : (numL (r.kind : Nat) 1 ++ numL (r.id : Nat) 4 ++ numL (r.tick.toNat : Nat) 8).length ≤ 700000000 := by rw [List.length_append]; omega
  have qz1 : ∀ k, k < 6 → (τ4.next = τ2.next + k) = False := fun k hk => eq_false (by omega)
  have qz2 : ∀ k, (τ4.next + k = τ2.next) = False := fun k => eq_false (by omega)
  simp (maxSteps := 1000000) (disch := first | omega | decide +kernel | (simp only [symN] <;> omega) | assumption) only [Jaa, Jac, reduceIte, Nat.reduceEqDiff, Nat.reduceAdd, Nat.reduceMul, v1, Nat.add_assoc, y0, y1, y2, y3, y5, y6, y7, y8, y9, y10, y11, y12, c1, c2, c3, c4, c5, l2, w1, w2, w3, w4, Jaq, one1, Jau, Jav, Jat, hrow, hrc, hA2, hsub, q1, q2, q3, qz1, qz2]
  refine Jay (Jaf _) Jae (fun kk env' (τ' : St) => ∃ i A F C, i + kk = r.which.length ∧ C = numL (r.kind : Nat) 1 ++ numL (r.id : Nat) 4 ++ numL (r.tick.toNat : Nat) 8 ++ [Value.int IntKind.u8 (r.which.length : Nat)] ++ (r.which.take i).flatMap Jbp ∧ CAt σ τ' R 0 (Jaj r s) A 0 F C ∧ eget env' 1 = .pointer (some ⟨R, 0, none⟩) ∧ eget env' 4 = .slice (some ⟨A, 0, none⟩) C.length 2 ∧ eget env' 9 = .int .i64 (i : Nat)) (n := r.which.length) (by kernel_rfl) ?_ ?_
  · refine ⟨0, _, _, _, by omega, ?hC, CAt.bump (CAt.app (CAt.setNew (CAt.bump (CAt.app H2 ?_ ?_ ?_ ?_)) ?_ ?_ ?_) ?_ ?_ ?_ ?_), by simp [Jab, v1], ?h4, by simp [Jab]⟩
    case hC => simp only [List.take_zero, List.flatMap_nil, List.append_nil]
    case h4 => simp only [Jab, if_true, if_false, Nat.reduceEqDiff, reduceIte]
    all_goals first | omega | (simp only [St.next_set, St.next_setFam, St.next_setHint, St.next_bump]; omega)
  intro kk env' τ6 hI
  obtain ⟨i, A, F, C, hi, hC, H, v1, v4, vi⟩ := hI
  have HA := H.an
  have HR := H.rn
  have Hs := H.keeps.next
  have q3 := eq_false H.ne
  have hrc := H.rc
  have hrow := H.row
  have q1 := lt_q HA
  have q2 := lt_q HR
  have q2r := Jb9 HR
  have q1r := Jb9 HA
  have hcl : C.length ≤ 500000000 := by
    rw [hC, List.length_append]
    have h0 := Jc1 (f := Jbp) (l := r.which.take i) (n := 1) (fun x hx => by simp [Jbp, Jap])
    have h2 : (numL (r.kind : Nat) 1 ++ numL (r.id : Nat) 4 ++ numL (r.tick.toNat : Nat) 8 ++ [Value.int IntKind.u8 (r.which.length : Nat)]).length ≤ 200000000 := by simp only [lenB]; omega
    have h3 : (r.which.take i).length ≤ 150 := by rw [List.length_take]; omega
    omega
  by_cases hk0 : kk = 0
  case neg =>
    obtain ⟨k9, rfl⟩ : ∃ k9, kk = k9 + 1 := ⟨kk - 1, by omega⟩
    have hil : i < r.which.length := by omega
    have hlt : ((i : Int) < (r.which.length : Int)) = True := eq_true (by omega)
    have hr0 : ∃ A' o k', s.which = .slice (some ⟨A', o, none⟩) r.which.length k' ∧ ∀ m, rdG (τ6.bump m) (τ6.get A') (o + i * 1) 1 = some (Ja8 r.which[i]) := by
      rcases ha.which.keeps hw H.keeps with ⟨hnil, _⟩ | ⟨A', o, k', cc, h1, hcc, hr⟩
      · have e : r.which.length = 0 := by simpa using congrArg List.length hnil
        omega
      · refine ⟨A', o, k', by rw [h1, List.length_map], fun m => ?_⟩
        have := SlR.rd (k := 0) hcc hr (i := i) (by simpa using hil) m
        rw [this]; simp
    obtain ⟨A', o, k', hsl, hrd⟩ := hr0
    have yy : sub? (Jaj r s) 9 1 = some [.slice (some ⟨A', o, none⟩) r.which.length k'] := by rw [z9, hsl]
    have ib : ((i : Nat) : Int) < ((r.which.length : Nat) : Int) := by omega
    have ib0 : (0 : Int) ≤ ((i : Nat) : Int) := by omega
    have wi : IntKind.i64.wrap ((i : Int) + 1) = ((i + 1 : Nat) : Int) := Jbt i 1 (by omega)
    simp only [Nat.mul_one, Ja8] at hrd
    simp (maxSteps := 1000000) (disch := first | omega | decide +kernel | (simp only [symN] <;> omega) | assumption) only [Jaa, Jac, reduceIte, Nat.reduceEqDiff, Nat.reduceAdd, Nat.reduceMul, v1, Nat.add_assoc, y0, y1, y2, y3, y5, y6, y7, y8, y10, y11, y12, c1, c2, c3, c4, c5, l2, w1, w2, w3, w4, Jaq, one1, Jau, Jav, Jat, yy, v4, vi, wi, hlt, hrd, ib, ib0, hrc, hrow, q1, q2, q3]
    refine ⟨k9, by omega, i + 1, _, _, _, by omega, ?hC, CAt.bump (CAt.app (CAt.setNew (CAt.bump H) ?_ ?_ ?_) ?_ ?_ ?_ ?_), by first | exact v1 | trivial | rfl, ?h4, by first | rfl | trivial⟩
    case hC => rw [hC, List.take_succ_eq_append_getElem hil, List.flatMap_append]; simp [Jbp, Jm7, List.append_assoc]
    case h4 => first | rfl | trivial
    all_goals first | omega | (simp only [St.next_set, St.next_setFam, St.next_setHint, St.next_bump]; omega)
  have hlt : ((i : Int) < (r.which.length : Int)) = False := eq_false (by omega)
  rw [List.take_of_length_le (by omega)] at hC
  simp (maxSteps := 1000000) (disch := first | omega | decide +kernel | (simp only [symN] <;> omega) | assumption) only [Jaa, Jac, reduceIte, Nat.reduceEqDiff, Nat.reduceAdd, Nat.reduceMul, v1, Nat.add_assoc, y0, y1, y2, y3, y5, y6, y7, y8, y9, y10, y11, y12, c1, c2, c3, c4, c5, l2, w1, w2, w3, w4, Jaq, one1, Jau, Jav, Jat, v4, vi, hlt, hrc, hrow, q1, q2, q3]
  refine Ja9 (fun τ' => CAt σ τ' R 0 (Jaj r s) A 0 F C ∧ τ6.next + _ ≤ τ'.next) ⟨H.bump, Nat.le_refl _⟩ ?_
  intro τ7 ⟨H, Hn⟩
  clear hrc hrow q1 q2 q2r q3 q1r
  have hnx : numL (r.next.toNat : Nat) 8 = numL r.next 8 := by rw [Int.toNat_of_nonneg hnext]
  refine Jbc (Jbn r.next.toNat 8 (by have := hsm.next; omega) (by decide) τ7) ?_
  rintro _ τ8 ⟨⟨A2, ver2, F2, rfl, hA2, hAs2, hAn2, hFs2⟩, hK2⟩
  have H2 := H.keep hK2
  have hn2 := hK2.next
  have hrow := H2.row
  have hrc := H2.rc
  have hsub : sub? (numL (r.next.toNat : Nat) 8) 0 (numL (r.next.toNat : Nat) 8).length = some (numL (r.next.toNat : Nat) 8) := Jbx rfl
  have a0 : (numL (r.next.toNat : Nat) 8).length ≠ 0 := by simp only [lenB]; omega
  have a1 : (numL (r.next.toNat : Nat) 8).length ≤ 200000 := by simp only [lenB]; omega
  have a2 : (C).length ≤ 600000000 := by omega
  have a3 : (numL (r.next.toNat : Nat) 8).all (·.oneCell') = true := Jdn _ _
  have q1 := lt_q HA
  have q2 := lt_q HR
  have q3 := eq_false H.ne
  have a4 : (C ++ numL (r.next.toNat : Nat) 8).length ≤ 700000000 := by rw [List.length_append]; omega
  have hform : Jdl r = C ++ numL (r.next.toNat : Nat) 8 := by
    rw [hC, htick, hnx]; simp [Jdl, Jj4, Jlk, Jlj, Jli, hkind, rowL, ← Jij (show r.which.length < 256 by omega), List.append_assoc]
  by_cases hlong : 16384 < (C ++ numL (r.next.toNat : Nat) 8).length
  · have hl1 : ((16384 : Int) < ((C ++ numL (r.next.toNat : Nat) 8).length : Int)) = True := eq_true (by omega)
    simp (maxSteps := 1000000) (disch := first | omega | decide +kernel | (simp only [symN] <;> omega) | assumption) only [Jaa, Jac, reduceIte, Nat.reduceEqDiff, Nat.reduceAdd, Nat.reduceMul, v1, Nat.add_assoc, y0, y1, y2, y3, y5, y6, y7, y8, y9, y10, y11, y12, c1, c2, c3, c4, c5, l2, w1, w2, w3, w4, Jaq, one1, Jau, Jav, Jat, hrow, hrc, hA2, hsub, q1, q2, q3, v4, vi, hl1]
    rw [hform]
    refine ⟨.inr (.inl ⟨rfl, hlong, rfl⟩), CAt.keeps (CAt.bump (CAt.app H2 ?_ ?_ ?_ ?_))⟩
    all_goals first | omega | (simp only [St.next_set, St.next_setFam, St.next_setHint, St.next_bump]; omega)
  · have hl1 : ((16384 : Int) < ((C ++ numL (r.next.toNat : Nat) 8).length : Int)) = False := eq_false (by omega)
    simp (maxSteps := 1000000) (disch := first | omega | decide +kernel | (simp only [symN] <;> omega) | assumption) only [Jaa, Jac, reduceIte, Nat.reduceEqDiff, Nat.reduceAdd, Nat.reduceMul, v1, Nat.add_assoc, y0, y1, y2, y3, y5, y6, y7, y8, y9, y10, y11, y12, c1, c2, c3, c4, c5, l2, w1, w2, w3, w4, Jaq, one1, Jau, Jav, Jat, hrow, hrc, hA2, hsub, q1, q2, q3, v4, vi, hl1]
    rw [hform]
    refine ⟨.inr (.inr ⟨rfl, by omega, _, 0, _, rfl, CAt.row (CAt.bump (CAt.app H2 ?_ ?_ ?_ ?_))⟩), CAt.keeps (CAt.bump (CAt.app H2 ?_ ?_ ?_ ?_))⟩
    all_goals first | omega | (simp only [St.next_set, St.next_setFam, St.next_setHint, St.next_bump]; omega)
end Go.Proofs
