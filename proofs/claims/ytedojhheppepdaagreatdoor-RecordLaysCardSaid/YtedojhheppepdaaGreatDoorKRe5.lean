/-
  The reference's Domain. No condition.
-/
import Derived.Test.YtedojhheppepdaaGreatDoorKRe4
namespace Go.Proofs
open Go Go.Ev
set_option maxRecDepth 100000
set_option linter.unusedSimpArgs false
set_option linter.unusedVariables false
set_option linter.defProp false
set_option maxHeartbeats 40000000
attribute [local irreducible] zTF Jcf zOp zO zQ1 zQ2 zObj zQ zU zW zCl zRd zLd zPr zIf Jci zC
theorem Jj3 (c : UInt8) : Jmn c = (Jnx c.toNat || decide (c.toNat = 45)) := rfl
theorem Kny {l : List UInt8} {fr i : Nat} (h : fr < i) (hi : i ≤ l.length) : ((l.take i).drop fr).head? = some (l.getD fr 0) := by
  rw [List.head?_drop, List.getElem?_take_of_lt h, List.getElem?_eq_getElem (by omega), getD_at l fr (by omega)]
theorem Knx {l : List UInt8} {fr i : Nat} (h : fr < i) (hi : i ≤ l.length) : ((l.take i).drop fr).getLast? = some (l.getD (i - 1) 0) := by
  rw [List.getLast?_eq_getElem?, List.getElem?_drop, List.length_drop, List.length_take]
  rw [show fr + (min i l.length - fr - 1) = i - 1 from by omega, List.getElem?_take_of_lt (by omega), List.getElem?_eq_getElem (by omega), getD_at l (i - 1) (by omega)]
theorem Kbc {l : List UInt8} {fr i : Nat} (h : fr < i) (hi : i ≤ l.length) : Jh4 ((l.take i).drop fr) = (!decide ((l.getD fr 0).toNat = 45) && !decide ((l.getD (i - 1) 0).toNat = 45)) := by
  have hne : ((l.take i).drop fr).isEmpty = false := by
    rw [List.isEmpty_eq_false_iff]
    intro e
    have := congrArg List.length e
    rw [List.length_drop, List.length_take, List.length_nil] at this
    omega
  unfold Jh4
  rw [Kny h hi, Knx h hi, hne]
  rfl
theorem Kfu {l : List UInt8} {fr i : Nat} (hi : i ≤ l.length) : Jkj ((l.take i).drop fr) = decide (63 < i - fr) := by
  unfold Jkj
  rw [List.length_drop, List.length_take, Nat.min_eq_left hi]
theorem Jo6 (l : List UInt8) (hl : l.length < 100000000) : Jai 201 [.string (bStr l)] (.int .i64 (domV l : Nat)) := by
  refine Ja6 rfl rfl (TF.walk (Jaf _) Jae Tryz.func201 (by kernel_rfl) rfl fun c hc => ?_)
  cases hc
  have hsz := Jbh l
  cases hp : Lib.hasPrefix l [91] with
  | true =>
    have hv : domV l = if litR l then 0 else 5 := by rw [domV, hp, if_pos rfl, Kr5 hp]
    rw [Ji1, Bool.and_eq_true, decide_eq_true_eq, decide_eq_true_eq] at hp
    obtain ⟨hp1, hp2⟩ := hp
    have p1 : ((0 : Int) < ((bStr l).size : Int)) = True := eq_true (by rw [hsz]; omega)
    have i0 : (0 : Int) < ((bStr l).size : Int) := by rw [hsz]; omega
    have p2 : (((l.getD 0 0).toNat : Int) = 91) = True := eq_true (by omega)
    simp (maxSteps := 1000000) (disch := first | omega | decide +kernel | (simp only [symN] <;> omega) | assumption) only [Tryz.f201, Jaa, Jac, reduceIte, Nat.reduceEqDiff, Nat.reduceAdd, Nat.reduceMul, p1, i0, p2, Jax]
    refine Ja3 (Joy l hl _) ?_
    by_cases hL : litR l = true
    · simp (maxSteps := 1000000) (disch := first | omega | decide +kernel | (simp only [symN] <;> omega) | assumption) only [Jaa, Jac, reduceIte, Nat.reduceEqDiff, Nat.reduceAdd, Nat.reduceMul, hL]
      rw [hv, hL]; rfl
    · have hL : litR l = false := by simpa using hL
      simp (maxSteps := 1000000) (disch := first | omega | decide +kernel | (simp only [symN] <;> omega) | assumption) only [Jaa, Jac, reduceIte, Nat.reduceEqDiff, Nat.reduceAdd, Nat.reduceMul, hL]
      rw [hv, hL]; rfl
  | false =>
  have hv : domV l = Jh3 l := by rw [domV, hp]; rfl
  have hnames := Kbx l
  have hstart : (∃ b : Bool, True) := ⟨true, trivial⟩
  have w0 : decide ((255 : Int) < ((bStr l).size : Int)) = decide (255 < l.length) := by congr 1; rw [hsz]; exact propext (by omega)
  have first : ∀ (Q : Prop), (decide (0 < l.length) = false → Q) → (0 < l.length → decide ((l.getD 0 0).toNat = 91) = false → Q) → Q := fun Q h1 h2 => by
    rw [Ji1] at hp
    by_cases h : 0 < l.length
    · rw [decide_eq_true h, Bool.true_and] at hp
      exact h2 h hp
    · exact h1 (decide_eq_false h)
  have inv : ∀ env τ, eget env 0 = .string (bStr l) → eget env 2 = .int .i64 0 → eget env 3 = .bool (decide (255 < l.length)) → eget env 4 = .int .i64 0 → eget env 5 = .int .i64 0 →
      (fun kk env (τ : St) => ∃ i fr long, i + kk = l.length + 1 ∧ fr ≤ i ∧ eget env 0 = .string (bStr l) ∧ eget env 2 = .int .i64 0 ∧ eget env 3 = .bool long ∧ eget env 4 = .int .i64 (fr : Nat) ∧ eget env 5 = .int .i64 (i : Nat) ∧ (i ≤ l.length → Jh3 l = refD ((l.take i).drop fr) (l.drop i) long) ∧ (i = l.length + 1 → Jh3 l = if long then 3 else 0)) (l.length + 1) env τ := fun env τ e0 e2 e3 e4 e5 =>
    ⟨0, 0, _, by omega, Nat.le_refl _, e0, e2, e3, e4, e5, fun _ => hnames.symm, fun h => by omega⟩
  rcases Nat.eq_zero_or_pos l.length with hz | hz
  · obtain rfl : l = [] := List.eq_nil_of_length_eq_zero hz
    have hs0 : ((bStr []).size : Int) = 0 := rfl
    have z0 : ((0 : Int) < 0) = False := eq_false (by omega)
    have z1 : ((255 : Int) < 0) = False := eq_false (by omega)
    have z2 : ((0 : Int) ≤ 0) = True := eq_true (by omega)
    have z3 : ((0 : Int) = 0) = True := eq_true rfl
    simp (maxSteps := 1000000) (disch := first | omega | decide +kernel | (simp only [symN] <;> omega) | assumption) only [Tryz.f201, Jaa, Jac, reduceIte, Nat.reduceEqDiff, Nat.reduceAdd, Nat.reduceMul, hs0, z0, z1, decide_false]
    refine Jay (Jaf _) Jae (fun kk env (τ : St) => eget env 0 = .string (bStr []) ∧ eget env 4 = .int .i64 0 ∧ eget env 5 = .int .i64 0) (n := 1) (by kernel_rfl) ⟨by simp [Jab], by simp [Jab], by simp [Jab]⟩ ?_
    rintro kk env τ ⟨e0, e4, e5⟩
    simp (maxSteps := 1000000) (disch := first | omega | decide +kernel | (simp only [symN] <;> omega) | assumption) only [Jaa, Jac, reduceIte, Nat.reduceEqDiff, Nat.reduceAdd, Nat.reduceMul, e0, e4, e5, hs0, z0, z2, z3]
    rw [hv]; rfl
  · have p1 : ((0 : Int) < ((bStr l).size : Int)) = True := eq_true (by rw [hsz]; omega)
    have i0 : (0 : Int) < ((bStr l).size : Int) := by rw [hsz]; omega
    have p2 : (((l.getD 0 0).toNat : Int) = 91) = False := eq_false (fun h => by
      rw [Ji1, decide_eq_true hz, Bool.true_and, decide_eq_false_iff_not] at hp
      omega)
    simp (maxSteps := 1000000) (disch := first | omega | decide +kernel | (simp only [symN] <;> omega) | assumption) only [Tryz.f201, Jaa, Jac, reduceIte, Nat.reduceEqDiff, Nat.reduceAdd, Nat.reduceMul, p1, i0, p2, w0, Jax]
    refine Jay (Jaf _) Jae (fun kk env (τ : St) => ∃ i fr long, i + kk = l.length + 1 ∧ fr ≤ i ∧ eget env 0 = .string (bStr l) ∧ eget env 2 = .int .i64 0 ∧ eget env 3 = .bool long ∧ eget env 4 = .int .i64 (fr : Nat) ∧ eget env 5 = .int .i64 (i : Nat) ∧ (i ≤ l.length → Jh3 l = refD ((l.take i).drop fr) (l.drop i) long) ∧ (i = l.length + 1 → Jh3 l = if long then 3 else 0)) (n := l.length + 1) (by kernel_rfl) (inv _ (stOf 1000 []) (by simp [Jab]) (by simp [Jab]) (by simp [Jab, w0]) (by simp [Jab]) (by simp [Jab])) ?_
    rintro kk env τ ⟨i, fr, long, hi, hfi, e0, e2, e3, e4, e5, hn, hend⟩
    cases kk with
    | zero =>
      have hle : ((i : Int) ≤ ((bStr l).size : Int)) = False := eq_false (by rw [hsz]; omega)
      cases long with
      | true =>
        simp (maxSteps := 1000000) (disch := first | omega | decide +kernel | (simp only [symN] <;> omega) | assumption) only [Jaa, Jac, reduceIte, Nat.reduceEqDiff, Nat.reduceAdd, Nat.reduceMul, e0, e2, e3, e4, e5, hle, decide_false]
        rw [hv, hend (by omega)]; rfl
      | false =>
        simp (maxSteps := 1000000) (disch := first | omega | decide +kernel | (simp only [symN] <;> omega) | assumption) only [Jaa, Jac, reduceIte, Nat.reduceEqDiff, Nat.reduceAdd, Nat.reduceMul, e0, e2, e3, e4, e5, hle, decide_false]
        rw [hv, hend (by omega)]; rfl
    | succ kk =>
      have hil : i ≤ l.length := by omega
      have hle : ((i : Int) ≤ ((bStr l).size : Int)) = True := eq_true (by rw [hsz]; omega)
      have hn := hn hil
      have w5 : IntKind.i64.wrap ((i : Int) + 1) = ((i + 1 : Nat) : Int) := Jbt i 1 (by omega)
      have w6 : IntKind.i64.wrap ((i : Int) - (fr : Int)) = ((i - fr : Nat) : Int) := Jjx i fr hfi (by omega)
      have ib : (0 : Int) ≤ ((i : Nat) : Int) := by omega
      have fb : (0 : Int) ≤ ((fr : Nat) : Int) := by omega
      have hdn : (l.take (i + 1)).drop (i + 1) = [] := List.drop_of_length_le (by rw [List.length_take]; omega)
      by_cases hlast : i = l.length
      · have hlt0 : ((i : Int) < ((bStr l).size : Int)) = False := eq_false (by rw [hsz]; omega)
        have hdr : l.drop i = [] := List.drop_of_length_le (by omega)
        by_cases hfe : i = fr
        · have q1 : ((i : Int) = (fr : Int)) = True := eq_true (by omega)
          have hcur : (l.take i).drop fr = [] := List.drop_of_length_le (by rw [List.length_take]; omega)
          simp (maxSteps := 1000000) (disch := first | omega | decide +kernel | (simp only [symN] <;> omega) | assumption) only [Jaa, Jac, reduceIte, Nat.reduceEqDiff, Nat.reduceAdd, Nat.reduceMul, e0, e2, e3, e4, e5, hle, hlt0, q1]
          rw [hv, hn, hcur, hdr]; simp [refD, Jh4]
        have q1 : ((i : Int) = (fr : Int)) = False := eq_false (by omega)
        have hlt : fr < i := by omega
        have fb2 : ((fr : Nat) : Int) < ((bStr l).size : Int) := by rw [hsz]; omega
        have w7 : IntKind.i64.wrap ((i : Int) - 1) = ((i - 1 : Nat) : Int) := Jjx i 1 (by omega) (by omega)
        have ib3 : (0 : Int) ≤ ((i - 1 : Nat) : Int) := by omega
        have ib4 : ((i - 1 : Nat) : Int) < ((bStr l).size : Int) := by rw [hsz]; omega
        have hedge := Kbc hlt hil
        by_cases a1 : (l.getD fr 0).toNat = 45
        · have a1' : (((l.getD fr 0).toNat : Int) = 45) = True := eq_true (by omega)
          rw [decide_eq_true a1] at hedge
          simp (maxSteps := 1000000) (disch := first | omega | decide +kernel | (simp only [symN] <;> omega) | assumption) only [Jaa, Jac, reduceIte, Nat.reduceEqDiff, Nat.reduceAdd, Nat.reduceMul, e0, e2, e3, e4, e5, hle, hlt0, q1, fb, fb2, Jax, a1']
          rw [hv, hn, hdr, refD, hedge]; simp
        have a1' : (((l.getD fr 0).toNat : Int) = 45) = False := eq_false (by omega)
        by_cases a2 : (l.getD (i - 1) 0).toNat = 45
        · have a2' : (((l.getD (i - 1) 0).toNat : Int) = 45) = True := eq_true (by omega)
          rw [decide_eq_true a2] at hedge
          simp (maxSteps := 1000000) (disch := first | omega | decide +kernel | (simp only [symN] <;> omega) | assumption) only [Jaa, Jac, reduceIte, Nat.reduceEqDiff, Nat.reduceAdd, Nat.reduceMul, e0, e2, e3, e4, e5, hle, hlt0, q1, fb, fb2, w7, ib3, ib4, Jax, a1', a2']
          rw [hv, hn, hdr, refD, hedge]; simp
        have a2' : (((l.getD (i - 1) 0).toNat : Int) = 45) = False := eq_false (by omega)
        rw [decide_eq_false a1, decide_eq_false a2] at hedge
        have hlong := Kfu (fr := fr) hil
        by_cases a3 : 63 < i - fr
        · have a3' : ((63 : Int) < ((i - fr : Nat) : Int)) = True := eq_true (by omega)
          rw [decide_eq_true a3] at hlong
          simp (maxSteps := 1000000) (disch := first | omega | decide +kernel | (simp only [symN] <;> omega) | assumption) only [Jaa, Jac, reduceIte, Nat.reduceEqDiff, Nat.reduceAdd, Nat.reduceMul, e0, e2, e3, e4, e5, hle, hlt0, q1, fb, fb2, w5, w6, w7, ib3, ib4, Jax, a1', a2', a3']
          refine ⟨kk, by omega, i + 1, i + 1, true, by omega, Nat.le_refl _, (by first | rfl | trivial), (by first | rfl | trivial), (by first | rfl | trivial), (by first | rfl | trivial), (by first | rfl | trivial), fun h => ?_, fun h => ?_⟩
          · omega
          · rw [hn, hdr, refD, hedge, hlong]; simp
        · have a3' : ((63 : Int) < ((i - fr : Nat) : Int)) = False := eq_false (by omega)
          rw [decide_eq_false a3] at hlong
          simp (maxSteps := 1000000) (disch := first | omega | decide +kernel | (simp only [symN] <;> omega) | assumption) only [Jaa, Jac, reduceIte, Nat.reduceEqDiff, Nat.reduceAdd, Nat.reduceMul, e0, e2, e3, e4, e5, hle, hlt0, q1, fb, fb2, w5, w6, w7, ib3, ib4, Jax, a1', a2', a3']
          refine ⟨kk, by omega, i + 1, i + 1, long, by omega, Nat.le_refl _, (by first | rfl | trivial), (by first | rfl | trivial), (by first | rfl | trivial), (by first | rfl | trivial), (by first | rfl | trivial), fun h => ?_, fun h => ?_⟩
          · omega
          · rw [hn, hdr, refD, hedge, hlong]; simp
      have hii : i < l.length := by omega
      have hlt0 : ((i : Int) < ((bStr l).size : Int)) = True := eq_true (by rw [hsz]; omega)
      have ib2 : ((i : Nat) : Int) < ((bStr l).size : Int) := by rw [hsz]; omega
      have hg := getD_at l i hii
      have hdr : l.drop i = l[i] :: l.drop (i + 1) := List.drop_eq_getElem_cons hii
      by_cases hdot : l[i].toNat = 46
      · have hdot' : ((l[i].toNat : Int) = 46) = True := eq_true (by omega)
        by_cases hfe : i = fr
        · have q1 : ((i : Int) = (fr : Int)) = True := eq_true (by omega)
          have hcur : (l.take i).drop fr = [] := List.drop_of_length_le (by rw [List.length_take]; omega)
          simp (maxSteps := 1000000) (disch := first | omega | decide +kernel | (simp only [symN] <;> omega) | assumption) only [Jaa, Jac, reduceIte, Nat.reduceEqDiff, Nat.reduceAdd, Nat.reduceMul, e0, e2, e3, e4, e5, hle, hlt0, ib, ib2, Jax, hg, hdot', q1]
          rw [hv, hn, hdr, refD, if_pos hdot, hcur]; simp [Jh4]
        have q1 : ((i : Int) = (fr : Int)) = False := eq_false (by omega)
        have hlt : fr < i := by omega
        have fb2 : ((fr : Nat) : Int) < ((bStr l).size : Int) := by rw [hsz]; omega
        have w7 : IntKind.i64.wrap ((i : Int) - 1) = ((i - 1 : Nat) : Int) := Jjx i 1 (by omega) (by omega)
        have ib3 : (0 : Int) ≤ ((i - 1 : Nat) : Int) := by omega
        have ib4 : ((i - 1 : Nat) : Int) < ((bStr l).size : Int) := by rw [hsz]; omega
        have hedge := Kbc hlt hil
        by_cases a1 : (l.getD fr 0).toNat = 45
        · have a1' : (((l.getD fr 0).toNat : Int) = 45) = True := eq_true (by omega)
          rw [decide_eq_true a1] at hedge
          simp (maxSteps := 1000000) (disch := first | omega | decide +kernel | (simp only [symN] <;> omega) | assumption) only [Jaa, Jac, reduceIte, Nat.reduceEqDiff, Nat.reduceAdd, Nat.reduceMul, e0, e2, e3, e4, e5, hle, hlt0, ib, ib2, Jax, hg, hdot', q1, fb, fb2, Jax, a1']
          rw [hv, hn, hdr, refD, if_pos hdot, hedge]; simp
        have a1' : (((l.getD fr 0).toNat : Int) = 45) = False := eq_false (by omega)
        by_cases a2 : (l.getD (i - 1) 0).toNat = 45
        · have a2' : (((l.getD (i - 1) 0).toNat : Int) = 45) = True := eq_true (by omega)
          rw [decide_eq_true a2] at hedge
          simp (maxSteps := 1000000) (disch := first | omega | decide +kernel | (simp only [symN] <;> omega) | assumption) only [Jaa, Jac, reduceIte, Nat.reduceEqDiff, Nat.reduceAdd, Nat.reduceMul, e0, e2, e3, e4, e5, hle, hlt0, ib, ib2, Jax, hg, hdot', q1, fb, fb2, w7, ib3, ib4, Jax, a1', a2']
          rw [hv, hn, hdr, refD, if_pos hdot, hedge]; simp
        have a2' : (((l.getD (i - 1) 0).toNat : Int) = 45) = False := eq_false (by omega)
        rw [decide_eq_false a1, decide_eq_false a2] at hedge
        have hlong := Kfu (fr := fr) hil
        by_cases a3 : 63 < i - fr
        · have a3' : ((63 : Int) < ((i - fr : Nat) : Int)) = True := eq_true (by omega)
          rw [decide_eq_true a3] at hlong
          simp (maxSteps := 1000000) (disch := first | omega | decide +kernel | (simp only [symN] <;> omega) | assumption) only [Jaa, Jac, reduceIte, Nat.reduceEqDiff, Nat.reduceAdd, Nat.reduceMul, e0, e2, e3, e4, e5, hle, hlt0, ib, ib2, Jax, hg, hdot', q1, fb, fb2, w5, w6, w7, ib3, ib4, Jax, a1', a2', a3']
          refine ⟨kk, by omega, i + 1, i + 1, true, by omega, Nat.le_refl _, (by first | rfl | trivial), (by first | rfl | trivial), (by first | rfl | trivial), (by first | rfl | trivial), (by first | rfl | trivial), fun h => ?_, fun h => ?_⟩
          · rw [hn, hdr, refD, if_pos hdot, hedge, hlong, hdn]; simp
          · omega
        · have a3' : ((63 : Int) < ((i - fr : Nat) : Int)) = False := eq_false (by omega)
          rw [decide_eq_false a3] at hlong
          simp (maxSteps := 1000000) (disch := first | omega | decide +kernel | (simp only [symN] <;> omega) | assumption) only [Jaa, Jac, reduceIte, Nat.reduceEqDiff, Nat.reduceAdd, Nat.reduceMul, e0, e2, e3, e4, e5, hle, hlt0, ib, ib2, Jax, hg, hdot', q1, fb, fb2, w5, w6, w7, ib3, ib4, Jax, a1', a2', a3']
          refine ⟨kk, by omega, i + 1, i + 1, long, by omega, Nat.le_refl _, (by first | rfl | trivial), (by first | rfl | trivial), (by first | rfl | trivial), (by first | rfl | trivial), (by first | rfl | trivial), fun h => ?_, fun h => ?_⟩
          · rw [hn, hdr, refD, if_pos hdot, hedge, hlong, hdn]; simp
          · omega
      have hdot' : ((l[i].toNat : Int) = 46) = False := eq_false (by omega)
      simp (maxSteps := 1000000) (disch := first | omega | decide +kernel | (simp only [symN] <;> omega) | assumption) only [Jaa, Jac, reduceIte, Nat.reduceEqDiff, Nat.reduceAdd, Nat.reduceMul, e0, e2, e3, e4, e5, hle, hlt0, ib, ib2, Jax, hg, hdot']
      refine Ja3 (Jpp l[i].toNat _) ?_
      have hcur : (l.take (i + 1)).drop fr = (l.take i).drop fr ++ [l[i]] := by rw [List.take_succ_eq_append_getElem hii, List.drop_append_of_le_length (by rw [List.length_take]; omega)]
      by_cases hle2 : Jnx l[i].toNat = true
      · skip
        have hh : Jmn l[i] = true := by rw [Jj3, hle2]; rfl
        simp (maxSteps := 1000000) (disch := first | omega | decide +kernel | (simp only [symN] <;> omega) | assumption) only [Jaa, Jac, reduceIte, Nat.reduceEqDiff, Nat.reduceAdd, Nat.reduceMul, e0, e2, e3, e4, e5, w5, hle2]
        refine ⟨kk, by omega, i + 1, fr, long, by omega, by omega, (by first | rfl | trivial), (by first | rfl | trivial), (by first | rfl | trivial), (by first | rfl | trivial), (by first | rfl | trivial), fun h => ?_, fun h => by omega⟩
        rw [hn, hdr, refD, if_neg hdot, if_pos hh, hcur]
      · have hle2 : Jnx l[i].toNat = false := by simpa using hle2
        by_cases hhy : l[i].toNat = 45
        · have hh : Jmn l[i] = true := by rw [Jj3, decide_eq_true hhy]; simp
          have hhy' : ((l[i].toNat : Int) = 45) = True := eq_true (by omega)
          simp (maxSteps := 1000000) (disch := first | omega | decide +kernel | (simp only [symN] <;> omega) | assumption) only [Jaa, Jac, reduceIte, Nat.reduceEqDiff, Nat.reduceAdd, Nat.reduceMul, e0, e2, e3, e4, e5, w5, ib, ib2, Jax, hg, hle2, hhy']
          refine ⟨kk, by omega, i + 1, fr, long, by omega, by omega, (by first | rfl | trivial), (by first | rfl | trivial), (by first | rfl | trivial), (by first | rfl | trivial), (by first | rfl | trivial), fun h => ?_, fun h => by omega⟩
          rw [hn, hdr, refD, if_neg hdot, if_pos hh, hcur]
        · have hh : ¬ Jmn l[i] = true := by rw [Jj3, hle2, decide_eq_false hhy]; simp
          have hhy' : ((l[i].toNat : Int) = 45) = False := eq_false (by omega)
          simp (maxSteps := 1000000) (disch := first | omega | decide +kernel | (simp only [symN] <;> omega) | assumption) only [Jaa, Jac, reduceIte, Nat.reduceEqDiff, Nat.reduceAdd, Nat.reduceMul, e0, e2, e3, e4, e5, w5, ib, ib2, Jax, hg, hle2, hhy']
          rw [hv, hn, hdr, refD, if_neg hdot, if_neg hh]; rfl
end Go.Proofs
