/-
  The evaluator and the contracts, merged out of 7 texts (Re6 to Rb1). No condition.
-/
import Derived.Test.YtedojhheppepdaaGreatDoorKRe5
import Derived.Test.YtedojhheppepdaaGreatDoorKSr7TSr2
import Derived.Test.YtedojhheppepdaaGreatDoorKTyRTSr6
import Derived.Test.YtedojhheppepdaaGreatDoorKSrb
import Derived.Test.YtedojhheppepdaaGreatDoorKWa3TRe2
namespace Go.Proofs
open Go Go.Ev
set_option maxRecDepth 100000
set_option linter.unusedSimpArgs false
set_option linter.unusedVariables false
set_option linter.defProp false
set_option maxHeartbeats 4000000
attribute [local irreducible] zTF Jcf zOp zO zQ1 zQ2 zObj zQ zU zW zCl zRd zLd zPr zIf Jci zC
def mayD (l d : ByteArray) : Bool := mayB domB l d
theorem Knn (l : ByteArray) : isE l = decide (l.size < 1) := by
  unfold isE
  rw [eqS, Bool.eq_iff_iff, decide_eq_true_eq, decide_eq_true_eq]
  constructor
  · rintro rfl; decide
  · intro h
    rw [← Jkp l]
    have : l.data.toList = [] := List.eq_nil_of_length_eq_zero (by simpa using (show l.size = 0 by omega))
    rw [this]; rfl
theorem Jml (d : ByteArray) (hd : d.size < 100000000) : Jai 201 [.string d] (.int .i64 (domV d.data.toList : Nat)) := by
  have h := Jo6 d.data.toList (by simpa using hd)
  rwa [Jkp] at h
theorem Jdt (l d : ByteArray) (hl : l.size < 100000000) (hd : d.size < 100000000) : Jai 200 [.agg ⟨Jbb l d⟩] (.bool (mayD l d)) := by
  refine Ja6 (by simp [Ja5, flat0, Jbb]) rfl (TF.walk (Jaf _) Jae Tryz.func200 (by kernel_rfl) rfl fun c hc => ?_)
  cases hc
  unfold Jbb
  have hE := Knn l
  by_cases h1 : 1 ≤ l.size
  case neg =>
    have h1' : ((1 : Int) ≤ (l.size : Int)) = False := eq_false (by omega)
    simp (maxSteps := 1000000) (disch := first | omega | decide +kernel | (simp only [symN] <;> omega) | assumption) only [Tryz.f200, Jaa, Jac, reduceIte, Nat.reduceEqDiff, Nat.reduceAdd, Nat.reduceMul, h1', decide_false]
    rw [mayD, mayB, hE, decide_eq_true (by omega)]; rfl
  have h1' : ((1 : Int) ≤ (l.size : Int)) = True := eq_true (by omega)
  by_cases h2 : l.size ≤ 64
  case neg =>
    have h2' : ((l.size : Int) ≤ 64) = False := eq_false (by omega)
    simp (maxSteps := 1000000) (disch := first | omega | decide +kernel | (simp only [symN] <;> omega) | assumption) only [Tryz.f200, Jaa, Jac, reduceIte, Nat.reduceEqDiff, Nat.reduceAdd, Nat.reduceMul, h1', h2']
    rw [mayD, mayB, decide_eq_false h2]; simp
  have h2' : ((l.size : Int) ≤ 64) = True := eq_true (by omega)
  simp (maxSteps := 1000000) (disch := first | omega | decide +kernel | (simp only [symN] <;> omega) | assumption) only [Tryz.f200, Jaa, Jac, reduceIte, Nat.reduceEqDiff, Nat.reduceAdd, Nat.reduceMul, h1', h2']
  refine Ja3 (Jgg l (by omega) _) ?_
  by_cases h3 : Jfi l = true
  case neg =>
    have h3 : Jfi l = false := by simpa using h3
    simp (maxSteps := 1000000) (disch := first | omega | decide +kernel | (simp only [symN] <;> omega) | assumption) only [Jaa, Jac, reduceIte, Nat.reduceEqDiff, Nat.reduceAdd, Nat.reduceMul, h3]
    rw [mayD, mayB, h3]; simp
  simp (maxSteps := 1000000) (disch := first | omega | decide +kernel | (simp only [symN] <;> omega) | assumption) only [Jaa, Jac, reduceIte, Nat.reduceEqDiff, Nat.reduceAdd, Nat.reduceMul, h3]
  refine Ja3 (Jml d hd _) ?_
  have e : decide (((domV d.data.toList : Nat) : Int) = 0) = domB d := by unfold domB; congr 1; exact propext (by omega)
  simp (maxSteps := 1000000) (disch := first | omega | decide +kernel | (simp only [symN] <;> omega) | assumption) only [Jaa, Jac, reduceIte, Nat.reduceEqDiff, Nat.reduceAdd, Nat.reduceMul, e]
  rw [mayD, mayB, h3, hE, decide_eq_true h2, decide_eq_false (show ¬ l.size < 1 by omega)]; rfl
theorem Jx5 (l d : ByteArray) : Jet l d = Jrw l d := by
  have e : ∀ x : ByteArray, (x == ({ data := #[] } : ByteArray)) = decide (x = ByteArray.mk #[]) := fun x => by
    cases x with
    | mk a =>
      show (a == #[]) = _
      rw [Bool.eq_iff_iff, beq_iff_eq, decide_eq_true_eq, ByteArray.mk.injEq]
  unfold Jet Jrw
  rw [e, e]
theorem Jeu (may : ByteArray → ByteArray → Bool) (l d : ByteArray) (hmay : Jai 200 [.agg ⟨Jbb l d⟩] (.bool (may l d))) : Jai 130 [.agg ⟨Jbb l d⟩] (.bool (Jby may l d)) := by
  refine Ja6 (by simp [Ja5, flat0, Jbb]) rfl (TF.walk (Jaf _) Jae Tryz.func130 (by kernel_rfl) rfl fun c hc => ?_)
  cases hc
  unfold Jbb at hmay ⊢
  simp (maxSteps := 1000000) (disch := first | omega | decide +kernel | (simp only [symN] <;> omega) | assumption) only [Tryz.f130, Jaa, Jac, reduceIte, Nat.reduceEqDiff, Nat.reduceAdd, Nat.reduceMul]
  refine Ja3 (Jch l d _) ?_
  have hn := Jx5 l d
  by_cases h1 : Jet l d = true
  · simp (maxSteps := 1000000) (disch := first | omega | decide +kernel | (simp only [symN] <;> omega) | assumption) only [Jaa, Jac, reduceIte, Nat.reduceEqDiff, Nat.reduceAdd, Nat.reduceMul, h1]
    rw [Jby, ← hn, h1]; rfl
  have h1 : Jet l d = false := by simpa using h1
  simp (maxSteps := 1000000) (disch := first | omega | decide +kernel | (simp only [symN] <;> omega) | assumption) only [Jaa, Jac, reduceIte, Nat.reduceEqDiff, Nat.reduceAdd, Nat.reduceMul, h1]
  refine Ja3 (hmay _) ?_
  simp (maxSteps := 1000000) (disch := first | omega | decide +kernel | (simp only [symN] <;> omega) | assumption) only [Jaa, Jac, reduceIte, Nat.reduceEqDiff, Nat.reduceAdd, Nat.reduceMul]
  rw [Jby, ← hn, h1]; rfl
theorem Jmo (may : ByteArray → ByteArray → Bool) (f : Jaw) (hmay : Jai 200 [.agg ⟨Jbb f.l f.d⟩] (.bool (may f.l f.d))) (ht : f.text.size < 9223372036854775807) : Jai 132 [.agg ⟨f.cells⟩] (.bool (Jpg may f)) := by
  refine Ja6 (by simp [Ja5, flat0, Jaw.cells]) rfl (TF.walk (Jaf _) Jae Tryz.func132 (by kernel_rfl) rfl fun c hc => ?_)
  cases hc
  unfold Jaw.cells
  have e3 : decide ((f.text.size : Int) ≤ 200) = decide (f.text.size ≤ 200) := by congr 1; exact propext (by omega)
  have e2 : decide (f.code < 600) = decide (f.code ≤ 599) := by congr 1; exact propext (by omega)
  simp (maxSteps := 1000000) (disch := first | omega | decide +kernel | (simp only [symN] <;> omega) | assumption) only [Tryz.f132, Jaa, Jac, reduceIte, Nat.reduceEqDiff, Nat.reduceAdd, Nat.reduceMul]
  refine Ja3 (hmay _) ?_
  by_cases hm : may f.l f.d = true
  case neg =>
    have hm : may f.l f.d = false := by simpa using hm
    simp (maxSteps := 1000000) (disch := first | omega | decide +kernel | (simp only [symN] <;> omega) | assumption) only [Jaa, Jac, reduceIte, Nat.reduceEqDiff, Nat.reduceAdd, Nat.reduceMul, hm]
    simp [Jpg, hm]
  by_cases h1 : 400 ≤ f.code
  case neg =>
    simp (maxSteps := 1000000) (disch := first | omega | decide +kernel | (simp only [symN] <;> omega) | assumption) only [Jaa, Jac, reduceIte, Nat.reduceEqDiff, Nat.reduceAdd, Nat.reduceMul, hm, h1, decide_false]
    simp [Jpg, h1]
  by_cases h2 : f.code < 600
  case neg =>
    have h2b : ¬ f.code ≤ 599 := by omega
    simp (maxSteps := 1000000) (disch := first | omega | decide +kernel | (simp only [symN] <;> omega) | assumption) only [Jaa, Jac, reduceIte, Nat.reduceEqDiff, Nat.reduceAdd, Nat.reduceMul, hm, h1, h2]
    simp [Jpg, h2b]
  have h2b : f.code ≤ 599 := by omega
  by_cases h3 : f.text.size ≤ 200
  case neg =>
    simp (maxSteps := 1000000) (disch := first | omega | decide +kernel | (simp only [symN] <;> omega) | assumption) only [Jaa, Jac, reduceIte, Nat.reduceEqDiff, Nat.reduceAdd, Nat.reduceMul, hm, h1, h2, h3, e3]
    simp [Jpg, h3]
  simp (maxSteps := 1000000) (disch := first | omega | decide +kernel | (simp only [symN] <;> omega) | assumption) only [Jaa, Jac, reduceIte, Nat.reduceEqDiff, Nat.reduceAdd, Nat.reduceMul, hm, h1, h2, h3, e3]
  refine Ja3 (Jgg f.text ht _) ?_
  simp (maxSteps := 1000000) (disch := first | omega | decide +kernel | (simp only [symN] <;> omega) | assumption) only [Jaa, Jac, reduceIte, Nat.reduceEqDiff, Nat.reduceAdd, Nat.reduceMul]
  simp [Jpg, hm, h1, h2b, h3]
theorem Jp1 (may : ByteArray → ByteArray → Bool) (f : Jan) (m1 : Jai 200 [.agg ⟨Jbb f.l f.d⟩] (.bool (may f.l f.d))) (m2 : Jai 200 [.agg ⟨Jbb f.sl f.sd⟩] (.bool (may f.sl f.sd))) (m3 : Jai 200 [.agg ⟨Jbb f.vl f.vd⟩] (.bool (may f.vl f.vd)))
    (hb : f.box.size < 9223372036854775807) (hh : f.host.size < 100000000) : Jai 131 [.agg ⟨f.cells⟩] (.bool (Jio domB may f)) := by
  refine Ja6 (by simp [Ja5, flat0, Jan.cells]) rfl (TF.walk (Jaf _) Jae Tryz.func131 (by kernel_rfl) rfl fun c hc => ?_)
  cases hc
  have p2 := Jeu may _ _ m2
  have p3 := Jeu may _ _ m3
  have hno := Jx5 f.sl f.sd
  have pn := Jch f.sl f.sd
  unfold Jbb at m1 p2 p3
  unfold Jan.cells
  simp (maxSteps := 1000000) (disch := first | omega | decide +kernel | (simp only [symN] <;> omega) | assumption) only [Tryz.f131, Jaa, Jac, reduceIte, Nat.reduceEqDiff, Nat.reduceAdd, Nat.reduceMul, true_and, and_self]
  refine Ja3 (m1 _) ?_
  by_cases h1 : may f.l f.d = true
  case neg =>
    have h1 : may f.l f.d = false := by simpa using h1
    simp (maxSteps := 1000000) (disch := first | omega | decide +kernel | (simp only [symN] <;> omega) | assumption) only [Jaa, Jac, reduceIte, Nat.reduceEqDiff, Nat.reduceAdd, Nat.reduceMul, h1, true_and, and_self]
    simp [Jio, h1]
  simp (maxSteps := 1000000) (disch := first | omega | decide +kernel | (simp only [symN] <;> omega) | assumption) only [Jaa, Jac, reduceIte, Nat.reduceEqDiff, Nat.reduceAdd, Nat.reduceMul, h1, true_and, and_self]
  refine Ja3 (p2 _) ?_
  by_cases h2 : Jby may f.sl f.sd = true
  case neg =>
    have h2 : Jby may f.sl f.sd = false := by simpa using h2
    simp (maxSteps := 1000000) (disch := first | omega | decide +kernel | (simp only [symN] <;> omega) | assumption) only [Jaa, Jac, reduceIte, Nat.reduceEqDiff, Nat.reduceAdd, Nat.reduceMul, h2, true_and, and_self]
    simp [Jio, h2]
  simp (maxSteps := 1000000) (disch := first | omega | decide +kernel | (simp only [symN] <;> omega) | assumption) only [Jaa, Jac, reduceIte, Nat.reduceEqDiff, Nat.reduceAdd, Nat.reduceMul, h2, true_and, and_self]
  refine Ja3 (p3 _) ?_
  by_cases h3 : Jby may f.vl f.vd = true
  case neg =>
    have h3 : Jby may f.vl f.vd = false := by simpa using h3
    simp (maxSteps := 1000000) (disch := first | omega | decide +kernel | (simp only [symN] <;> omega) | assumption) only [Jaa, Jac, reduceIte, Nat.reduceEqDiff, Nat.reduceAdd, Nat.reduceMul, h3, true_and, and_self]
    simp [Jio, h3]
  simp (maxSteps := 1000000) (disch := first | omega | decide +kernel | (simp only [symN] <;> omega) | assumption) only [Jaa, Jac, reduceIte, Nat.reduceEqDiff, Nat.reduceAdd, Nat.reduceMul, h3, true_and, and_self]
  refine Ja3 (pn _) ?_
  by_cases h4 : (f.owner == Jet f.sl f.sd) = true
  · have h4' : f.owner = Jet f.sl f.sd := by simpa using h4
    simp (maxSteps := 1000000) (disch := first | omega | decide +kernel | (simp only [symN] <;> omega) | assumption) only [Jaa, Jac, reduceIte, Nat.reduceEqDiff, Nat.reduceAdd, Nat.reduceMul, h4, true_and, and_self]
    have : Jio domB may f = false := by unfold Jio; rw [h4', hno]; cases Jrw f.sl f.sd <;> simp
    rw [this]
  have h4 : (f.owner == Jet f.sl f.sd) = false := by simpa using h4
  have h4' : f.owner = !(Jrw f.sl f.sd) := by rw [← hno]; revert h4; cases f.owner <;> cases Jet f.sl f.sd <;> simp
  have hfin : Jio domB may f = Jl2 domB f := by unfold Jio; rw [h1, h2, h3, h4']; simp
  by_cases h5 : isE f.box = true
  · have h5' : (f.box.toList == ({ data := #[] } : ByteArray).toList) = true := h5
    simp (maxSteps := 1000000) (disch := first | omega | decide +kernel | (simp only [symN] <;> omega) | assumption) only [Jaa, Jac, reduceIte, Nat.reduceEqDiff, Nat.reduceAdd, Nat.reduceMul, h4, h5', true_and, and_self]
    refine Ja3 (Jml f.host hh _) ?_
    have e : decide (((domV f.host.data.toList : Nat) : Int) = 0) = domB f.host := by unfold domB; congr 1; exact propext (by omega)
    simp (maxSteps := 1000000) (disch := first | omega | decide +kernel | (simp only [symN] <;> omega) | assumption) only [Jaa, Jac, reduceIte, Nat.reduceEqDiff, Nat.reduceAdd, Nat.reduceMul, e, true_and, and_self]
    rw [hfin, Jl2, h5]; rfl
  have h5 : isE f.box = false := by simpa using h5
  have h5' : (f.box.toList == ({ data := #[] } : ByteArray).toList) = false := h5
  by_cases h6 : isE f.host = true
  case neg =>
    have h6 : isE f.host = false := by simpa using h6
    have h6' : (f.host.toList == ({ data := #[] } : ByteArray).toList) = false := h6
    simp (maxSteps := 1000000) (disch := first | omega | decide +kernel | (simp only [symN] <;> omega) | assumption) only [Jaa, Jac, reduceIte, Nat.reduceEqDiff, Nat.reduceAdd, Nat.reduceMul, h4, h5', h6', true_and, and_self]
    rw [hfin, Jl2, h5, h6]; simp
  have h6' : (f.host.toList == ({ data := #[] } : ByteArray).toList) = true := h6
  by_cases h7 : f.box.size ≤ 64
  case neg =>
    have h7' : ((f.box.size : Int) ≤ 64) = False := eq_false (by omega)
    simp (maxSteps := 1000000) (disch := first | omega | decide +kernel | (simp only [symN] <;> omega) | assumption) only [Jaa, Jac, reduceIte, Nat.reduceEqDiff, Nat.reduceAdd, Nat.reduceMul, h4, h5', h6', h7', decide_false, true_and, and_self]
    rw [hfin, Jl2, h5, decide_eq_false h7]; simp
  have h7' : ((f.box.size : Int) ≤ 64) = True := eq_true (by omega)
  simp (maxSteps := 1000000) (disch := first | omega | decide +kernel | (simp only [symN] <;> omega) | assumption) only [Jaa, Jac, reduceIte, Nat.reduceEqDiff, Nat.reduceAdd, Nat.reduceMul, h4, h5', h6', h7', decide_true, true_and, and_self]
  refine Ja3 (Jgg f.box hb _) ?_
  simp (maxSteps := 1000000) (disch := first | omega | decide +kernel | (simp only [symN] <;> omega) | assumption) only [Jaa, Jac, reduceIte, Nat.reduceEqDiff, Nat.reduceAdd, Nat.reduceMul, true_and, and_self]
  rw [hfin, Jl2, h5, h6, decide_eq_true h7]; simp
theorem TF.exact {P : Program} {gl : List Nat} {f : FuncId} {args : Array Value} {σ : St} {u : Value} (h : TF P gl f args σ fun v σ' => ∃ m, v = u ∧ σ' = σ.bump m) : SimF P gl f args σ u σ := by
  obtain ⟨v, σ', hs, m, rfl, rfl⟩ := h
  exact hs.unbump
theorem Jbu (may : ByteArray → ByteArray → Bool) (l : List (ByteArray × ByteArray)) (s : Value) (σ : St) (hs : SlR σ s 2 (l.map Jbz)) (hl : l.length < 100000000) (hm : ∀ p ∈ l, Jai 200 [.agg ⟨Jbb p.1 p.2⟩] (.bool (may p.1 p.2))) :
    SimF Tryz.prog [] 128 #[s] σ (.bool (l.all fun p => may p.1 p.2)) σ := by
  refine TF.exact (TF.walk (Jaf _) Jae Tryz.func128 (by kernel_rfl) rfl fun c hc => ?_)
  cases hc
  obtain ⟨b0, k0, e0⟩ := hs.shape
  rw [List.length_map] at e0
  simp (maxSteps := 1000000) (disch := first | omega | decide +kernel | (simp only [symN] <;> omega) | assumption) only [Tryz.f128, Jaa, Jac, reduceIte, Nat.reduceEqDiff, Nat.reduceAdd, Nat.reduceMul]
  refine Jay (Jaf _) Jae (fun kk env τ => ∃ i m, i + kk = l.length ∧ τ = σ.bump m ∧ ((l.take i).all fun p => may p.1 p.2) = true ∧ eget env 0 = s ∧ eget env 3 = .int .i64 (i : Nat)) (n := l.length) (by kernel_rfl) ?_ ?_
  · exact ⟨0, _, by omega, rfl, by simp, by simp [Jab], by simp [Jab]⟩
  rintro kk env τ ⟨i, m, hi, rfl, hall, e0', e3⟩
  cases kk with
  | zero =>
    have hlt : ((i : Int) < (l.length : Int)) = False := eq_false (by omega)
    rw [List.take_of_length_le (by omega)] at hall
    rw [e0] at e0'
    simp (maxSteps := 1000000) (disch := first | omega | decide +kernel | (simp only [symN] <;> omega) | assumption) only [Jaa, Jac, reduceIte, Nat.reduceEqDiff, Nat.reduceAdd, Nat.reduceMul, e0', e3, hlt, decide_false]
    exact ⟨_, by rw [hall], rfl⟩
  | succ kk =>
    have hil : i < l.length := by omega
    have hlt : ((i : Int) < (l.length : Int)) = True := eq_true (by omega)
    have hr0 : ∃ A o k, s = .slice (some ⟨A, o, none⟩) l.length k ∧ ∀ m, rdG (σ.bump m) (σ.get A) (o + i * 2) 2 = some [.string l[i].1, .string l[i].2] := by
      rcases hs with ⟨hnil, _⟩ | ⟨A, o, k, cc, h1, hcc, hr⟩
      · have e : l.length = 0 := by simpa using congrArg List.length hnil
        omega
      · refine ⟨A, o, k, by rw [h1, List.length_map], fun m => ?_⟩
        have := SlR.rd (k := 0) hcc hr (i := i) (by simpa using hil) m
        rw [this]; simp [Jbz, Jbb]
    obtain ⟨A, o, k, hsl, hrd⟩ := hr0
    rw [hsl] at e0'
    have ib : ((i : Nat) : Int) < ((l.length : Nat) : Int) := by omega
    have w5 : IntKind.i64.wrap ((i : Int) + 1) = ((i + 1 : Nat) : Int) := Jbt i 1 (by omega)
    have hb := hm l[i] (List.getElem_mem hil)
    unfold Jbb at hb
    simp (maxSteps := 1000000) (disch := first | omega | decide +kernel | (simp only [symN] <;> omega) | assumption) only [Jaa, Jac, reduceIte, Nat.reduceEqDiff, Nat.reduceAdd, Nat.reduceMul, e0', e3, hlt, decide_true, hrd, ib]
    refine Ja3 (hb _) ?_
    by_cases h1 : may l[i].1 l[i].2 = true
    · simp (maxSteps := 1000000) (disch := first | omega | decide +kernel | (simp only [symN] <;> omega) | assumption) only [Jaa, Jac, reduceIte, Nat.reduceEqDiff, Nat.reduceAdd, Nat.reduceMul, e0', e3, h1, w5]
      refine ⟨kk, by omega, i + 1, _, by omega, rfl, ?_, hsl.symm, rfl⟩
      rw [List.take_succ_eq_append_getElem hil, List.all_append, hall, List.all_cons, h1]; rfl
    · have h1 : may l[i].1 l[i].2 = false := by simpa using h1
      have hf : (l.all fun p => may p.1 p.2) = false := by rw [List.all_eq_false]; exact ⟨l[i], List.getElem_mem hil, by rw [h1]; simp⟩
      simp (maxSteps := 1000000) (disch := first | omega | decide +kernel | (simp only [symN] <;> omega) | assumption) only [Jaa, Jac, reduceIte, Nat.reduceEqDiff, Nat.reduceAdd, Nat.reduceMul, e0', e3, h1]
      exact ⟨_, by rw [hf], rfl⟩
def Joh (prev : Option Int) (z : Int) : Bool := match prev with | none => true | some p => decide (p < z)
def Jbl (prev : Option Int) : List Int → Bool
  | [] => true
  | z :: r => decide (0 ≤ z) && decide (z ≤ 127) && Joh prev z && Jbl (some z) r
theorem Jds {prev : Option Int} {z : Int} {r : List Int} : Jbl prev (z :: r) = (decide (0 ≤ z) && decide (z ≤ 127) && Joh prev z && Jbl (some z) r) := rfl
def Jkg (l : List Int) (i : Nat) : Option Int := if i = 0 then none else l[i - 1]?
theorem Jca (l : List Int) (s : Value) (σ : St) (hs : SlR σ s 1 (l.map Ja8)) (hl : l.length < 100000000) :
    SimF Tryz.prog [] 129 #[s] σ (.bool (Jbl none l)) σ := by
  refine TF.exact (TF.walk (Jaf _) Jae Tryz.func129 (by kernel_rfl) rfl fun c hc => ?_)
  cases hc
  obtain ⟨b0, k0, e0⟩ := hs.shape
  rw [List.length_map] at e0
  simp (maxSteps := 1000000) (disch := first | omega | decide +kernel | (simp only [symN] <;> omega) | assumption) only [Tryz.f129, Jaa, Jac, reduceIte, Nat.reduceEqDiff, Nat.reduceAdd, Nat.reduceMul]
  refine Jay (Jaf _) Jae (fun kk env τ => ∃ i m, i + kk = l.length ∧ τ = σ.bump m ∧ Jbl none l = Jbl (Jkg l i) (l.drop i) ∧ eget env 0 = s ∧ eget env 3 = .int .i64 (i : Nat)) (n := l.length) (by kernel_rfl) ?_ ?_
  · exact ⟨0, _, by omega, rfl, by simp [Jkg], by simp [Jab], by simp [Jab]⟩
  rintro kk env τ ⟨i, m, hi, rfl, hall, e0', e3⟩
  cases kk with
  | zero =>
    have hlt : ((i : Int) < (l.length : Int)) = False := eq_false (by omega)
    rw [List.drop_of_length_le (by omega)] at hall
    rw [e0] at e0'
    simp (maxSteps := 1000000) (disch := first | omega | decide +kernel | (simp only [symN] <;> omega) | assumption) only [Jaa, Jac, reduceIte, Nat.reduceEqDiff, Nat.reduceAdd, Nat.reduceMul, e0', e3, hlt, decide_false]
    exact ⟨_, by rw [hall]; rfl, rfl⟩
  | succ kk =>
    have hil : i < l.length := by omega
    have hlt : ((i : Int) < (l.length : Int)) = True := eq_true (by omega)
    have hr0 : ∃ A o k, s = .slice (some ⟨A, o, none⟩) l.length k ∧ ∀ j (hj : j < l.length) m, rdG (σ.bump m) (σ.get A) (o + j) 1 = some [.int .i64 l[j]] := by
      rcases hs with ⟨hnil, _⟩ | ⟨A, o, k, cc, h1, hcc, hr⟩
      · have e : l.length = 0 := by simpa using congrArg List.length hnil
        omega
      · refine ⟨A, o, k, by rw [h1, List.length_map], fun j hj m => ?_⟩
        have := SlR.rd (k := 0) hcc hr (i := j) (by simpa using hj) m
        rw [Nat.mul_one] at this
        rw [this]; simp [Ja8]
    obtain ⟨A, o, k, hsl, hrd0⟩ := hr0
    rw [hsl] at e0'
    have hrd := hrd0 i hil
    have ib : ((i : Nat) : Int) < ((l.length : Nat) : Int) := by omega
    have w5 : IntKind.i64.wrap ((i : Int) + 1) = ((i + 1 : Nat) : Int) := Jbt i 1 (by omega)
    have hdr : l.drop i = l[i] :: l.drop (i + 1) := List.drop_eq_getElem_cons hil
    rw [hdr] at hall
    have hpn : Jkg l (i + 1) = some l[i] := by
      unfold Jkg; rw [if_neg (by omega), Nat.add_sub_cancel, List.getElem?_eq_getElem hil]
    by_cases z1 : l[i] < 0
    · have z1' : ((l[i] : Int) < 0) = True := eq_true z1
      simp (maxSteps := 1000000) (disch := first | omega | decide +kernel | (simp only [symN] <;> omega) | assumption) only [Jaa, Jac, reduceIte, Nat.reduceEqDiff, Nat.reduceAdd, Nat.reduceMul, e0', e3, hlt, hrd, ib, z1']
      exact ⟨_, by rw [hall, Jds, decide_eq_false (show ¬ 0 ≤ l[i] by omega)]; rfl, rfl⟩
    have z1' : ((l[i] : Int) < 0) = False := eq_false z1
    by_cases z2 : 127 < l[i]
    · have z2' : ((127 : Int) < l[i]) = True := eq_true z2
      simp (maxSteps := 1000000) (disch := first | omega | decide +kernel | (simp only [symN] <;> omega) | assumption) only [Jaa, Jac, reduceIte, Nat.reduceEqDiff, Nat.reduceAdd, Nat.reduceMul, e0', e3, hlt, hrd, ib, z1', z2']
      exact ⟨_, by rw [hall, Jds, decide_eq_false (show ¬ l[i] ≤ 127 by omega)]; simp, rfl⟩
    have z2' : ((127 : Int) < l[i]) = False := eq_false z2
    have hgo : Joh (Jkg l i) l[i] = true → Jbl none l = Jbl (Jkg l (i + 1)) (l.drop (i + 1)) := fun h => by
      rw [hall, hpn, Jds, decide_eq_true (show 0 ≤ l[i] by omega), decide_eq_true (show l[i] ≤ 127 by omega), h]; simp
    by_cases z3 : i = 0
    · have z3' : ((0 : Int) < (i : Int)) = False := eq_false (by omega)
      simp (maxSteps := 1000000) (disch := first | omega | decide +kernel | (simp only [symN] <;> omega) | assumption) only [Jaa, Jac, reduceIte, Nat.reduceEqDiff, Nat.reduceAdd, Nat.reduceMul, e0', e3, hlt, hrd, ib, z1', z2', z3', w5]
      exact ⟨kk, by omega, i + 1, _, by omega, rfl, hgo (by rw [Jkg, if_pos z3]; rfl), hsl.symm, rfl⟩
    have z3' : ((0 : Int) < (i : Int)) = True := eq_true (by omega)
    have hpi : Jkg l i = some l[i - 1] := by unfold Jkg; rw [if_neg z3, List.getElem?_eq_getElem (by omega)]
    have hrd1 := hrd0 (i - 1) (by omega)
    have w6 : IntKind.i64.wrap ((i : Int) - 1) = ((i - 1 : Nat) : Int) := Jjx i 1 (by omega) (by omega)
    have ib3 : (0 : Int) ≤ ((i - 1 : Nat) : Int) := by omega
    have ib4 : ((i - 1 : Nat) : Int) < ((l.length : Nat) : Int) := by omega
    by_cases z4 : l[i] ≤ l[i - 1]
    · have z4' : (l[i] ≤ l[i - 1]) = True := eq_true z4
      simp (maxSteps := 1000000) (disch := first | omega | decide +kernel | (simp only [symN] <;> omega) | assumption) only [Jaa, Jac, reduceIte, Nat.reduceEqDiff, Nat.reduceAdd, Nat.reduceMul, e0', e3, hlt, hrd, hrd1, ib, ib3, ib4, z1', z2', z3', z4', w6]
      exact ⟨_, by rw [hall, Jds, hpi, Joh]; simp only [decide_eq_false (show ¬ l[i - 1] < l[i] by omega)]; simp, rfl⟩
    · have z4' : (l[i] ≤ l[i - 1]) = False := eq_false z4
      simp (maxSteps := 1000000) (disch := first | omega | decide +kernel | (simp only [symN] <;> omega) | assumption) only [Jaa, Jac, reduceIte, Nat.reduceEqDiff, Nat.reduceAdd, Nat.reduceMul, e0', e3, hlt, hrd, hrd1, ib, ib3, ib4, z1', z2', z3', z4', w5, w6]
      exact ⟨kk, by omega, i + 1, _, by omega, rfl, hgo (by rw [hpi]; simp [Joh]; omega), hsl.symm, rfl⟩
set_option maxHeartbeats 40000000
def Jaj (r : RecM) (s : RecS) : List Value := [.int .i64 (r.kind : Nat), .int .u32 (r.id : Nat), .int .i64 r.tick, .string r.sl, .string r.sd, s.to, .string r.content, s.fin, s.fail, s.which, .int .i64 (r.what : Nat), .int .i64 r.next, .int .u32 (r.new : Nat)]
theorem Jlb {τ : St} {A v F : Nat} {r : RecM} {s : RecS} (h : τ.get A = some (.cells true v F (Jaj r s))) :
    (∀ m, rdG (τ.bump m) (τ.get A) 0 1 = some [.int .i64 (r.kind : Nat)]) ∧ (∀ m, rdG (τ.bump m) (τ.get A) 1 1 = some [.int .u32 (r.id : Nat)]) ∧ (∀ m, rdG (τ.bump m) (τ.get A) 2 1 = some [.int .i64 r.tick]) ∧
    (∀ m, rdG (τ.bump m) (τ.get A) 3 2 = some [.string r.sl, .string r.sd]) ∧ (∀ m, rdG (τ.bump m) (τ.get A) 5 1 = some [s.to]) ∧ (∀ m, rdG (τ.bump m) (τ.get A) 6 1 = some [.string r.content]) ∧
    (∀ m, rdG (τ.bump m) (τ.get A) 7 1 = some [s.fin]) ∧ (∀ m, rdG (τ.bump m) (τ.get A) 8 1 = some [s.fail]) ∧ (∀ m, rdG (τ.bump m) (τ.get A) 9 1 = some [s.which]) ∧ (∀ m, rdG (τ.bump m) (τ.get A) 10 1 = some [.int .i64 (r.what : Nat)]) ∧
    (∀ m, rdG (τ.bump m) (τ.get A) 11 1 = some [.int .i64 r.next]) ∧ (∀ m, rdG (τ.bump m) (τ.get A) 12 1 = some [.int .u32 (r.new : Nat)]) ∧ (∀ m, rdG (τ.bump m) (τ.get A) 0 13 = some (Jaj r s)) := by
  rw [h]
  exact ⟨fun _ => rfl, fun _ => rfl, fun _ => rfl, fun _ => rfl, fun _ => rfl, fun _ => rfl, fun _ => rfl, fun _ => rfl, fun _ => rfl, fun _ => rfl, fun _ => rfl, fun _ => rfl, fun _ => rfl⟩
def Jbk (r : RecM) : Bool :=
  (decide (r.kind = 1) || decide (r.kind = 5) || (decide (r.to = []) && isE r.content)) && (decide (r.kind = 1) || Jet r.sl r.sd) &&
  (decide (r.kind = 2) || (decide (r.fin.length = 0) && decide (r.fail.length = 0))) && (decide (3 ≤ r.kind) || decide (r.which = [])) &&
  (decide (r.kind = 3) || decide (r.next = 0)) && (decide (r.kind = 4) || decide (r.what = 0)) && (decide (r.kind = 5) || decide (r.new = 0))
def Jcl (may : ByteArray → ByteArray → Bool) (fin : Jan → Bool) (fail : Jaw → Bool) (r : RecM) : Bool :=
  if r.kind = 1 then Jby may r.sl r.sd && decide (1 ≤ r.to.length) && decide (r.to.length ≤ 16)
  else if r.kind = 2 then r.fin.all fin && r.fail.all fail && decide (r.fin.length ≤ 64) && decide (r.fail.length ≤ 64)
  else if r.kind = 3 then decide (r.which.length = 1) && decide (0 ≤ r.next) && decide (r.next ≤ 1099511627776)
  else if r.kind = 4 then decide (r.which.length = 1) && decide (1 ≤ r.what) && decide (r.what ≤ 3)
  else if r.kind = 5 then decide (1 ≤ r.which.length) && decide (r.which.length ≤ 128) && decide (r.to.length = 1) && decide (r.id < r.new)
  else false
def refB (may : ByteArray → ByteArray → Bool) (fin : Jan → Bool) (fail : Jaw → Bool) (r : RecM) : Bool :=
  !(decide (r.id = 0)) && Jc4 r.tick && decide (r.content.size ≤ 8192) && Jbk r && (r.to.all fun p => may p.1 p.2) && Jbl none r.which && Jcl may fin fail r
structure Jd8 (may : ByteArray → ByteArray → Bool) (fin : Jan → Bool) (fail : Jaw → Bool) (r : RecM) : Prop where
  okSnd : Jai 200 [.agg ⟨Jbb r.sl r.sd⟩] (.bool (may r.sl r.sd))
  okTo : ∀ p ∈ r.to, Jai 200 [.agg ⟨Jbb p.1 p.2⟩] (.bool (may p.1 p.2))
  okFin : ∀ f ∈ r.fin, Jai 131 [.agg ⟨f.cells⟩] (.bool (fin f))
  okFail : ∀ f ∈ r.fail, Jai 132 [.agg ⟨f.cells⟩] (.bool (fail f))
set_option maxHeartbeats 4000000
def cutB (s : ByteArray) (n : Nat) : ByteArray := s.extract 0 (min s.size n)
theorem Jb5 (s : ByteArray) (n : Nat) : (cutB s n).size ≤ n := by simp only [cutB, ByteArray.size_extract]; omega
def fewA (p : ByteArray × ByteArray) : ByteArray × ByteArray := (cutB p.1 80, cutB p.2 300)
def fewF (f : Jan) : Jan := ⟨cutB f.l 80, cutB f.d 300, cutB f.box 80, cutB f.host 300, cutB f.sl 80, cutB f.sd 300, cutB f.vl 80, cutB f.vd 300, f.owner⟩
def fewX (f : Jaw) : Jaw := ⟨cutB f.l 80, cutB f.d 300, f.code, cutB f.text 250⟩
def fewM (r : RecM) : RecM := ⟨r.kind, r.id, r.tick, cutB r.sl 80, cutB r.sd 300, (r.to.take 20).map fewA, cutB r.content 9000, (r.fin.take 20).map fewF, (r.fail.take 20).map fewX, r.which.take 130, r.what, r.next, r.new⟩
structure RecM.Ints (r : RecM) : Prop where
  kind : r.kind < 256
  id : r.id < 4294967296
  tick : -9223372036854775808 ≤ r.tick ∧ r.tick < 9223372036854775808
  what : r.what < 256
  new : r.new < 4294967296
  next : -9223372036854775808 ≤ r.next ∧ r.next < 9223372036854775808
  code : ∀ f ∈ r.fail, -9223372036854775808 ≤ f.code ∧ f.code < 9223372036854775808
theorem RecM.Small.fits {r : RecM} (h : r.Small) : r.Fits :=
  ⟨h.kind, h.id, h.what, h.new, Nat.lt_of_le_of_lt h.to (by decide), Nat.lt_of_le_of_lt h.fin (by decide), Nat.lt_of_le_of_lt h.fail (by decide), Nat.lt_of_le_of_lt h.which (by decide)⟩
theorem Kco {r : RecM} (h : r.Ints) : (fewM r).Small := by
  refine ⟨h.kind, h.id, h.tick, h.what, h.new, h.next, ⟨?_, ?_⟩, ?_, ?_, ?_, ?_, ?_, ?_, ?_, ?_⟩
  · exact Nat.lt_of_le_of_lt (Jb5 _ _) (by decide)
  · exact Nat.lt_of_le_of_lt (Jb5 _ _) (by decide)
  · exact Nat.lt_of_le_of_lt (Jb5 _ _) (by decide)
  · simp only [fewM, List.length_map, List.length_take]; omega
  · simp only [fewM, List.length_map, List.length_take]; omega
  · simp only [fewM, List.length_map, List.length_take]; omega
  · simp only [fewM, List.length_take]; omega
  · intro p hp
    obtain ⟨q, _, rfl⟩ := List.mem_map.1 hp
    exact ⟨Nat.lt_of_le_of_lt (Jb5 _ _) (by decide), Nat.lt_of_le_of_lt (Jb5 _ _) (by decide)⟩
  · intro p hp
    obtain ⟨q, _, rfl⟩ := List.mem_map.1 hp
    exact ⟨Nat.lt_of_le_of_lt (Jb5 _ _) (by decide), Nat.lt_of_le_of_lt (Jb5 _ _) (by decide), Nat.lt_of_le_of_lt (Jb5 _ _) (by decide), Nat.lt_of_le_of_lt (Jb5 _ _) (by decide), Nat.lt_of_le_of_lt (Jb5 _ _) (by decide), Nat.lt_of_le_of_lt (Jb5 _ _) (by decide), Nat.lt_of_le_of_lt (Jb5 _ _) (by decide), Nat.lt_of_le_of_lt (Jb5 _ _) (by decide)⟩
  · intro p hp
    obtain ⟨q, _, rfl⟩ := List.mem_map.1 hp
    exact ⟨Nat.lt_of_le_of_lt (Jb5 _ _) (by decide), Nat.lt_of_le_of_lt (Jb5 _ _) (by decide), Nat.lt_of_le_of_lt (Jb5 _ _) (by decide), h.code q (List.mem_of_mem_take (by assumption))⟩
def finD (f : Jan) : Bool := Jio domB mayD f
def Jfn (f : Jaw) : Bool := Jpg mayD f
theorem Jfb (l d : ByteArray) (hd : d.size < 100000000) : Jai 64 [.agg ⟨Jbb l d⟩] (.bool (mayD l d)) := Jpb domB l d (Jgu d hd)
theorem Jrh {r : RecM} (h : r.Small) : Jjl mayD finD Jfn r where
  okSnd := Jfb _ _ (Nat.lt_trans h.snd.2 (by decide))
  okTo := fun p hp => Jfb _ _ (Nat.lt_trans (h.toS p hp).2 (by decide))
  okFin := fun f hf => Js5 domB mayD f (Jgu _ (Nat.lt_trans (h.finS f hf).host (by decide))) (Jfb _ _ (Nat.lt_trans (h.finS f hf).d (by decide))) (Jfb _ _ (Nat.lt_trans (h.finS f hf).sd (by decide))) (Jfb _ _ (Nat.lt_trans (h.finS f hf).vd (by decide)))
  okFail := fun f hf => Jo5 mayD f (Jfb _ _ (Nat.lt_trans (h.failS f hf).d (by decide))) (Nat.lt_trans (h.failS f hf).text (by decide))
  finQ := ⟨fun cs => match cs with | [.string a, .string b, .string c, .string d, .string e, .string f, .string g, .string h, .bool i] => finD ⟨a, b, c, d, e, f, g, h, i⟩ | _ => false, fun f _ => rfl⟩
  failQ := ⟨fun cs => match cs with | [.string a, .string b, .int _ c, .string d] => Jfn ⟨a, b, c, d⟩ | _ => false, fun f _ => rfl⟩
theorem Jox {r : RecM} (h : r.Small) : Jd8 mayD finD Jfn r where
  okSnd := Jdt _ _ (Nat.lt_trans h.snd.1 (by decide)) (Nat.lt_trans h.snd.2 (by decide))
  okTo := fun p hp => Jdt _ _ (Nat.lt_trans (h.toS p hp).1 (by decide)) (Nat.lt_trans (h.toS p hp).2 (by decide))
  okFin := fun f hf => Jp1 mayD f (Jdt _ _ (Nat.lt_trans (h.finS f hf).l (by decide)) (Nat.lt_trans (h.finS f hf).d (by decide))) (Jdt _ _ (Nat.lt_trans (h.finS f hf).sl (by decide)) (Nat.lt_trans (h.finS f hf).sd (by decide)))
    (Jdt _ _ (Nat.lt_trans (h.finS f hf).vl (by decide)) (Nat.lt_trans (h.finS f hf).vd (by decide))) (Nat.lt_trans (h.finS f hf).box (by decide)) (Nat.lt_trans (h.finS f hf).host (by decide))
  okFail := fun f hf => Jmo mayD f (Jdt _ _ (Nat.lt_trans (h.failS f hf).l (by decide)) (Nat.lt_trans (h.failS f hf).d (by decide))) (Nat.lt_trans (h.failS f hf).text (by decide))
theorem Jpi (s : ByteArray) (n : Nat) : Jai 98 [.string s, .int .i64 (n : Nat)] (.string (s.extract 0 (min s.size n))) := by
  refine Ja6 rfl rfl (TF.walk (Jaf _) Jae Tryz.func98 (by kernel_rfl) rfl fun c hc => ?_)
  cases hc
  have m0 : min ((s.size : Nat) : Int) ((n : Nat) : Int) = ((min s.size n : Nat) : Int) := by omega
  have m1 : (0 : Int) ≤ ((min s.size n : Nat) : Int) := by omega
  have m2 : ((min s.size n : Nat) : Int) ≤ ((s.size : Nat) : Int) := by omega
  simp (maxSteps := 1000000) (disch := first | omega | decide +kernel | (simp only [symN] <;> omega) | assumption) only [Tryz.f98, Jaa, Jac, reduceIte, Nat.reduceEqDiff, Nat.reduceAdd, Nat.reduceMul, m0, m1, m2]
theorem Jhq (l d : ByteArray) : Jai 114 [.agg ⟨Jbb l d⟩] (.agg ⟨Jbb l d⟩) := by
  refine Ja6 (by simp [Ja5, flat0, Jbb]) (by simp [Ja5, flat0, Jbb]) (TF.walk (Jaf _) Jae Tryz.func114 (by kernel_rfl) rfl fun c hc => ?_)
  cases hc
  unfold Jbb
  simp (maxSteps := 1000000) (disch := first | omega | decide +kernel | (simp only [symN] <;> omega) | assumption) only [Tryz.f114, Jaa, Jac, reduceIte, Nat.reduceEqDiff, Nat.reduceAdd, Nat.reduceMul]
theorem Jh7 (f : Jan) : Jai 115 [.agg ⟨f.cells⟩] (.agg ⟨f.cells⟩) := by
  refine Ja6 (by simp [Ja5, flat0, Jan.cells]) (by simp [Ja5, flat0, Jan.cells]) (TF.walk (Jaf _) Jae Tryz.func115 (by kernel_rfl) rfl fun c hc => ?_)
  cases hc
  unfold Jan.cells
  simp (maxSteps := 1000000) (disch := first | omega | decide +kernel | (simp only [symN] <;> omega) | assumption) only [Tryz.f115, Jaa, Jac, reduceIte, Nat.reduceEqDiff, Nat.reduceAdd, Nat.reduceMul]
theorem Jf6 (f : Jaw) : Jai 116 [.agg ⟨f.cells⟩] (.agg ⟨f.cells⟩) := by
  refine Ja6 (by simp [Ja5, flat0, Jaw.cells]) (by simp [Ja5, flat0, Jaw.cells]) (TF.walk (Jaf _) Jae Tryz.func116 (by kernel_rfl) rfl fun c hc => ?_)
  cases hc
  unfold Jaw.cells
  simp (maxSteps := 1000000) (disch := first | omega | decide +kernel | (simp only [symN] <;> omega) | assumption) only [Tryz.f116, Jaa, Jac, reduceIte, Nat.reduceEqDiff, Nat.reduceAdd, Nat.reduceMul]
def NewB (σ σ' : St) (v : Value) (bs : List Value) : Prop := (∃ A ver F, v = .slice (some ⟨A, 0, none⟩) bs.length 2 ∧ σ'.get A = some (.cells true ver F bs) ∧ σ.next ≤ A ∧ A < σ'.next ∧ σ.next ≤ F) ∧ Jad σ σ'
theorem wrap_u8 (m : Nat) : IntKind.u8.wrap (m : Int) = ((m % 256 : Nat) : Int) := by
  simp only [IntKind.wrap, IntKind.signed, IntKind.bits]
  simp
theorem Jgq (n k : Nat) : Jh5 (n : Int) k = .int .u8 ((n / 256 ^ k % 256 : Nat) : Int) := by
  unfold Jh5
  have e : (2 : Int) ^ (8 * k) = ((256 ^ k : Nat) : Int) := by rw [Int.natCast_pow, Int.pow_mul]; rfl
  rw [e, show ((n : Int).fdiv ((256 ^ k : Nat) : Int)) = ((n / 256 ^ k : Nat) : Int) from by rw [Int.fdiv_eq_ediv_of_nonneg _ (Int.natCast_nonneg _)]; rfl, wrap_u8]
def Khp := Jt3 (P := Tryz.prog) (t := 32) (e := 5) (z := .int .u8 0) Jc2 (by kernel_rfl) (by kernel_rfl)
theorem Jbn {gl : List Nat} (n many : Nat) (hn : n < 18446744073709551616) (hm : many ≤ 8) (σ : St) :
    TF Tryz.prog gl 111 #[.int .u64 (n : Nat), .int .i64 (many : Nat)] σ fun v σ' => NewB σ σ' v (numL (n : Nat) many) := by
  refine TF.walk (Jaf _) Jae Tryz.func111 (by kernel_rfl) rfl fun c hc => ?_
  cases hc
  have hmk := fun (id : Nat) (τ : St) => Khp id many .i64 .i64 τ (by omega)
  have wm : IntKind.i64.wrap ((many : Int) - 1) = (many : Int) - 1 := by
    cases many with
    | zero => decide
    | succ m => rw [show (((m + 1 : Nat) : Int) - 1) = (m : Nat) from by omega]; exact Jbf .i64 m (show m < 9223372036854775808 by omega)
  simp (maxSteps := 1000000) (disch := first | omega | decide +kernel | (simp only [symN] <;> omega) | assumption) only [Tryz.f111, Jaa, Jac, reduceIte, Nat.reduceEqDiff, Nat.reduceAdd, Nat.reduceMul, hmk, wm]
  refine Jay (Jaf _) Jae (fun kk env τ => ∃ A v F, kk ≤ many ∧ eget env 0 = .int .u64 ((n / 256 ^ (many - kk) : Nat) : Int) ∧ eget env 5 = .slice (some ⟨A, 0, none⟩) many 2 ∧ eget env 6 = .int .i64 ((kk : Int) - 1) ∧ σ.next ≤ A ∧ A < τ.next ∧ σ.next ≤ F ∧ τ.get A = some (.cells true v F (List.replicate kk (Value.int .u8 0) ++ numL (n : Nat) (many - kk))) ∧ Jad σ τ) (n := many) (by kernel_rfl) ?_ ?_
  · refine ⟨σ.next + 1 + 1, 0, σ.next + 1 + 1, Nat.le_refl _, by simp [Jab], by simp [Jab], by simp [Jab], by omega, by simp <;> omega, by omega, by simp [numL], by (repeat (first | exact Jad.refl _ | apply Jad.bump' | apply Jad.setHint | refine Jad.setFam ?_ (by first | omega | (simp <;> omega)) | refine Jad.set ?_ (by first | omega | (simp <;> omega))))⟩
  rintro kk env τ ⟨A, v, F, hkm, e0, e5, e6, hAs, hAn, hFs, hA, hK⟩
  cases kk with
  | zero =>
    have hge : (((0 : Nat) : Int) - 1 ≥ 0) = False := eq_false (by omega)
    simp (maxSteps := 1000000) (disch := first | omega | decide +kernel | (simp only [symN] <;> omega) | assumption) only [Jaa, Jac, reduceIte, Nat.reduceEqDiff, Nat.reduceAdd, Nat.reduceMul, e0, e5, e6, hge, decide_false]
    refine ⟨⟨A, v, F, ?_, ?_, hAs, ?_, hFs⟩, hK.bump'⟩
    · rw [Jap]
    · simpa using hA
    · exact Nat.lt_of_lt_of_le hAn (Nat.le_add_right _ _)
  | succ kk =>
    have e6' : eget env 6 = .int .i64 (kk : Nat) := by rw [e6]; congr 1; omega
    have hge : ((kk : Int) ≥ 0) = True := eq_true (by omega)
    obtain ⟨j, hj⟩ : ∃ j, j = many - (kk + 1) := ⟨_, rfl⟩
    rw [← hj] at e0 hA
    obtain ⟨C, hC⟩ : ∃ C, C = List.replicate (kk + 1) (Value.int .u8 0) ++ numL (n : Nat) j := ⟨_, rfl⟩
    rw [← hC] at hA
    have hCl : C.length = many := by rw [hC, List.length_append, List.length_replicate, Jap]; omega
    have hlay : lay C kk [Jh5 (n : Nat) j] = List.replicate kk (Value.int .u8 0) ++ numL (n : Nat) (j + 1) := by
      rw [hC, List.replicate_succ', List.append_assoc]
      have := Kfd (a := List.replicate kk (Value.int .u8 0)) (z := .int .u8 0) (r := numL (n : Nat) j) (x := Jh5 (n : Nat) j)
      rw [List.length_replicate] at this
      exact this
    rw [Jgq] at hlay
    have w1 : (((n / 256 ^ j : Nat) : Int).tmod 256) = ((n / 256 ^ j % 256 : Nat) : Int) := by
      rw [Int.tmod_eq_emod_of_nonneg (Int.natCast_nonneg _)]; rfl
    have w2 : IntKind.u8.wrap ((n / 256 ^ j % 256 : Nat) : Int) = ((n / 256 ^ j % 256 : Nat) : Int) := by rw [wrap_u8, Nat.mod_mod]
    have w3 : IntKind.u64.wrap (((n / 256 ^ j : Nat) : Int).tdiv 256) = ((n / 256 ^ (j + 1) : Nat) : Int) := by
      rw [Int.tdiv_eq_ediv_of_nonneg (Int.natCast_nonneg _), Nat.pow_succ, ← Nat.div_div_eq_div_mul]
      have hlt : n / 256 ^ j / 256 < 18446744073709551616 := Nat.lt_of_le_of_lt (Nat.le_trans (Nat.div_le_self _ _) (Nat.div_le_self _ _)) hn
      exact Jbf .u64 _ hlt
    have w4 : IntKind.i64.wrap ((kk : Int) - 1) = (kk : Int) - 1 := by
      cases kk with
      | zero => decide
      | succ m => rw [show (((m + 1 : Nat) : Int) - 1) = (m : Nat) from by omega]; exact Jbf .i64 m (show m < 9223372036854775808 by omega)
    have z256 : ((256 : Int) = 0) = False := eq_false (by omega)
    simp (maxSteps := 1000000) (disch := first | omega | decide +kernel | (simp only [symN] <;> omega) | assumption) only [Jaa, Jac, reduceIte, Nat.reduceEqDiff, Nat.reduceAdd, Nat.reduceMul, e0, e5, e6', hge, decide_true, Kmo, Kmp, w1, w2, w3, w4, hA, hlay, z256, hCl]
    refine ⟨kk, by omega, A, v + 1, F, by omega, ?_, rfl, rfl, hAs, by omega, hFs, ?_, ((hK.bump').set hAs).bump'⟩
    · rw [show many - kk = j + 1 from by omega]
    · rw [show many - kk = j + 1 from by omega]; simp
def Jau := Jas (P := Tryz.prog) Tryz.func111 (by kernel_rfl) (by kernel_rfl)
def Jat := Jas (P := Tryz.prog) Tryz.func113 (by kernel_rfl) (by kernel_rfl)
theorem Jod (s : ByteArray) : (bytesOf s).all (·.oneCell') = true := by rw [List.all_eq_true]; intro v hv; obtain ⟨b, _, rfl⟩ := List.mem_map.1 hv; rfl
theorem Kf0 (s : ByteArray) : (bytesOf s).length = s.size := by simp [bytesOf]
theorem Jcs {gl : List Nat} (s : ByteArray) (hs : s.size < 100000) (σ : St) :
    TF Tryz.prog gl 113 #[.string s] σ fun v σ' => NewB σ σ' v (Jbe s) := by
  refine TF.walk (Jaf _) Jae Tryz.func113 (by kernel_rfl) rfl fun c hc => ?_
  cases hc
  have w1 : IntKind.u64.wrap ((s.size : Nat) : Int) = (s.size : Nat) := Jbf .u64 _ (show s.size < 18446744073709551616 by omega)
  have wc : IntKind.u64.wrap (s.size : Int) = (s.size : Nat) := w1
  simp (maxSteps := 1000000) (disch := first | omega | decide +kernel | (simp only [symN] <;> omega) | assumption) only [Tryz.f113, Jaa, Jac, reduceIte, Nat.reduceEqDiff, Nat.reduceAdd, Nat.reduceMul, w1, Jau]
  rw [Jak]
  refine TF.mono_of (Jbn s.size 2 (by omega) (by decide) _) ?_
  rintro _ τ ⟨⟨A, ver, F, rfl, hA, hAs, hAn, hFs⟩, hK⟩
  have hone := Jod s
  have hbl := Kf0 s
  have q1 : ∀ k, (τ.next + k = A) = False := fun k => eq_false (by omega)
  have q3 : ∀ k, (A = τ.next + k) = False := fun k => eq_false (by omega)
  have hn2 : (numL (s.size : Nat) 2).length = 2 := Jap _ _
  by_cases h0 : s.size = 0
  · have hb : bytesOf s = [] := List.eq_nil_of_length_eq_zero (by rw [hbl, h0])
    simp (maxSteps := 1000000) (disch := first | omega | decide +kernel | (simp only [symN] <;> omega) | assumption) only [Jaa, Jac, reduceIte, Nat.reduceEqDiff, Nat.reduceAdd, Nat.reduceMul, Nat.add_assoc, q1, q3, hA, h0, hb, Jof, Jb1, Jdd]
    have ht : Jbe s = numL (s.size : Nat) 2 := by rw [Jbe, hb, List.append_nil]
    refine ⟨⟨A, ver, F, by rw [ht, hn2, Jap], by rw [ht]; exact hA, by have : σ.next + 8 ≤ A := hAs; omega, hAn, by have : σ.next + 8 ≤ F := hFs; omega⟩, Jad.bump.trans hK⟩
  · simp (maxSteps := 1000000) (disch := first | omega | decide +kernel | (simp only [symN] <;> omega) | assumption) only [Jaa, Jac, reduceIte, Nat.reduceEqDiff, Nat.reduceAdd, Nat.reduceMul, Nat.add_assoc, q1, q3, hA, Jiu, Jof, Jb1, Jdd]
    have hA8 : σ.next + 8 ≤ A := hAs
    have hF8 : σ.next + 8 ≤ F := hFs
    have hn8 : σ.next + 8 ≤ τ.next := hK.next
    refine ⟨⟨σ.next + 6, ver, F, by rw [Ja4, hn2]; congr 1; omega, by simp [Jbe], by omega, by simp <;> omega, by omega⟩, ?_⟩
    exact ((((((Jad.bump (n := 8)).trans hK).set (by omega)).set (by omega)).setFam (by omega)).setHint).setHint
def Jav := Jas (P := Tryz.prog) Tryz.func112 (by kernel_rfl) (by kernel_rfl)
theorem Jcu {gl : List Nat} (a b : ByteArray) (ha : a.size < 100000) (hb : b.size < 100000) (σ : St) :
    TF Tryz.prog gl 112 #[.agg ⟨Jbb a b⟩] σ fun v σ' => NewB σ σ' v (Jbd a b) := by
  refine TF.walk (Jaf _) Jae Tryz.func112 (by kernel_rfl) rfl fun c hc => ?_
  cases hc
  unfold Jbb
  simp (maxSteps := 1000000) (disch := first | omega | decide +kernel | (simp only [symN] <;> omega) | assumption) only [Tryz.f112, Jaa, Jac, reduceIte, Nat.reduceEqDiff, Nat.reduceAdd, Nat.reduceMul, Jat, true_and, and_self]
  rw [Jak]
  refine TF.mono_of (Jcs a ha _) ?_
  rintro _ τ ⟨⟨A, ver, F, rfl, hA, hAs, hAn, hFs⟩, hK⟩
  have hbx : τ.get σ.next = some (.cells true 0 σ.next [.string a, .string b]) := by rw [hK.get σ.next (by simp <;> omega)]; simp
  simp (maxSteps := 1000000) (disch := first | omega | decide +kernel | (simp only [symN] <;> omega) | assumption) only [Jaa, Jac, reduceIte, Nat.reduceEqDiff, Nat.reduceAdd, Nat.reduceMul, Jat, hbx, true_and, and_self]
  rw [Jak]
  refine TF.mono_of (Jcs b hb _) ?_
  rintro _ τ2 ⟨⟨A2, ver2, F2, rfl, hA2, hAs2, hAn2, hFs2⟩, hK2⟩
  have hA' : τ2.get A = some (.cells true ver F (Jbe a)) := by rw [hK2.get A hAn]; exact hA
  have l1 := Ja4 a
  have l2 := Ja4 b
  have hone : (Jbe b).all (·.oneCell') = true := by
    unfold Jbe; rw [List.all_append, Jod]; simp [numL, Jh5, Value.oneCell']
  have hsub : sub? (Jbe b) 0 (Jbe b).length = some (Jbe b) := Jbx rfl
  have hA10 : σ.next + 10 ≤ A := hAs
  have hF10 : σ.next + 10 ≤ F := hFs
  have hn1 : σ.next + 10 ≤ τ.next := hK.next
  have hn2 := hK2.next
  have q1 : (σ.next + 2 + 6 = A) = False := eq_false (by omega)
  have q2 : (A = σ.next + 2 + 6) = False := eq_false (by omega)
  simp (maxSteps := 1000000) (disch := first | omega | decide +kernel | (simp only [symN] <;> omega) | assumption) only [Jaa, Jac, reduceIte, Nat.reduceEqDiff, Nat.reduceAdd, Nat.reduceMul, Jat, hbx, hA', hA2, hsub, q1, q2, Jiu, true_and, and_self]
  refine ⟨⟨σ.next + 2 + 6, ver, F, by rw [Jbw]; congr 1; omega, by simp [Jbd], by omega, by simp <;> omega, by omega⟩, ?_⟩
  have hK0 : Jad σ τ := Jad.trans (by refine (Jad.set (Jad.bump (n := 2)) (Nat.le_refl _)).bump') hK
  exact ((((((hK0.trans hK2).set (by omega)).set (by omega)).setFam (by omega)).setHint).setHint)
structure CAt (σ τ : St) (R vR : Nat) (cells : List Value) (A ver F : Nat) (c : List Value) : Prop where
  row : τ.get A = some (.cells true ver F c)
  rc : τ.get R = some (.cells true vR R cells)
  an : A < τ.next
  rn : R < τ.next
  sa : σ.next ≤ A
  sr : σ.next ≤ R
  sf : σ.next ≤ F
  ne : A ≠ R
  keeps : Jad σ τ
theorem CAt.keep {σ τ τ2 : St} {R vR A ver F : Nat} {cells c : List Value} (h : CAt σ τ R vR cells A ver F c) (k : Jad τ τ2) : CAt σ τ2 R vR cells A ver F c :=
  ⟨(k.get A h.an).trans h.row, (k.get R h.rn).trans h.rc, Nat.lt_of_lt_of_le h.an k.next, Nat.lt_of_lt_of_le h.rn k.next, h.sa, h.sr, h.sf, h.ne, h.keeps.trans k⟩
theorem CAt.bump {σ τ : St} {R vR A ver F n : Nat} {cells c : List Value} (h : CAt σ τ R vR cells A ver F c) : CAt σ (τ.bump n) R vR cells A ver F c := h.keep .bump
theorem CAt.app {σ τ : St} {R vR A ver F id x y : Nat} {cells c nc : List Value} (h : CAt σ τ R vR cells A ver F c) (h1 : id ≠ A) (h2 : id ≠ R) (h3 : σ.next ≤ id) (h4 : id < τ.next) :
    CAt σ (((((τ.set A (.cells false ver F c)).set id (.cells true ver F (c ++ nc))).setFam F id).setHint A x).setHint id y) R vR cells id ver F (c ++ nc) := by
  have hne := h.ne
  refine ⟨by simp, ?_, by simpa using h4, by simpa using h.rn, h3, h.sr, h.sf, h2, ?_⟩
  · have e1 : ¬ (id = R) := h2
    have e2 : ¬ (A = R) := hne
    simp [e1, e2, h.rc]
  · exact (((((h.keeps.set h.sa).set h3).setFam h.sf).setHint).setHint)
theorem CAt.start {σ τ : St} {R vR id : Nat} {cells c : List Value} (hk : Jad σ τ) (hrc : τ.get R = some (.cells true vR R cells)) (hrn : R < τ.next) (hsr : σ.next ≤ R) (h2 : id ≠ R) (h3 : σ.next ≤ id) (h4 : id < τ.next) :
    CAt σ (τ.set id (.cells true 0 id c)) R vR cells id 0 id c := by
  have e1 : ¬ (id = R) := h2
  exact ⟨by simp, by simp [e1, hrc], by simpa using h4, by simpa using hrn, h3, hsr, h3, h2, hk.set h3⟩
theorem Kds {A id n ver F len : Nat} {c nc : List Value} {σ : St} (hl : c.length = len) (h0 : n ≠ 0) (h1 : len + n ≤ 1000000000) (h3 : nc.all (·.oneCell') = true) :
    appG Jct A len 2 id n nc σ (some (.cells true ver F c)) = some (.val (.slice (some ⟨id, 0, none⟩) (len + n) 2) (((((σ.set A (.cells false ver F c)).set id (.cells true ver F (c ++ nc))).setFam F id).setHint A len).setHint id (len + nc.length))) := by
  subst hl
  exact Jiu h0 h1 h3
theorem Jdn (n : Int) : ∀ k, (numL n k).all (·.oneCell') = true
  | 0 => rfl
  | k + 1 => by rw [numL, List.all_cons, Jdn n k]; rfl
end Go.Proofs
