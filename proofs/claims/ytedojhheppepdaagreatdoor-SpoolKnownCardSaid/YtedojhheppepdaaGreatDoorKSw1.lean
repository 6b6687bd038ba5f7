/-
  Contracts of Mail.done and Spool.waiting, anywhere. No condition.
-/
import Derived.Test.YtedojhheppepdaaGreatDoorKEv39TSo1

namespace Go.Proofs
open Go Go.Ev
set_option maxRecDepth 100000
set_option linter.unusedSimpArgs false
set_option linter.unusedVariables false
set_option maxHeartbeats 4000000
set_option linter.defProp false
structure Ent where
  w : Nat
  t : Int
  n : Int
def Ent.cells (e : Ent) : List Value := [.int .u8 (e.w : Nat), .int .i64 e.t, .int .i64 e.n]
theorem bump_zero {σ : St} : σ.bump 0 = σ := rfl
/-- A slice of entries, and what it holds. -/
def EntR (σ : St) (s : Value) (es : List Ent) : Prop := (es = [] ∧ s = .slice none 0 0) ∨ ∃ A k c, s = .slice (some ⟨A, 0, none⟩) es.length k ∧ σ.cells? A = some c ∧ ∀ i (h : i < es.length), sub? c (i * 3) 3 = some es[i].cells
theorem EntR.bump {σ : St} {s : Value} {es : List Ent} (h : EntR σ s es) (n : Nat) : EntR (σ.bump n) s es := h
theorem Tryz.ent_fl (w : Nat) (t n : Int) : Tryz.Flat 220 [.agg #[.int .u8 (w : Nat), .int .i64 t, .int .i64 n]] (.bool (decide ((w : Int) = 0))) := by
  refine Tryz.flat rfl rfl (TF.walk (Tryz.ftC_ok Tryz.ft_nil) Tryz.mixedB Tryz.func220 (by kernel_rfl) rfl fun c hc => ?_)
  cases hc
  simp (config := { maxSteps := 1000000 }) (disch := first | exact okQ_by (by kernel_rfl) | exact ordB_by (by kernel_rfl) | omega | assumption | (simp only [symE, List.all_cons, List.all_nil, Bool.and_true, Bool.and_self, List.length_cons, List.length_nil, Nat.reduceAdd, Nat.zero_add] <;> omega)) only [Tryz.f220, Tryz.C0_eq, symG, symA, symB, symC, symD, symE, Tryz.ty, ftR_some, Tryz.ftC_nil, Tryz.ftC_cons, List.getElem?_cons_zero, List.getElem?_cons_succ, List.length_cons, List.length_nil, List.map_cons, List.map_nil, List.nil_append, List.cons_append, List.append_nil, Option.map_some, Option.map_none, Nat.zero_add, Nat.add_zero, Nat.zero_mul, Nat.mul_one, Nat.one_mul, Nat.sub_zero, Int.toNat_natCast, reduceIte, Nat.reduceEqDiff, Nat.reduceAdd, Nat.reduceMul, Int.reduceToNat, clsOf, toArr_mk, if_true, if_false, Bool.not_true, Bool.not_false, Bool.false_eq_true]
def Tryz.c220 := call_b (P := Tryz.prog) Tryz.func220 (by kernel_rfl) (by kernel_rfl)
theorem Tryz.entIdx_tf {gl : List Nat} (es : List Ent) (s : Value) (σ : St) (hs : EntR σ s es) (hl : es.length < 1000000000) :
    TF Tryz.prog gl 261 #[s, .func (.func 220) #[] #[]] σ fun v σ' => ∃ m, v = .int .i64 (if es.any (fun e => e.w == 0) then (es.findIdx (fun e => e.w == 0) : Nat) else -1) ∧ σ' = σ.bump m := by
  refine TF.walk (Tryz.C0_ok gl) Tryz.mixedB Tryz.func261 (by kernel_rfl) rfl fun c hc => ?_
  cases hc
  obtain ⟨b0, k0, e0⟩ : ∃ b0 k0, s = .slice b0 es.length k0 := by
    rcases hs with ⟨rfl, rfl⟩ | ⟨A, k, c, rfl, _⟩
    · exact ⟨_, _, rfl⟩
    · exact ⟨_, _, rfl⟩
  rw [e0]
  simp (config := { maxSteps := 1000000 }) (disch := first | exact okQ_by (by kernel_rfl) | exact ordB_by (by kernel_rfl) | omega | assumption | (simp only [symE, List.all_cons, List.all_nil, Bool.and_true, Bool.and_self, List.length_cons, List.length_nil, Nat.reduceAdd, Nat.zero_add] <;> omega)) only [Tryz.f261, Tryz.C0_eq, symG, symA, symB, symC, symD, symE, Tryz.ty, ftR_some, Tryz.ftC_nil, Tryz.ftC_cons, List.getElem?_cons_zero, List.getElem?_cons_succ, List.length_cons, List.length_nil, List.map_cons, List.map_nil, List.nil_append, List.cons_append, List.append_nil, Option.map_some, Option.map_none, Nat.zero_add, Nat.add_zero, Nat.zero_mul, Nat.mul_one, Nat.one_mul, Nat.sub_zero, Int.toNat_natCast, reduceIte, Nat.reduceEqDiff, Nat.reduceAdd, Nat.reduceMul, Int.reduceToNat, clsOf, toArr_mk, if_true, if_false, Bool.not_true, Bool.not_false, Bool.false_eq_true]
  rw [← e0]
  refine zLoop_ind (Tryz.C0_ok gl) Tryz.mixedB (fun kk env τ => ∃ i m, i + kk = es.length ∧ τ = σ.bump m ∧ (∀ e ∈ es.take i, e.w ≠ 0) ∧ eget env 0 = s ∧ eget env 1 = .func (.func 220) #[] #[] ∧ eget env 7 = .int .i64 (es.length : Nat) ∧ eget env 8 = .int .i64 (i : Nat)) (n := es.length) (by kernel_rfl) ?_ ?_
  · exact ⟨0, _, by omega, rfl, by simp, by simp [eget_eput], by simp [eget_eput], by simp [eget_eput], by simp [eget_eput]⟩
  rintro kk env τ ⟨i, m, hi, rfl, hz, e0', e1, e7, e8⟩
  cases kk with
  | zero =>
    have hlt : ((i : Int) < (es.length : Int)) = False := eq_false (by omega)
    have hany : es.any (fun e => e.w == 0) = false := by
      rw [List.take_of_length_le (by omega)] at hz
      rw [List.any_eq_false]; intro e he; simpa using hz e he
    simp (config := { maxSteps := 1000000 }) (disch := first | exact okQ_by (by kernel_rfl) | exact ordB_by (by kernel_rfl) | omega | assumption | (simp only [symE, List.all_cons, List.all_nil, Bool.and_true, Bool.and_self, List.length_cons, List.length_nil, Nat.reduceAdd, Nat.zero_add] <;> omega)) only [Tryz.C0_eq, symG, symA, symB, symC, symD, symE, Tryz.ty, ftR_some, Tryz.ftC_nil, Tryz.ftC_cons, List.getElem?_cons_zero, List.getElem?_cons_succ, List.length_cons, List.length_nil, List.map_cons, List.map_nil, List.nil_append, List.cons_append, List.append_nil, Option.map_some, Option.map_none, Nat.zero_add, Nat.add_zero, Nat.zero_mul, Nat.mul_one, Nat.one_mul, Nat.sub_zero, Int.toNat_natCast, reduceIte, Nat.reduceEqDiff, Nat.reduceAdd, Nat.reduceMul, Int.reduceToNat, clsOf, toArr_mk, if_true, if_false, Bool.not_true, Bool.not_false, Bool.false_eq_true, e0', e1, e7, e8, hlt, decide_false, hany]
    exact ⟨_, trivial, rfl⟩
  | succ kk =>
    have hil : i < es.length := by omega
    have hlt : ((i : Int) < (es.length : Int)) = True := eq_true (by omega)
    rcases hs with ⟨rfl, _⟩ | ⟨A, k, c, rfl, hc, hr⟩
    · simp at hil
    have hrd : ∀ n, rdG (σ.bump n) (σ.get A) (i * 3) 3 = some [.int .u8 (es[i].w : Nat), .int .i64 es[i].t, .int .i64 es[i].n] := fun n => by
      refine (read_get (σ := σ.bump n) A (i * 3) 3).symm.trans ?_
      have : (σ.bump n).read? A (i * 3) 3 = (σ.cells? A).bind fun c => sub? c (i * 3) 3 := rfl
      rw [this, hc]
      exact hr i hil
    simp (config := { maxSteps := 1000000 }) (disch := first | exact okQ_by (by kernel_rfl) | exact ordB_by (by kernel_rfl) | omega | assumption | (simp only [symE, List.all_cons, List.all_nil, Bool.and_true, Bool.and_self, List.length_cons, List.length_nil, Nat.reduceAdd, Nat.zero_add] <;> omega)) only [Tryz.C0_eq, symG, symA, symB, symC, symD, symE, Tryz.ty, ftR_some, Tryz.ftC_nil, Tryz.ftC_cons, List.getElem?_cons_zero, List.getElem?_cons_succ, List.length_cons, List.length_nil, List.map_cons, List.map_nil, List.nil_append, List.cons_append, List.append_nil, Option.map_some, Option.map_none, Nat.zero_add, Nat.add_zero, Nat.zero_mul, Nat.mul_one, Nat.one_mul, Nat.sub_zero, Int.toNat_natCast, reduceIte, Nat.reduceEqDiff, Nat.reduceAdd, Nat.reduceMul, Int.reduceToNat, clsOf, toArr_mk, if_true, if_false, Bool.not_true, Bool.not_false, Bool.false_eq_true, e0', e1, e7, e8, hlt, decide_true, hrd, Tryz.c220]
    rw [zTF_def]
    refine TF.of ((Tryz.ent_fl es[i].w es[i].t es[i].n _).glob) ?_
    by_cases h0 : es[i].w = 0
    · have h0' : ((es[i].w : Int) = 0) = True := eq_true (by omega)
      have hany : es.any (fun e => e.w == 0) = true := List.any_eq_true.2 ⟨es[i], List.getElem_mem hil, by simp [h0]⟩
      have hidx : es.findIdx (fun e => e.w == 0) = i := by
        rw [List.findIdx_eq hil]
        refine ⟨by simp [h0], fun j hj => ?_⟩
        have := hz es[j] (List.mem_take_iff_getElem.2 ⟨j, by omega, rfl⟩)
        simpa using this
      simp (config := { maxSteps := 1000000 }) (disch := first | exact okQ_by (by kernel_rfl) | exact ordB_by (by kernel_rfl) | omega | assumption | (simp only [symE, List.all_cons, List.all_nil, Bool.and_true, Bool.and_self, List.length_cons, List.length_nil, Nat.reduceAdd, Nat.zero_add] <;> omega)) only [Tryz.C0_eq, symG, symA, symB, symC, symD, symE, Tryz.ty, ftR_some, Tryz.ftC_nil, Tryz.ftC_cons, List.getElem?_cons_zero, List.getElem?_cons_succ, List.length_cons, List.length_nil, List.map_cons, List.map_nil, List.nil_append, List.cons_append, List.append_nil, Option.map_some, Option.map_none, Nat.zero_add, Nat.add_zero, Nat.zero_mul, Nat.mul_one, Nat.one_mul, Nat.sub_zero, Int.toNat_natCast, reduceIte, Nat.reduceEqDiff, Nat.reduceAdd, Nat.reduceMul, Int.reduceToNat, clsOf, toArr_mk, if_true, if_false, Bool.not_true, Bool.not_false, Bool.false_eq_true, e0', e1, e7, e8, h0', decide_true, hany, hidx]
      exact ⟨_, trivial, rfl⟩
    · have h0' : ((es[i].w : Int) = 0) = False := eq_false (by omega)
      simp (config := { maxSteps := 1000000 }) (disch := first | exact okQ_by (by kernel_rfl) | exact ordB_by (by kernel_rfl) | omega | assumption | (simp only [symE, List.all_cons, List.all_nil, Bool.and_true, Bool.and_self, List.length_cons, List.length_nil, Nat.reduceAdd, Nat.zero_add] <;> omega)) only [Tryz.C0_eq, symG, symA, symB, symC, symD, symE, Tryz.ty, ftR_some, Tryz.ftC_nil, Tryz.ftC_cons, List.getElem?_cons_zero, List.getElem?_cons_succ, List.length_cons, List.length_nil, List.map_cons, List.map_nil, List.nil_append, List.cons_append, List.append_nil, Option.map_some, Option.map_none, Nat.zero_add, Nat.add_zero, Nat.zero_mul, Nat.mul_one, Nat.one_mul, Nat.sub_zero, Int.toNat_natCast, reduceIte, Nat.reduceEqDiff, Nat.reduceAdd, Nat.reduceMul, Int.reduceToNat, clsOf, toArr_mk, if_true, if_false, Bool.not_true, Bool.not_false, Bool.false_eq_true, e0', e1, e7, e8, h0', decide_false]
      refine ⟨kk, by omega, i + 1, _, by omega, rfl, fun e he => ?_, trivial, trivial, trivial, by simp⟩
      rw [List.take_succ_eq_append_getElem hil] at he
      rcases List.mem_append.1 he with he | he
      · exact hz e he
      · simp at he; subst he; exact h0
theorem Tryz.entAny_tf {gl : List Nat} (es : List Ent) (s : Value) (σ : St) (hs : EntR σ s es) (hl : es.length < 1000000000) :
    TF Tryz.prog gl 219 #[s, .func (.func 220) #[] #[]] σ fun v σ' => ∃ m, v = .bool (es.any (fun e => e.w == 0)) ∧ σ' = σ.bump m := by
  refine TF.walk (Tryz.C0_ok gl) Tryz.mixedB Tryz.func219 (by kernel_rfl) rfl fun c hc => ?_
  cases hc
  simp (config := { maxSteps := 1000000 }) (disch := first | exact okQ_by (by kernel_rfl) | exact ordB_by (by kernel_rfl) | omega | assumption | (simp only [symE, List.all_cons, List.all_nil, Bool.and_true, Bool.and_self, List.length_cons, List.length_nil, Nat.reduceAdd, Nat.zero_add] <;> omega)) only [Tryz.f219, Tryz.C0_eq, symG, symA, symB, symC, symD, symE, Tryz.ty, ftR_some, Tryz.ftC_nil, Tryz.ftC_cons, List.getElem?_cons_zero, List.getElem?_cons_succ, List.length_cons, List.length_nil, List.map_cons, List.map_nil, List.nil_append, List.cons_append, List.append_nil, Option.map_some, Option.map_none, Nat.zero_add, Nat.add_zero, Nat.zero_mul, Nat.mul_one, Nat.one_mul, Nat.sub_zero, Int.toNat_natCast, reduceIte, Nat.reduceEqDiff, Nat.reduceAdd, Nat.reduceMul, Int.reduceToNat, clsOf, toArr_mk, if_true, if_false, Bool.not_true, Bool.not_false, Bool.false_eq_true]
  rw [zTF_def]
  refine (Tryz.entIdx_tf es s _ (hs.bump _) hl).mono ?_
  rintro _ _ ⟨m, rfl, rfl⟩
  cases hany : es.any (fun e => e.w == 0) with
  | true =>
    have h1 : ((0 : Int) ≤ ((es.findIdx (fun e => e.w == 0) : Nat) : Int)) = True := eq_true (by omega)
    simp (config := { maxSteps := 1000000 }) (disch := first | exact okQ_by (by kernel_rfl) | exact ordB_by (by kernel_rfl) | omega | assumption | (simp only [symE, List.all_cons, List.all_nil, Bool.and_true, Bool.and_self, List.length_cons, List.length_nil, Nat.reduceAdd, Nat.zero_add] <;> omega)) only [Tryz.C0_eq, symG, symA, symB, symC, symD, symE, Tryz.ty, ftR_some, Tryz.ftC_nil, Tryz.ftC_cons, List.getElem?_cons_zero, List.getElem?_cons_succ, List.length_cons, List.length_nil, List.map_cons, List.map_nil, List.nil_append, List.cons_append, List.append_nil, Option.map_some, Option.map_none, Nat.zero_add, Nat.add_zero, Nat.zero_mul, Nat.mul_one, Nat.one_mul, Nat.sub_zero, Int.toNat_natCast, reduceIte, Nat.reduceEqDiff, Nat.reduceAdd, Nat.reduceMul, Int.reduceToNat, clsOf, toArr_mk, if_true, if_false, Bool.not_true, Bool.not_false, Bool.false_eq_true, h1, decide_true]
    exact ⟨_, trivial, rfl⟩
  | false =>
    have h1 : ((0 : Int) ≤ -1) = False := eq_false (by omega)
    simp (config := { maxSteps := 1000000 }) (disch := first | exact okQ_by (by kernel_rfl) | exact ordB_by (by kernel_rfl) | omega | assumption | (simp only [symE, List.all_cons, List.all_nil, Bool.and_true, Bool.and_self, List.length_cons, List.length_nil, Nat.reduceAdd, Nat.zero_add] <;> omega)) only [Tryz.C0_eq, symG, symA, symB, symC, symD, symE, Tryz.ty, ftR_some, Tryz.ftC_nil, Tryz.ftC_cons, List.getElem?_cons_zero, List.getElem?_cons_succ, List.length_cons, List.length_nil, List.map_cons, List.map_nil, List.nil_append, List.cons_append, List.append_nil, Option.map_some, Option.map_none, Nat.zero_add, Nat.add_zero, Nat.zero_mul, Nat.mul_one, Nat.one_mul, Nat.sub_zero, Int.toNat_natCast, reduceIte, Nat.reduceEqDiff, Nat.reduceAdd, Nat.reduceMul, Int.reduceToNat, clsOf, toArr_mk, if_true, if_false, Bool.not_true, Bool.not_false, Bool.false_eq_true, h1, decide_false]
    exact ⟨_, trivial, rfl⟩
/-- What a message's block tells of it. -/
structure MailR (σ : St) (M : Nat) (ex : Bool) (es : List Ent) : Prop where
  get : ∃ c, σ.cells? M = some c ∧ sub? c 6 1 = some [.bool ex] ∧ (ex = true → ∃ s, sub? c 9 1 = some [s] ∧ EntR σ s es)
  small : es.length < 1000000000
def doneB (ex : Bool) (es : List Ent) : Bool := ex && !es.any (fun e => e.w == 0)
theorem Tryz.done_tf {gl : List Nat} (σ : St) (M : Nat) (ex : Bool) (es : List Ent) (hm : MailR σ M ex es) :
    TF Tryz.prog gl 180 #[.pointer (some ⟨M, 0, none⟩)] σ fun v σ' => ∃ m, v = .bool (doneB ex es) ∧ σ' = σ.bump m := by
  refine TF.walk (Tryz.C0_ok gl) Tryz.mixedB Tryz.func180 (by kernel_rfl) rfl fun c hc => ?_
  cases hc
  obtain ⟨⟨c, hc, h6, h9⟩, hsm⟩ := hm
  have r6 : ∀ n, rdG (σ.bump n) (σ.get M) 6 1 = some [.bool ex] := fun n => by
    refine (read_get (σ := σ.bump n) M 6 1).symm.trans ?_
    have : (σ.bump n).read? M 6 1 = (σ.cells? M).bind fun c => sub? c 6 1 := rfl
    rw [this, hc]; exact h6
  cases ex with
  | false =>
    simp (config := { maxSteps := 1000000 }) (disch := first | exact okQ_by (by kernel_rfl) | exact ordB_by (by kernel_rfl) | omega | assumption | (simp only [symE, List.all_cons, List.all_nil, Bool.and_true, Bool.and_self, List.length_cons, List.length_nil, Nat.reduceAdd, Nat.zero_add] <;> omega)) only [Tryz.f180, Tryz.C0_eq, symG, symA, symB, symC, symD, symE, Tryz.ty, ftR_some, Tryz.ftC_nil, Tryz.ftC_cons, List.getElem?_cons_zero, List.getElem?_cons_succ, List.length_cons, List.length_nil, List.map_cons, List.map_nil, List.nil_append, List.cons_append, List.append_nil, Option.map_some, Option.map_none, Nat.zero_add, Nat.add_zero, Nat.zero_mul, Nat.mul_one, Nat.one_mul, Nat.sub_zero, Int.toNat_natCast, reduceIte, Nat.reduceEqDiff, Nat.reduceAdd, Nat.reduceMul, Int.reduceToNat, clsOf, toArr_mk, if_true, if_false, Bool.not_true, Bool.not_false, Bool.false_eq_true, r6]
    exact ⟨_, rfl, rfl⟩
  | true =>
    obtain ⟨s, h9, hes⟩ := h9 rfl
    have r9 : ∀ n, rdG (σ.bump n) (σ.get M) 9 1 = some [s] := fun n => by
      refine (read_get (σ := σ.bump n) M 9 1).symm.trans ?_
      have : (σ.bump n).read? M 9 1 = (σ.cells? M).bind fun c => sub? c 9 1 := rfl
      rw [this, hc]; exact h9
    simp (config := { maxSteps := 1000000 }) (disch := first | exact okQ_by (by kernel_rfl) | exact ordB_by (by kernel_rfl) | omega | assumption | (simp only [symE, List.all_cons, List.all_nil, Bool.and_true, Bool.and_self, List.length_cons, List.length_nil, Nat.reduceAdd, Nat.zero_add] <;> omega)) only [Tryz.f180, Tryz.C0_eq, symG, symA, symB, symC, symD, symE, Tryz.ty, ftR_some, Tryz.ftC_nil, Tryz.ftC_cons, List.getElem?_cons_zero, List.getElem?_cons_succ, List.length_cons, List.length_nil, List.map_cons, List.map_nil, List.nil_append, List.cons_append, List.append_nil, Option.map_some, Option.map_none, Nat.zero_add, Nat.add_zero, Nat.zero_mul, Nat.mul_one, Nat.one_mul, Nat.sub_zero, Int.toNat_natCast, reduceIte, Nat.reduceEqDiff, Nat.reduceAdd, Nat.reduceMul, Int.reduceToNat, clsOf, toArr_mk, if_true, if_false, Bool.not_true, Bool.not_false, Bool.false_eq_true, r6, r9]
    rw [zTF_def]
    refine (Tryz.entAny_tf es s _ (hes.bump _) hsm).mono ?_
    rintro _ _ ⟨m, rfl, rfl⟩
    simp (config := { maxSteps := 1000000 }) (disch := first | exact okQ_by (by kernel_rfl) | exact ordB_by (by kernel_rfl) | omega | assumption | (simp only [symE, List.all_cons, List.all_nil, Bool.and_true, Bool.and_self, List.length_cons, List.length_nil, Nat.reduceAdd, Nat.zero_add] <;> omega)) only [Tryz.C0_eq, symG, symA, symB, symC, symD, symE, Tryz.ty, ftR_some, Tryz.ftC_nil, Tryz.ftC_cons, List.getElem?_cons_zero, List.getElem?_cons_succ, List.length_cons, List.length_nil, List.map_cons, List.map_nil, List.nil_append, List.cons_append, List.append_nil, Option.map_some, Option.map_none, Nat.zero_add, Nat.add_zero, Nat.zero_mul, Nat.mul_one, Nat.one_mul, Nat.sub_zero, Int.toNat_natCast, reduceIte, Nat.reduceEqDiff, Nat.reduceAdd, Nat.reduceMul, Int.reduceToNat, clsOf, toArr_mk, if_true, if_false, Bool.not_true, Bool.not_false, Bool.false_eq_true]
    exact ⟨_, rfl, rfl⟩
end Go.Proofs
