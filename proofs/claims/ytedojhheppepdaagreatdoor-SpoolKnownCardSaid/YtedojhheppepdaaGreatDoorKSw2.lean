/-
  Contract of Spool.waiting, anywhere. No condition.
-/
import Derived.Test.YtedojhheppepdaaGreatDoorKSw1

namespace Go.Proofs
open Go Go.Ev
set_option maxRecDepth 100000
set_option linter.unusedSimpArgs false
set_option linter.unusedVariables false
set_option maxHeartbeats 4000000
/-- A message: its block, whether it is expanded, its entries. -/
structure Msg where
  M : Nat
  ex : Bool
  es : List Ent
def PtrsR (σ : St) (s : Value) (ms : List Msg) : Prop := (ms = [] ∧ s = .slice none 0 0) ∨ ∃ A k c, s = .slice (some ⟨A, 0, none⟩) ms.length k ∧ σ.cells? A = some c ∧ ∀ i (h : i < ms.length), sub? c i 1 = some [.pointer (some ⟨ms[i].M, 0, none⟩)] ∧ MailR σ ms[i].M ms[i].ex ms[i].es
theorem PtrsR.bump {σ : St} {s : Value} {es : List Msg} (h : PtrsR σ s es) (n : Nat) : PtrsR (σ.bump n) s es := by
  rcases h with h | ⟨A, k, c, h1, h2, h3⟩
  · exact .inl h
  · exact .inr ⟨A, k, c, h1, h2, fun i hi => ⟨(h3 i hi).1, ⟨(h3 i hi).2.get, (h3 i hi).2.small⟩⟩⟩
def waitN (ms : List Msg) : Nat := ms.countP fun m => !doneB m.ex m.es
theorem MailR.bump {σ : St} {M : Nat} {ex : Bool} {es : List Ent} (h : MailR σ M ex es) (n : Nat) : MailR (σ.bump n) M ex es := ⟨h.get, h.small⟩
theorem Tryz.waiting_tf {gl : List Nat} (σ : St) (S : Nat) (ms : List Msg) {cs : List Value} {s : Value} (hS : σ.cells? S = some cs) (h1 : sub? cs 1 1 = some [s]) (hs : PtrsR σ s ms) (hl : ms.length < 1000000000) :
    TF Tryz.prog gl 213 #[.pointer (some ⟨S, 0, none⟩)] σ fun v σ' => ∃ m, v = .int .i64 (waitN ms : Nat) ∧ σ' = σ.bump m := by
  refine TF.walk (Tryz.C0_ok gl) Tryz.mixedB Tryz.func213 (by kernel_rfl) rfl fun c hc => ?_
  cases hc
  obtain ⟨b0, k0, e0⟩ : ∃ b0 k0, s = .slice b0 ms.length k0 := by
    rcases hs with ⟨rfl, rfl⟩ | ⟨A, k, c, rfl, _⟩
    · exact ⟨_, _, rfl⟩
    · exact ⟨_, _, rfl⟩
  have r1 : ∀ n, rdG (σ.bump n) (σ.get S) 1 1 = some [s] := fun n => by
    refine (read_get (σ := σ.bump n) S 1 1).symm.trans ?_
    have : (σ.bump n).read? S 1 1 = (σ.cells? S).bind fun c => sub? c 1 1 := rfl
    rw [this, hS]; exact h1
  rw [e0] at r1
  simp (config := { maxSteps := 1000000 }) (disch := first | exact okQ_by (by kernel_rfl) | exact ordB_by (by kernel_rfl) | omega | assumption | (simp only [symE, List.all_cons, List.all_nil, Bool.and_true, Bool.and_self, List.length_cons, List.length_nil, Nat.reduceAdd, Nat.zero_add] <;> omega)) only [Tryz.f213, Tryz.C0_eq, symG, symA, symB, symC, symD, symE, Tryz.ty, ftR_some, Tryz.ftC_nil, Tryz.ftC_cons, List.getElem?_cons_zero, List.getElem?_cons_succ, List.length_cons, List.length_nil, List.map_cons, List.map_nil, List.nil_append, List.cons_append, List.append_nil, Option.map_some, Option.map_none, Nat.zero_add, Nat.add_zero, Nat.zero_mul, Nat.mul_one, Nat.one_mul, Nat.sub_zero, Int.toNat_natCast, reduceIte, Nat.reduceEqDiff, Nat.reduceAdd, Nat.reduceMul, Int.reduceToNat, clsOf, toArr_mk, if_true, if_false, Bool.not_true, Bool.not_false, Bool.false_eq_true, r1]
  rw [← e0]
  refine zLoop_ind (Tryz.C0_ok gl) Tryz.mixedB (fun kk env τ => ∃ i m, i + kk = ms.length ∧ τ = σ.bump m ∧ eget env 3 = .int .i64 (waitN (ms.take i) : Nat) ∧ eget env 9 = s ∧ eget env 10 = .int .i64 (ms.length : Nat) ∧ eget env 11 = .int .i64 (i : Nat)) (n := ms.length) (by kernel_rfl) ?_ ?_
  · exact ⟨0, _, by omega, rfl, by simp [eget_eput, waitN], by simp [eget_eput], by simp [eget_eput], by simp [eget_eput]⟩
  rintro kk env τ ⟨i, m, hi, rfl, e3, e9, e10, e11⟩
  cases kk with
  | zero =>
    have hlt : ((i : Int) < (ms.length : Int)) = False := eq_false (by omega)
    rw [List.take_of_length_le (by omega)] at e3
    simp (config := { maxSteps := 1000000 }) (disch := first | exact okQ_by (by kernel_rfl) | exact ordB_by (by kernel_rfl) | omega | assumption | (simp only [symE, List.all_cons, List.all_nil, Bool.and_true, Bool.and_self, List.length_cons, List.length_nil, Nat.reduceAdd, Nat.zero_add] <;> omega)) only [Tryz.C0_eq, symG, symA, symB, symC, symD, symE, Tryz.ty, ftR_some, Tryz.ftC_nil, Tryz.ftC_cons, List.getElem?_cons_zero, List.getElem?_cons_succ, List.length_cons, List.length_nil, List.map_cons, List.map_nil, List.nil_append, List.cons_append, List.append_nil, Option.map_some, Option.map_none, Nat.zero_add, Nat.add_zero, Nat.zero_mul, Nat.mul_one, Nat.one_mul, Nat.sub_zero, Int.toNat_natCast, reduceIte, Nat.reduceEqDiff, Nat.reduceAdd, Nat.reduceMul, Int.reduceToNat, clsOf, toArr_mk, if_true, if_false, Bool.not_true, Bool.not_false, Bool.false_eq_true, e3, e9, e10, e11, hlt, decide_false]
    exact ⟨_, trivial, rfl⟩
  | succ kk =>
    have hil : i < ms.length := by omega
    have hlt : ((i : Int) < (ms.length : Int)) = True := eq_true (by omega)
    rcases hs with ⟨rfl, _⟩ | ⟨A, k, c, rfl, hc, hr⟩
    · simp at hil
    have hrd : ∀ n, rdG (σ.bump n) (σ.get A) i 1 = some [.pointer (some ⟨ms[i].M, 0, none⟩)] := fun n => by
      refine (read_get (σ := σ.bump n) A i 1).symm.trans ?_
      have : (σ.bump n).read? A i 1 = (σ.cells? A).bind fun c => sub? c i 1 := rfl
      rw [this, hc]
      exact (hr i hil).1
    have htk : waitN (ms.take (i + 1)) = waitN (ms.take i) + if doneB ms[i].ex ms[i].es then 0 else 1 := by
      unfold waitN
      rw [List.take_succ_eq_append_getElem hil, List.countP_append]
      cases hd : doneB ms[i].ex ms[i].es <;> simp [hd]
    have hwl : waitN (ms.take i) < 1000000000 := by
      have h1 : waitN (ms.take i) ≤ (ms.take i).length := List.countP_le_length
      have h2 : (ms.take i).length ≤ i := List.length_take_le ..
      omega
    simp (config := { maxSteps := 1000000 }) (disch := first | exact okQ_by (by kernel_rfl) | exact ordB_by (by kernel_rfl) | omega | assumption | (simp only [symE, List.all_cons, List.all_nil, Bool.and_true, Bool.and_self, List.length_cons, List.length_nil, Nat.reduceAdd, Nat.zero_add] <;> omega)) only [Tryz.C0_eq, symG, symA, symB, symC, symD, symE, Tryz.ty, ftR_some, Tryz.ftC_nil, Tryz.ftC_cons, List.getElem?_cons_zero, List.getElem?_cons_succ, List.length_cons, List.length_nil, List.map_cons, List.map_nil, List.nil_append, List.cons_append, List.append_nil, Option.map_some, Option.map_none, Nat.zero_add, Nat.add_zero, Nat.zero_mul, Nat.mul_one, Nat.one_mul, Nat.sub_zero, Int.toNat_natCast, reduceIte, Nat.reduceEqDiff, Nat.reduceAdd, Nat.reduceMul, Int.reduceToNat, clsOf, toArr_mk, if_true, if_false, Bool.not_true, Bool.not_false, Bool.false_eq_true, e3, e9, e10, e11, hlt, decide_true, hrd]
    rw [zTF_def]
    refine (Tryz.done_tf _ ms[i].M ms[i].ex ms[i].es ((hr i hil).2.bump _)).mono ?_
    rintro _ _ ⟨m', rfl, rfl⟩
    cases hd : doneB ms[i].ex ms[i].es with
    | true =>
      rw [hd] at htk
      simp (config := { maxSteps := 1000000 }) (disch := first | exact okQ_by (by kernel_rfl) | exact ordB_by (by kernel_rfl) | omega | assumption | (simp only [symE, List.all_cons, List.all_nil, Bool.and_true, Bool.and_self, List.length_cons, List.length_nil, Nat.reduceAdd, Nat.zero_add] <;> omega)) only [Tryz.C0_eq, symG, symA, symB, symC, symD, symE, Tryz.ty, ftR_some, Tryz.ftC_nil, Tryz.ftC_cons, List.getElem?_cons_zero, List.getElem?_cons_succ, List.length_cons, List.length_nil, List.map_cons, List.map_nil, List.nil_append, List.cons_append, List.append_nil, Option.map_some, Option.map_none, Nat.zero_add, Nat.add_zero, Nat.zero_mul, Nat.mul_one, Nat.one_mul, Nat.sub_zero, Int.toNat_natCast, reduceIte, Nat.reduceEqDiff, Nat.reduceAdd, Nat.reduceMul, Int.reduceToNat, clsOf, toArr_mk, if_true, if_false, Bool.not_true, Bool.not_false, Bool.false_eq_true, e3, e9, e10, e11]
      exact ⟨kk, by omega, i + 1, _, by omega, rfl, by rw [htk]; simp, trivial, trivial, by simp⟩
    | false =>
      rw [hd] at htk
      simp (config := { maxSteps := 1000000 }) (disch := first | exact okQ_by (by kernel_rfl) | exact ordB_by (by kernel_rfl) | omega | assumption | (simp only [symE, List.all_cons, List.all_nil, Bool.and_true, Bool.and_self, List.length_cons, List.length_nil, Nat.reduceAdd, Nat.zero_add] <;> omega)) only [Tryz.C0_eq, symG, symA, symB, symC, symD, symE, Tryz.ty, ftR_some, Tryz.ftC_nil, Tryz.ftC_cons, List.getElem?_cons_zero, List.getElem?_cons_succ, List.length_cons, List.length_nil, List.map_cons, List.map_nil, List.nil_append, List.cons_append, List.append_nil, Option.map_some, Option.map_none, Nat.zero_add, Nat.add_zero, Nat.zero_mul, Nat.mul_one, Nat.one_mul, Nat.sub_zero, Int.toNat_natCast, reduceIte, Nat.reduceEqDiff, Nat.reduceAdd, Nat.reduceMul, Int.reduceToNat, clsOf, toArr_mk, if_true, if_false, Bool.not_true, Bool.not_false, Bool.false_eq_true, e3, e9, e10, e11]
      exact ⟨kk, by omega, i + 1, _, by omega, rfl, by rw [htk]; simp, trivial, trivial, by simp⟩
end Go.Proofs
