/-
  The evaluator and the contracts, merged out of 11 texts (Rp1 to Op3). No condition.
-/
import Derived.Test.YtedojhheppepdaaGreatDoorKRe6TRb1
import Derived.Test.YtedojhheppepdaaGreatDoorKRg1
import Derived.Test.YtedojhheppepdaaGreatDoorKRg2
import Derived.Test.YtedojhheppepdaaGreatDoorKRg3
import Derived.Test.YtedojhheppepdaaGreatDoorKRg4
import Derived.Test.YtedojhheppepdaaGreatDoorKRg5
import Derived.Test.YtedojhheppepdaaGreatDoorKRgx
import Derived.Test.YtedojhheppepdaaGreatDoorKRb_1
import Derived.Test.YtedojhheppepdaaGreatDoorKRb_2
import Derived.Test.YtedojhheppepdaaGreatDoorKRb_3
import Derived.Test.YtedojhheppepdaaGreatDoorKRb_4
import Derived.Test.YtedojhheppepdaaGreatDoorKRb_5
import Derived.Test.YtedojhheppepdaaGreatDoorKWa3TRe2
import Derived.Test.YtedojhheppepdaaGreatDoorKRb3TFw0
import Derived.KernelRfl
import Derived.Test.YtedojhheppepdaaGreatDoorKFw1
import Derived.Test.YtedojhheppepdaaGreatDoorKOf1
import Derived.Test.YtedojhheppepdaaGreatDoorKTyRTSr6
import Derived.ProofKit
import Derived.Lay
import Derived.SevenTiedAt
import Derived.Stop.Joined
import Derived.Carry
namespace Go.Proofs
open Go Go.Ev
set_option maxRecDepth 100000
set_option linter.unusedSimpArgs false
set_option linter.unusedVariables false
set_option maxHeartbeats 4000000
def Jqk (z : Int) : Bool := decide (0 ≤ z) && decide (z ≤ 127)
theorem Kec (l : List Int) : (l.map intV).all Jtg = l.all Jqk := by
  rw [List.all_map]
  congr 1
  funext z
  simp only [Function.comp, intV, Jtg, Jqk]
  congr 2
  exact propext (by omega)
theorem Jnn : ∀ (l : List Int) (p : Int), Jbl (some p) l = (Jcx (p :: l) && Jia (p :: l) && l.all Jqk)
  | [], p => by simp [Jbl, Jcx, Jia]
  | z :: r, p => by
    rw [Jds, Jnn r z]
    simp only [Joh, Jcx, Jia, List.all_cons, Jqk]
    by_cases h : p < z
    · rw [decide_eq_true h, decide_eq_false (show ¬ z < p by omega), decide_eq_false (show ¬ z = p by omega)]
      cases decide (0 ≤ z) <;> cases decide (z ≤ 127) <;> cases Jcx (z :: r) <;> cases Jia (z :: r) <;> simp
    · rw [decide_eq_false h]
      by_cases h2 : z < p
      · rw [decide_eq_true h2]; simp
      · rw [decide_eq_true (show z = p by omega)]; simp
theorem Jxu (l : List Int) : Jbl none l = (Jcx l && Jia l && l.all Jqk) := by
  cases l with
  | nil => simp [Jbl, Jcx, Jia]
  | cons z r =>
    rw [Jds, Jnn r z, List.all_cons]
    simp only [Joh, Jqk]
    cases decide (0 ≤ z) <;> cases decide (z ≤ 127) <;> cases Jcx (z :: r) <;> cases Jia (z :: r) <;> simp
theorem Jng (l : List Int) (most : Nat) : Jfg l most = (Jbl none l && (decide (1 ≤ l.length) && decide (l.length ≤ most))) := by
  unfold Jfg
  rw [Jxu, Kec]
  cases Jcx l <;> cases Jia l <;> cases decide (1 ≤ l.length) <;> cases decide (l.length ≤ most) <;> simp
theorem Jfo {α : Type} {e : α → α → Bool} : ∀ (l : List α), (∀ x ∈ l, e x x = true) → Jbv e l l = true
  | [], _ => rfl
  | a :: l, h => by
    show (e a a && Jbv e l l) = true
    rw [h a (by simp), Jfo l fun x hx => h x (by simp [hx])]; rfl
theorem Je9 {α : Type} {e : α → α → Bool} (l : List α) : Jbv e l [] = decide (l = []) := by
  cases l with
  | nil => rfl
  | cons a l => rfl
theorem Jkn (a : ByteArray) : (a == a) = true := by
  cases a with
  | mk x => show (x == x) = true; simp
theorem Kcr (p : ByteArray × ByteArray) : Jbr (Jbz p) (Jbz p) = true := by
  simp [Jbr, Jbz, Jbb, Jbv, Jn9, Jkn]
theorem Jye (f : Jan) : Jbr f.cells f.cells = true := by
  simp [Jbr, Jan.cells, Jbv, Jn9, Jkn]
theorem Jui (f : Jaw) : Jbr f.cells f.cells = true := by
  simp [Jbr, Jaw.cells, Jbv, Jn9, Jkn]
theorem Jk6 (l : List (ByteArray × ByteArray)) : Jbv Jbr (l.map Jbz) (l.map Jbz) = true := Jfo _ fun x hx => by obtain ⟨p, _, rfl⟩ := List.mem_map.1 hx; exact Kcr p
theorem Ji0 (l : List Jan) : Jbv Jbr (l.map Jan.cells) (l.map Jan.cells) = true := Jfo _ fun x hx => by obtain ⟨p, _, rfl⟩ := List.mem_map.1 hx; exact Jye p
theorem Jgh (l : List Jaw) : Jbv Jbr (l.map Jaw.cells) (l.map Jaw.cells) = true := Jfo _ fun x hx => by obtain ⟨p, _, rfl⟩ := List.mem_map.1 hx; exact Jui p
theorem Je8 (l : List Int) : Jbv (fun a b => decide (a = b)) l l = true := Jfo _ fun x _ => by simp
theorem Knh (a b : ByteArray) : (a == Jcb && b == Jcb) = Jet a b := by
  rw [Jx5]; rfl
theorem Kq6 (a : ByteArray) : (a.toList == Jcb.toList) = isE a := rfl
theorem Jeg {α β : Type} (f : α → β) (l : List α) : decide (l.map f = []) = decide (l = []) := by congr 1; exact propext List.map_eq_nil_iff
theorem Kfb {α : Type} (l : List α) : decide (l = []) = decide (l.length = 0) := by congr 1; exact propext List.length_eq_zero_iff.symm
theorem Kee (r : RecM) (hk5 : r.kind ≤ 5) : Jcj r (Jhc r) = Jbk r := by
  have e2 : ∀ a b : ByteArray, (a == Jcb && b == Jcb) = Jet a b := Knh
  have e3 : ∀ a : ByteArray, (a.toList == Jcb.toList) = isE a := Kq6
  have hl : ∀ l : List Jan, decide (l = []) = decide (l.length = 0) := fun l => Kfb l
  have hl2 : ∀ l : List Jaw, decide (l = []) = decide (l.length = 0) := fun l => Kfb l
  unfold Jhc Jbk
  by_cases h1 : r.kind = 1
  · rw [if_pos h1]
    simp only [Jcj, List.map_nil, Je9, Jk6, Ji0, Jgh, Je8, Jeg, Jkn, beq_self_eq_true, decide_true, hl, hl2, e2, e3, h1]
    simp [h1]
    try ac_rfl
  by_cases h2 : r.kind = 2
  · rw [if_neg h1, if_pos h2]
    simp only [Jcj, List.map_nil, Je9, Jk6, Ji0, Jgh, Je8, Jeg, Jkn, beq_self_eq_true, decide_true, hl, hl2, e2, e3, h2]
    simp [h2]
    try ac_rfl
  by_cases h3 : r.kind = 3
  · rw [if_neg h1, if_neg h2, if_pos h3]
    simp only [Jcj, List.map_nil, Je9, Jk6, Ji0, Jgh, Je8, Jeg, Jkn, beq_self_eq_true, decide_true, hl, hl2, e2, e3, h3]
    simp [h3]
    try ac_rfl
  by_cases h4 : r.kind = 4
  · rw [if_neg h1, if_neg h2, if_neg h3, if_pos h4]
    simp only [Jcj, List.map_nil, Je9, Jk6, Ji0, Jgh, Je8, Jeg, Jkn, beq_self_eq_true, decide_true, hl, hl2, e2, e3, h4]
    simp [h4]
    try ac_rfl
  by_cases h5 : r.kind = 5
  · rw [if_neg h1, if_neg h2, if_neg h3, if_neg h4, if_pos h5]
    simp only [Jcj, List.map_nil, Je9, Jk6, Ji0, Jgh, Je8, Jeg, Jkn, beq_self_eq_true, decide_true, hl, hl2, e2, e3, h5]
    simp [h5]
    try ac_rfl
  by_cases h3' : 3 ≤ r.kind
  · omega
  · rw [if_neg h1, if_neg h2, if_neg h3, if_neg h4, if_neg h5]
    simp only [Jcj, List.map_nil, Je9, Jk6, Ji0, Jgh, Je8, Jeg, Jkn, beq_self_eq_true, decide_true, hl, hl2, e2, e3]
    simp [h1, h2, h3, h4, h5, h3']
    try ac_rfl
theorem Kqi (may : ByteArray → ByteArray → Bool) (fin : Jan → Bool) (fail : Jaw → Bool) (r : RecM) : refB may fin fail r = mayM may fin fail r := by
  by_cases hk : r.kind ≤ 5
  case neg =>
    have e1 : Jcl may fin fail r = false := by
      unfold Jcl
      rw [if_neg (by omega), if_neg (by omega), if_neg (by omega), if_neg (by omega), if_neg (by omega)]
    have e2 : Jd1 may fin fail r = false := by
      unfold Jd1
      rw [if_neg (by omega), if_neg (by omega), if_neg (by omega), if_neg (by omega), if_neg (by omega)]
    unfold refB mayM
    rw [e1, e2]; simp
  unfold refB mayM
  rw [Kee r hk]
  cases ho : Jbk r with
  | false => simp
  | true =>
  simp only [Bool.and_true]
  have hz : (r.kind = 2 ∨ r.kind = 3 ∨ r.kind = 4 ∨ r.kind = 0 → r.to = []) ∧ (r.kind < 3 → r.which = []) := by
    unfold Jbk at ho
    simp only [Bool.and_eq_true, Bool.or_eq_true, decide_eq_true_eq] at ho
    obtain ⟨⟨⟨⟨⟨⟨o1, o2⟩, o3⟩, o4⟩, o5⟩, o6⟩, o7⟩ := ho
    refine ⟨fun h => ?_, fun h => ?_⟩
    · rcases o1 with (o1 | o1) | o1
      · omega
      · omega
      · exact o1.1
    · rcases o4 with o4 | o4
      · omega
      · exact o4
  have hr0 : Jbl none ([] : List Int) = true := rfl
  have key : ((r.to.all fun p => may p.1 p.2) && Jbl none r.which && Jcl may fin fail r) = Jd1 may fin fail r := by
    by_cases h1 : r.kind = 1
    · rw [hz.2 (by omega), hr0]
      unfold Jcl Jd1 Jez
      rw [if_pos h1, if_pos h1]
      cases (r.to.all fun p => may p.1 p.2) <;> cases Jby may r.sl r.sd <;> cases decide (1 ≤ r.to.length) <;> cases decide (r.to.length ≤ 16) <;> rfl
    by_cases h2 : r.kind = 2
    · rw [hz.2 (by omega), hr0, hz.1 (by omega)]
      unfold Jcl Jd1 Jez
      rw [if_neg h1, if_pos h2, if_neg h1, if_pos h2]
      simp only [List.all_nil, Nat.zero_le, decide_true, Bool.true_and]
      cases r.fin.all fin <;> cases r.fail.all fail <;> cases decide (r.fin.length ≤ 64) <;> cases decide (r.fail.length ≤ 64) <;> rfl
    by_cases h3 : r.kind = 3
    · rw [hz.1 (by omega)]
      unfold Jcl Jd1
      rw [if_neg h1, if_neg h2, if_pos h3, if_neg h1, if_neg h2, if_pos h3, Jng]
      have : decide (r.which.length = 1) = (decide (1 ≤ r.which.length) && decide (r.which.length ≤ 1)) := by rw [Bool.eq_iff_iff]; simp; omega
      rw [this]
      simp only [List.all_nil, Bool.true_and, Jc4]
      cases Jbl none r.which <;> cases decide (1 ≤ r.which.length) <;> cases decide (r.which.length ≤ 1) <;> cases decide (0 ≤ r.next) <;> cases decide (r.next ≤ 1099511627776) <;> rfl
    by_cases h4 : r.kind = 4
    · rw [hz.1 (by omega)]
      unfold Jcl Jd1
      rw [if_neg h1, if_neg h2, if_neg h3, if_pos h4, if_neg h1, if_neg h2, if_neg h3, if_pos h4, Jng]
      have : decide (r.which.length = 1) = (decide (1 ≤ r.which.length) && decide (r.which.length ≤ 1)) := by rw [Bool.eq_iff_iff]; simp; omega
      rw [this]
      simp only [List.all_nil, Bool.true_and]
      cases Jbl none r.which <;> cases decide (1 ≤ r.which.length) <;> cases decide (r.which.length ≤ 1) <;> cases decide (1 ≤ r.what) <;> cases decide (r.what ≤ 3) <;> rfl
    by_cases h5 : r.kind = 5
    · unfold Jcl Jd1 Jez
      rw [if_neg h1, if_neg h2, if_neg h3, if_neg h4, if_pos h5, if_neg h1, if_neg h2, if_neg h3, if_neg h4, if_pos h5, Jng]
      have : decide (r.to.length = 1) = (decide (1 ≤ r.to.length) && decide (r.to.length ≤ 1)) := by rw [Bool.eq_iff_iff]; simp; omega
      rw [this]
      cases (r.to.all fun p => may p.1 p.2) <;> cases Jbl none r.which <;> cases decide (1 ≤ r.which.length) <;> cases decide (r.which.length ≤ 128) <;> cases decide (1 ≤ r.to.length) <;> cases decide (r.to.length ≤ 1) <;> cases decide (r.id < r.new) <;> rfl
    unfold Jcl Jd1
    rw [if_neg h1, if_neg h2, if_neg h3, if_neg h4, if_neg h5, if_neg h1, if_neg h2, if_neg h3, if_neg h4, if_neg h5]
    simp
  rw [← key]
  simp only [Bool.and_assoc]
set_option linter.defProp false
set_option maxHeartbeats 40000000
attribute [local irreducible] zTF Jcf zOp zO zQ1 zQ2 zObj zQ zU zW zCl zRd zLd zPr zIf Jci zC
theorem Ju5 (may : ByteArray → ByteArray → Bool) (fin : Jan → Bool) (fail : Jaw → Bool) (r : RecM) (s : RecS) (σ : St) (hw : σ.Wf) (ha : Jbo σ r s) (hf : r.Fits) (hm : Jd8 may fin fail r) :
    TF Tryz.prog [] 17 #[.agg ⟨Jaj r s⟩] σ fun v σ' => v = .bool (refB may fin fail r) ∧ Jad σ σ' := by
  refine TF.walk (Jaf _) Jae Tryz.func17 (by kernel_rfl) rfl fun c hc => ?_
  cases hc
  have ca : (Value.agg ⟨Jaj r s⟩).cells = ⟨Jaj r s⟩ := rfl
  rw [Jey, Jb8]
  simp (maxSteps := 1000000) (disch := first | omega | decide +kernel | (simp only [symN] <;> omega) | assumption) only [Jdj, Jac, reduceIte, Nat.reduceEqDiff, Nat.reduceAdd, Nat.reduceMul]
  refine Jff (fun env τ => ∃ A, eget env 1 = .pointer (some ⟨A, 0, none⟩) ∧ eget env 2 = .bool false ∧ τ.get A = some (.cells true 0 A (Jaj r s)) ∧ Jad σ τ) ?_ ?_
  · exact ⟨σ.next, by simp [Jab], by simp [Jab], by simp, by (repeat (first | exact Jad.refl _ | apply Jad.bump' | apply Jad.setHint | refine Jad.setFam ?_ (by first | omega | (simp <;> omega)) | refine Jad.set ?_ (by first | omega | (simp <;> omega))))⟩
  rintro env τ ⟨A, v1, v2, gA, hk⟩
  obtain ⟨x0, x1, x2, x3, x5, x6, x7, x8, x9, x10, x11, x12, x13⟩ := Jlb gA
  by_cases hid : r.id = 0
  · have a1 : (((r.id : Nat) : Int) = 0) = True := eq_true (by omega)
    simp (maxSteps := 1000000) (disch := first | omega | decide +kernel | (simp only [symN] <;> omega) | assumption) only [Tryz.f17, Jaa, Jac, reduceIte, Nat.reduceEqDiff, Nat.reduceAdd, Nat.reduceMul, v1, v2, x1, x2, x6, a1]
    refine ⟨?_, hk.bump'⟩
    have hb : refB may fin fail r = false := by unfold refB; rw [decide_eq_true hid]; simp
    simp [Jag, Jab, hb]
  have a1 : (((r.id : Nat) : Int) = 0) = False := eq_false (by omega)
  by_cases ht1 : r.tick < 0
  · have a2 : (r.tick < 0) = True := eq_true ht1
    simp (maxSteps := 1000000) (disch := first | omega | decide +kernel | (simp only [symN] <;> omega) | assumption) only [Tryz.f17, Jaa, Jac, reduceIte, Nat.reduceEqDiff, Nat.reduceAdd, Nat.reduceMul, v1, v2, x1, x2, x6, a1, a2]
    refine ⟨?_, hk.bump'⟩
    have hb : refB may fin fail r = false := by unfold refB Jc4; rw [decide_eq_false (show ¬ 0 ≤ r.tick by omega)]; simp
    simp [Jag, Jab, hb]
  have a2 : (r.tick < 0) = False := eq_false ht1
  by_cases ht2 : 1099511627776 < r.tick
  · have a3 : ((1099511627776 : Int) < r.tick) = True := eq_true ht2
    simp (maxSteps := 1000000) (disch := first | omega | decide +kernel | (simp only [symN] <;> omega) | assumption) only [Tryz.f17, Jaa, Jac, reduceIte, Nat.reduceEqDiff, Nat.reduceAdd, Nat.reduceMul, v1, v2, x1, x2, x6, a1, a2, a3]
    refine ⟨?_, hk.bump'⟩
    have hb : refB may fin fail r = false := by unfold refB Jc4; rw [decide_eq_false (show ¬ r.tick ≤ 1099511627776 by omega)]; simp
    simp [Jag, Jab, hb]
  have a3 : ((1099511627776 : Int) < r.tick) = False := eq_false ht2
  by_cases hc1 : r.content.size ≤ 8192
  case neg =>
    have a4 : ((8192 : Int) < (r.content.size : Int)) = True := eq_true (by omega)
    simp (maxSteps := 1000000) (disch := first | omega | decide +kernel | (simp only [symN] <;> omega) | assumption) only [Tryz.f17, Jaa, Jac, reduceIte, Nat.reduceEqDiff, Nat.reduceAdd, Nat.reduceMul, v1, v2, x1, x2, x6, a1, a2, a3, a4]
    refine ⟨?_, hk.bump'⟩
    have hb : refB may fin fail r = false := by unfold refB; rw [decide_eq_false hc1]; simp
    simp [Jag, Jab, hb]
  have ht : Jc4 r.tick = true := by simp [Jc4]; omega
  by_cases h1 : r.kind = 1
  · exact Jvb rfl may fin fail r s σ hw ha hf hm hid ht hc1 h1 env τ A v1 v2 gA hk
  by_cases h2 : r.kind = 2
  · exact Jva rfl may fin fail r s σ hw ha hf hm hid ht hc1 h2 env τ A v1 v2 gA hk
  by_cases h3 : r.kind = 3
  · exact Ju9 rfl may fin fail r s σ hw ha hf hm hid ht hc1 h3 env τ A v1 v2 gA hk
  by_cases h4 : r.kind = 4
  · exact Ju8 rfl may fin fail r s σ hw ha hf hm hid ht hc1 h4 env τ A v1 v2 gA hk
  by_cases h5 : r.kind = 5
  · exact Ju7 rfl may fin fail r s σ hw ha hf hm hid ht hc1 h5 env τ A v1 v2 gA hk
  exact Ju6 rfl may fin fail r s σ hw ha hf hm hid ht hc1 ⟨h1, h2, h3, h4, h5⟩ env τ A v1 v2 gA hk
theorem Jkv (may : ByteArray → ByteArray → Bool) (fin : Jan → Bool) (fail : Jaw → Bool) (r : RecM) (s : RecS) (σ : St) (ha : Jbo σ r s) (hf : r.Fits) (hm : Jd8 may fin fail r) :
    SimF Tryz.prog [] 17 #[.agg ⟨Jaj r s⟩] σ (.bool (mayM may fin fail r)) σ := by
  have h := Jjr (Je4 rfl _) fun hw => Ju5 may fin fail r s σ hw ha hf hm
  rwa [Kqi] at h
theorem Jqb (may : ByteArray → ByteArray → Bool) (fin : Jan → Bool) (fail : Jaw → Bool) (r : RecM) (s : RecS) (σ : St) (hw : σ.Wf) (ha : Jbo σ r s) (hsm : r.Small)
    (hmay : ∀ τ, Jad σ τ → SimF Tryz.prog [] 17 #[.agg ⟨Jaj r s⟩] τ (.bool (mayM may fin fail r)) τ) (hM : mayM may fin fail r = false) :
    TF Tryz.prog [] 14 #[.agg ⟨Jaj r s⟩] σ fun v σ' => Jk0 false (Jdl r) σ v σ' := by
  refine TF.walk (Jaf _) Jae Tryz.func14 (by kernel_rfl) rfl fun c hc => ?_
  cases hc
  have ca : (Value.agg ⟨Jaj r s⟩).cells = ⟨Jaj r s⟩ := rfl
  rw [Jey, Jb8]
  simp (maxSteps := 1000000) (disch := first | omega | decide +kernel | (simp only [symN] <;> omega) | assumption) only [Jdj, Jac, reduceIte, Nat.reduceEqDiff, Nat.reduceAdd, Nat.reduceMul]
  refine Jff (fun env τ => ∃ R, eget env 1 = .pointer (some ⟨R, 0, none⟩) ∧ τ.get R = some (.cells true 0 R (Jaj r s)) ∧ Jad σ τ ∧ R < τ.next ∧ σ.next ≤ R) ?_ ?_
  · exact ⟨σ.next, by simp [Jab], by simp, by (repeat (first | exact Jad.refl _ | apply Jad.bump' | apply Jad.setHint | refine Jad.setFam ?_ (by first | omega | (simp <;> omega)) | refine Jad.set ?_ (by first | omega | (simp <;> omega)))), by simp, Nat.le_refl _⟩
  rintro env τ ⟨R, v1, gR, hk, hRn, hRs⟩
  obtain ⟨x0, x1, x2, x3, x5, x6, x7, x8, x9, x10, x11, x12, x13⟩ := Jlb gR
  simp (maxSteps := 1000000) (disch := first | omega | decide +kernel | (simp only [symN] <;> omega) | assumption) only [Tryz.f14, Jaa, Jac, reduceIte, Nat.reduceEqDiff, Nat.reduceAdd, Nat.reduceMul, v1, x13]
  refine Ja3 (hmay _ (hk.trans .bump)) ?_
  simp (maxSteps := 1000000) (disch := first | omega | decide +kernel | (simp only [symN] <;> omega) | assumption) only [Jaa, Jac, reduceIte, Nat.reduceEqDiff, Nat.reduceAdd, Nat.reduceMul, v1, hM]
  refine ⟨.inl ⟨rfl, ?_⟩, hk.bump'⟩
  simp [Jjz, Jab]
theorem Jqa (r : RecM) (s : RecS) (σ : St) (hw : σ.Wf) (ha : Jbo σ r s) (hsm : r.Small) :
    TF Tryz.prog [] 14 #[.agg ⟨Jaj r s⟩] σ fun v σ' => Jk0 (mayM mayD finD Jfn r) (Jdl r) σ v σ' := by
  have hmay : ∀ τ, Jad σ τ → SimF Tryz.prog [] 17 #[.agg ⟨Jaj r s⟩] τ (.bool (mayM mayD finD Jfn r)) τ := fun τ hk => Jkv mayD finD Jfn r s τ (ha.keeps hw hk) hsm.fits (Jox hsm)
  cases hM : mayM mayD finD Jfn r with
  | false => exact Jqb mayD finD Jfn r s σ hw ha hsm hmay hM
  | true =>
    have hK := Ke7 hM
    by_cases h1 : r.kind = 1
    · exact Jqg mayD finD Jfn r s σ hw ha hsm hmay hM h1
    by_cases h2 : r.kind = 2
    · refine Jqf mayD finD Jfn r s σ hw ha hsm hmay hM (fun f hf => ?_) h2
      simp only [Jd1, h1, h2, if_false, if_true, reduceIte, Nat.reduceEqDiff, Bool.and_eq_true, Jez, List.all_eq_true] at hK
      have h3 : Jfn f = true := by
        exact hK.2.2 f hf
      unfold Jfn Jpg at h3
      simp only [Bool.and_eq_true, decide_eq_true_eq] at h3
      omega
    by_cases h3 : r.kind = 3
    · refine Jqe mayD finD Jfn r s σ hw ha hsm hmay hM ?_ h3
      simp only [Jd1, h1, h2, h3, if_false, if_true, reduceIte, Nat.reduceEqDiff, Bool.and_eq_true, Jc4, decide_eq_true_eq] at hK
      omega
    by_cases h4 : r.kind = 4
    · exact Jqd mayD finD Jfn r s σ hw ha hsm hmay hM h4
    by_cases h5 : r.kind = 5
    · exact Jqc mayD finD Jfn r s σ hw ha hsm hmay hM h5
    exfalso
    simp [Jd1, h1, h2, h3, h4, h5] at hK
set_option maxHeartbeats 4000000
def SayB (σ : St) (v : Value) (l : List UInt8) : Prop := (∃ b n k, v = .slice b n k) ∧ ∀ m, Jbi v (σ.bump m) = some (.string (bStr l))
theorem SayB.nil (σ : St) : SayB σ (.slice none 0 0) [] := ⟨⟨_, _, _, rfl⟩, fun m => Jmc⟩
theorem SayB.own {σ : St} {A ver F k : Nat} {l : List UInt8} (h : σ.get A = some (.cells true ver F (l.map Jib))) : SayB σ (.slice (some ⟨A, 0, none⟩) l.length k) l := by
  refine ⟨⟨_, _, _, rfl⟩, fun m => ?_⟩
  by_cases h0 : l = []
  · subst h0
    simp [Jbi, bStr]
  have hr : (σ.bump m).read? A 0 l.length = some (l.map Jib) := by
    rw [Jrq, show (σ.bump m).get A = σ.get A from rfl, h, Jxy]
    exact Jbx (by simp)
  exact Knz (l := l) hr rfl
theorem Jh9 (a b : List UInt8) (v1 v2 : Value) (σ : St) (h1 : SayB σ v1 a) (h2 : SayB σ v2 b) : SimF Tryz.prog [] 18 #[v1, v2] σ (.bool (decide (a = b))) σ := by
  obtain ⟨⟨b1, n1, k1, rfl⟩, h1⟩ := h1
  obtain ⟨⟨b2, n2, k2, rfl⟩, h2⟩ := h2
  refine TF.exact (TF.walk (Jaf _) Jae Tryz.func18 (by kernel_rfl) rfl fun c hc => ?_)
  cases hc
  simp (maxSteps := 1000000) (disch := first | omega | decide +kernel | (simp only [symN] <;> omega) | assumption) only [Tryz.f18, Jaa, Jac, reduceIte, Nat.reduceEqDiff, Nat.reduceAdd, Nat.reduceMul, h1, h2, eqS, Jr7]
  exact ⟨_, trivial, rfl⟩
def AllB (l : List Value) : Prop := ∃ b : List UInt8, l = b.map Jib
theorem AllB.nil : AllB [] := ⟨[], rfl⟩
theorem AllB.app {a b : List Value} (ha : AllB a) (hb : AllB b) : AllB (a ++ b) := by
  obtain ⟨x, rfl⟩ := ha
  obtain ⟨y, rfl⟩ := hb
  exact ⟨x ++ y, by simp⟩
theorem AllB.flat {α : Type} {f : α → List Value} {l : List α} (h : ∀ x ∈ l, AllB (f x)) : AllB (l.flatMap f) := by
  induction l with
  | nil => exact AllB.nil
  | cons a l ih => rw [List.flatMap_cons]; exact (h a (by simp)).app (ih fun x hx => h x (by simp [hx]))
theorem Jtc (x : Int) : ∃ b : UInt8, IntKind.u8.wrap x = (b.toNat : Int) := by
  have h : IntKind.u8.wrap x = x % 256 := by
    simp only [IntKind.wrap, IntKind.signed, IntKind.bits]
    simp
  refine ⟨UInt8.ofNat (x % 256).toNat, ?_⟩
  have h0 : 0 ≤ x % 256 := Int.emod_nonneg _ (by decide)
  have h1 : x % 256 < 256 := Int.emod_lt_of_pos _ (by decide)
  rw [h, UInt8.toNat_ofNat']
  omega
theorem AllB.num (n : Int) : ∀ k, AllB (numL n k)
  | 0 => AllB.nil
  | k + 1 => by
    obtain ⟨b, hb⟩ := Jtc (n.fdiv (2 ^ (8 * k)))
    obtain ⟨y, hy⟩ := AllB.num n k
    exact ⟨b :: y, by rw [numL, Jh5, hb, hy]; rfl⟩
theorem AllB.bytes (s : ByteArray) : AllB (bytesOf s) := ⟨s.data.toList, rfl⟩
theorem AllB.text (s : ByteArray) : AllB (Jbe s) := (AllB.num _ _).app (AllB.bytes s)
theorem AllB.addr (a b : ByteArray) : AllB (Jbd a b) := (AllB.text a).app (AllB.text b)
theorem AllB.fin (f : Jan) : AllB f.bytes := ((((AllB.addr _ _).app (AllB.text _)).app (AllB.text _)).app (AllB.addr _ _)).app (AllB.addr _ _)
theorem AllB.fail (f : Jaw) : AllB f.bytes := ((AllB.addr _ _).app (AllB.num _ _)).app (AllB.text _)
theorem AllB.row {α : Type} {f : α → List Value} (l : List α) (h : ∀ x, AllB (f x)) : AllB (rowL f l) := (AllB.num _ _).app (AllB.flat fun x _ => h x)
theorem AllB.form (r : RecM) : AllB (Jdl r) := by
  have hH : AllB (Jj4 r) := ((AllB.num _ _).app (AllB.num _ _)).app (AllB.num _ _)
  have hK : AllB (Jlk r) := by
    unfold Jlk
    split
    · exact (AllB.row _ AllB.fin).app (AllB.row _ AllB.fail)
    split
    · exact (AllB.row _ fun z => AllB.num _ _).app (AllB.num _ _)
    split
    · exact (AllB.row _ fun z => AllB.num _ _).app (AllB.num _ _)
    split
    · exact (AllB.row _ fun z => AllB.num _ _).app (AllB.num _ _)
    · exact AllB.nil
  have hS : AllB (Jlj r) := by
    unfold Jlj; split
    · exact AllB.addr _ _
    · exact AllB.nil
  have hT : AllB (Jli r) := by
    unfold Jli; split
    · exact (AllB.row _ fun p => AllB.addr _ _).app (AllB.text _)
    · exact AllB.nil
  exact ((hH.app hK).app hS).app hT
set_option maxHeartbeats 40000000
def BRow (τ : St) (v : Value) (l : List UInt8) : Prop := (l = [] ∧ v = .slice none 0 0) ∨ ∃ A vv FF, v = .slice (some ⟨A, 0, none⟩) l.length 2 ∧ τ.get A = some (.cells true vv FF (l.map Jib)) ∧ A < τ.next
theorem BRow.keep {τ τ2 : St} {v : Value} {l : List UInt8} (h : BRow τ v l) (k : Jad τ τ2) : BRow τ2 v l := by
  rcases h with h | ⟨A, vv, FF, h1, h2, h3⟩
  · exact .inl h
  · exact .inr ⟨A, vv, FF, h1, (k.get A h3).trans h2, Nat.lt_of_lt_of_le h3 k.next⟩
theorem BRow.say {τ : St} {v : Value} {l : List UInt8} (h : BRow τ v l) : SayB τ v l := by
  rcases h with ⟨rfl, rfl⟩ | ⟨A, vv, FF, rfl, h2, _⟩
  · exact SayB.nil τ
  · exact SayB.own h2
def Knv (ok : Bool) (l : List UInt8) : Nat := if ok then (if 16384 < l.length then 3 else 0) else 1
def Jue (ok : Bool) (l : List UInt8) : List UInt8 := if ok then (if 16384 < l.length then [] else l) else []
def Kpp (ok : Bool) (l : List UInt8) (σ : St) (v : Value) (σ' : St) : Prop := ∃ b, v = .tuple #[b, .int .i64 (Knv ok l : Nat)] ∧ BRow σ' b (Jue ok l) ∧ Jad σ σ'
theorem Ka8 {ok : Bool} {bs : List Value} {l : List UInt8} (hl : bs = l.map Jib) {σ σ' : St} {v : Value} (h : Jk0 ok bs σ v σ') (hw : σ'.Wf) : Kpp ok l σ v σ' := by
  subst hl
  obtain ⟨h, hk⟩ := h
  rw [List.length_map] at h
  rcases h with ⟨rfl, rfl⟩ | ⟨rfl, h2, rfl⟩ | ⟨rfl, h2, A, vv, FF, rfl, hA⟩
  · exact ⟨_, rfl, .inl ⟨rfl, rfl⟩, hk⟩
  · exact ⟨.slice none 0 0, by simp [Knv, h2], .inl ⟨by simp [Jue, h2], rfl⟩, hk⟩
  · have h3 : ¬ 16384 < l.length := by omega
    exact ⟨.slice (some ⟨A, 0, none⟩) l.length 2, by simp [Knv, h3], .inr ⟨A, vv, FF, by simp [Jue, h3], by simpa [Jue, h3] using hA, hw.lt _ _ hA⟩, hk⟩
theorem Ka9 (ok : Bool) (l : List UInt8) (σ : St) : ∃ v σ', Kpp ok l σ v σ' := by
  by_cases h0 : Jue ok l = []
  · exact ⟨_, σ, .slice none 0 0, rfl, .inl ⟨h0, rfl⟩, Jad.refl _⟩
  · exact ⟨_, (σ.bump 1).set σ.next (.cells true 0 σ.next ((Jue ok l).map Jib)), .slice (some ⟨σ.next, 0, none⟩) (Jue ok l).length 2, rfl, .inr ⟨σ.next, 0, σ.next, rfl, by simp, by simp⟩, Jad.bump.set (Nat.le_refl _)⟩
theorem Jo4 (r : RecM) (s : RecS) (l : List UInt8) (hl : Jdl r = l.map Jib) (hsm : r.Small) (σ : St) (ha : Jbo σ r s) : TF Tryz.prog [] 13 #[.agg ⟨Jah r s⟩] σ fun v σ' => Kpp (mayM mayD finD Jfn r) l σ v σ' :=
  TF.up (fun hw => Js8 mayD finD Jfn r s σ hw ha hsm.fits (Jrh hsm) hsm) (fun _ _ h hw => Ka8 hl h hw) (Ka9 _ _ _)
theorem Jyp (r : RecM) (s : RecS) (l : List UInt8) (hl : Jdl r = l.map Jib) (hsm : r.Small) (σ : St) (ha : Jbo σ r s) : TF Tryz.prog [] 14 #[.agg ⟨Jaj r s⟩] σ fun v σ' => Kpp (mayM mayD finD Jfn r) l σ v σ' :=
  TF.up (fun hw => Jqa r s σ hw ha hsm) (fun _ _ h hw => Ka8 hl h hw) (Ka9 _ _ _)
def wkR : RecM := ⟨4, 7, 5, Jcb, Jcb, [], Jcb, [], [], [0], 1, 0, 0⟩
def wkL : List UInt8 := [4, 0, 0, 0, 7, 0, 0, 0, 0, 0, 0, 0, 5, 1, 0, 1]
theorem Kp8 : Jdl wkR = wkL.map Jib := by kernel_rfl
theorem Kpr : mayM mayD finD Jfn wkR = true := by kernel_rfl
theorem Kl9 : wkR.Small := by
  refine ⟨by decide, by decide, by decide, by decide, by decide, by decide, by decide, by decide, by decide, by decide, by decide, by decide, ?_, ?_, ?_⟩
  · intro p hp; cases hp
  · intro p hp; cases hp
  · intro p hp; cases hp
theorem Jw6 (id : Nat) (σ : St) : Ja1 Tryz.prog 32 16 id ⟨[(0, .int .u8 4), (1, .int .u8 0), (2, .int .u8 0), (3, .int .u8 0), (4, .int .u8 7), (5, .int .u8 0), (6, .int .u8 0), (7, .int .u8 0), (8, .int .u8 0), (9, .int .u8 0), (10, .int .u8 0), (11, .int .u8 0), (12, .int .u8 5), (13, .int .u8 1), (14, .int .u8 0), (15, .int .u8 1)]⟩ σ = some (.val (.slice (some ⟨id, 0, none⟩) 16 2) (σ.set id (.cells true 0 id (wkL.map Jib)))) := by kernel_rfl
theorem Jsb (σ : St) : TF Tryz.prog [] 19 #[] σ fun v σ' => v = .bool true ∧ Jad σ σ' := by
  refine TF.walk (Jaf _) Jae Tryz.func19 (by kernel_rfl) rfl fun c hc => ?_
  cases hc
  have hone : ∀ z, (Value.int IntKind.i64 z).cells = #[.int .i64 z] := fun _ => rfl
  simp (maxSteps := 1000000) (disch := first | omega | decide +kernel | (simp only [symN] <;> omega) | assumption) only [Tryz.f19, Jaa, Jac, reduceIte, Nat.reduceEqDiff, Nat.reduceAdd, Nat.reduceMul, true_and, and_self]
  have hE : Knv (mayM mayD finD Jfn wkR) wkL = 0 := by rw [Kpr]; rfl
  have hB : Jue (mayM mayD finD Jfn wkR) wkL = wkL := by rw [Kpr]; rfl
  have e : Jah wkR ⟨nilS, nilS, nilS, .slice (some ⟨σ.next + 1, 0, none⟩) 1 2⟩ = [.int .u8 4, .int .u32 7, .int .i64 5, .string ⟨#[]⟩, .string ⟨#[]⟩, .slice none 0 0, .string ⟨#[]⟩, .slice none 0 0, .slice none 0 0, .slice (some ⟨σ.next + 1, 0, none⟩) 1 2, .int .u8 1, .int .i64 0, .int .u32 0] := rfl
  have hf := fun S ha => Jo4 wkR ⟨nilS, nilS, nilS, .slice (some ⟨σ.next + 1, 0, none⟩) 1 2⟩ wkL Kp8 Kl9 S ha
  simp only [e] at hf
  refine Jbc (hf _ ⟨Jb2, Jb2, Jb2, .inr ⟨σ.next + 1, 0, 2, [.int .i64 0], rfl, by simp [St.cells?, St.rd], fun i hi => ?_⟩⟩) ?_
  · have hi0 : i = 0 := by simp [wkR] at hi; exact hi
    subst hi0
    rfl
  intro v τ hQ
  obtain ⟨vb, rfl, hb, hK⟩ := hQ
  rw [hB] at hb
  have hz : decide (((0 : Nat) : Int) = 0) = true := rfl
  simp (maxSteps := 1000000) (disch := first | omega | decide +kernel | (simp only [symN] <;> omega) | assumption) only [Jaa, Jac, reduceIte, Nat.reduceEqDiff, Nat.reduceAdd, Nat.reduceMul, true_and, and_self, hE, hz, Jw6]
  refine Ja3 (Jh9 wkL wkL vb _ _ ?_ ?_) ?_
  · exact (hb.keep (Jad.set Jad.bump (by omega))).say
  · exact SayB.own (l := wkL) (A := τ.next + 4) (ver := 0) (F := τ.next + 4) (k := 2) (by simp)
  simp (maxSteps := 1000000) (disch := first | omega | decide +kernel | (simp only [symN] <;> omega) | assumption) only [Jaa, Jac, reduceIte, Nat.reduceEqDiff, Nat.reduceAdd, Nat.reduceMul, true_and, and_self]
  have hn : σ.next + 9 ≤ τ.next := hK.next
  exact ((((Jad.bump (n := 9)).set (by omega)).trans hK).bump').set (by omega)
theorem Joi (σ : St) : SimF Tryz.prog [] 19 #[] σ (.bool true) σ := Jjr (Je4 rfl _) fun _ => Jsb σ
theorem Ju2 (r : RecM) (s : RecS) (hf : r.Fits) (σ : St) (ha : Jbo σ r s) : TF Tryz.prog [] 15 #[.agg ⟨Jah r s⟩] σ fun v σ' => ∃ s', v = .agg ⟨Jaj r s'⟩ ∧ Jbo σ' r s' ∧ Jad σ σ' :=
  TF.up (fun hw => Ju1 r s σ σ hw (Jad.refl _) ha hf) (fun _ _ h _ => h) (by obtain ⟨s', τ, h1, h2⟩ := RecN.ex σ r; exact ⟨_, τ, s', rfl, h1.at, h2⟩)
theorem Kdk (r : RecM) (s : RecS) (σ0 σ : St) (hw0 : σ0.Wf) (hk : Jad σ0 σ) (ha : Jxj σ0 r s) : TF Tryz.prog [] 12 #[.agg ⟨Jah r s⟩] σ fun v σ' => ∃ s', v = .agg ⟨Jah (fewM r) s'⟩ ∧ RecN σ σ' (fewM r) s' ∧ Jad σ σ' := by
  have kp : ∀ {x : Value} {n : Nat} {rows : List (List Value)}, SlK σ0 x n rows → SlK σ x n rows := fun h => by
    rcases h with h | ⟨A, o, c, h1, h2, h3⟩
    · exact .inl h
    · exact .inr ⟨A, o, c, h1, hk.cells hw0 h2, h3⟩
  exact TF.up (fun hw => Js6 r s σ hw ⟨kp ha.to, kp ha.fin, kp ha.fail, kp ha.which⟩) (fun _ _ h _ => h) (by obtain ⟨s', τ, h1, h2⟩ := RecN.ex σ (fewM r); exact ⟨_, τ, s', rfl, h1, h2⟩)
theorem Jku (r : RecM) (s : RecS) (σ : St) (hw : σ.Wf) (ha : Jxj σ r s) (hi : r.Ints) : TF Tryz.prog [] 3 #[.agg ⟨Jah r s⟩] σ fun v σ' => v = .bool true := by
  have hsm := Kco hi
  obtain ⟨l, hl⟩ := AllB.form (fewM r)
  refine TF.walk (Jaf _) Jae Tryz.func3 (by kernel_rfl) rfl fun c hc => ?_
  cases hc
  have ca : (Value.agg ⟨Jah r s⟩).cells = ⟨Jah r s⟩ := rfl
  rw [Jey, Jb8]
  simp (maxSteps := 1000000) (disch := first | omega | decide +kernel | (simp only [symN] <;> omega) | assumption) only [Jdj, Jac, reduceIte, Nat.reduceEqDiff, Nat.reduceAdd, Nat.reduceMul]
  refine Jff (fun env τ => ∃ R, eget env 1 = .pointer (some ⟨R, 0, none⟩) ∧ eget env 2 = .bool false ∧ τ.get R = some (.cells true 0 R (Jah r s)) ∧ Jad σ τ ∧ R < τ.next ∧ σ.next ≤ R) ?_ ?_
  · exact ⟨σ.next, by simp [Jab], by simp [Jab], by simp, by (repeat (first | exact Jad.refl _ | apply Jad.bump' | apply Jad.setHint | refine Jad.setFam ?_ (by first | omega | (simp <;> omega)) | refine Jad.set ?_ (by first | omega | (simp <;> omega)))), by simp, Nat.le_refl _⟩
  rintro env τ ⟨R, w1, w2, gR, hk, hRn, hRs⟩
  obtain ⟨x0, x1, x2, x3, x5, x6, x7, x8, x9, x10, x11, x12, x13⟩ := Jb7 gR
  simp (maxSteps := 1000000) (disch := first | omega | decide +kernel | (simp only [symN] <;> omega) | assumption) only [Tryz.f3, Jaa, Jac, reduceIte, Nat.reduceEqDiff, Nat.reduceAdd, Nat.reduceMul, w1, w2, x13]
  refine Jbc (Kdk r s σ _ hw (hk.trans .bump) ha) ?_
  intro v τ1 hQ
  obtain ⟨s1, rfl, hN, hK1⟩ := hQ
  obtain ⟨b0, k0, e0⟩ := hN.to.shape
  obtain ⟨b1, k1, e1⟩ := hN.fin.shape
  obtain ⟨b2, k2, e2⟩ := hN.fail.shape
  obtain ⟨b3, k3, e3⟩ := hN.which.shape
  have gR1 : τ1.get R = some (.cells true 0 R (Jah r s)) := (hK1.get R (Nat.lt_of_lt_of_le hRn (by simp))).trans gR
  have hone : (Jah (fewM r) s1).all (·.oneCell') = true := by
    unfold Jah; rw [e0, e1, e2, e3]; rfl
  have hlen0 : (Jah r s).length = 13 := rfl
  have hlen : (Jah (fewM r) s1).length = 13 := rfl
  have hlay : lay (Jah r s) 0 (Jah (fewM r) s1) = Jah (fewM r) s1 := rfl
  have hsub : sub? (Jah (fewM r) s1) 0 13 = some (Jah (fewM r) s1) := Jbx rfl
  simp (maxSteps := 1000000) (disch := first | omega | decide +kernel | (simp only [symN] <;> omega) | assumption) only [Jaa, Jac, reduceIte, Nat.reduceEqDiff, Nat.reduceAdd, Nat.reduceMul, true_and, and_self, w1, w2, gR1, hone, hlen, hlen0, hlay, hsub]
  refine Ja9 (fun τ' => τ'.get R = some (.cells true 1 R (Jah (fewM r) s1)) ∧ RecN (τ.bump 3) τ' (fewM r) s1 ∧ R < τ'.next) ⟨by simp, hN.keepO (Nat.lt_of_lt_of_le hRn (by simp)) ⟨by simp, fun B hB hBR => by simp [eq_false (fun e => hBR e.symm : ¬ R = B)]⟩, by have := hK1.next; simp at this ⊢; omega⟩ ?_
  intro τ2 hG
  obtain ⟨gR2, hN2, hRn2⟩ := hG
  refine Jbc (Jo4 (fewM r) s1 l hl hsm τ2 hN2.at) ?_
  intro v τ3 hQ
  obtain ⟨vb, rfl, hb, hK3⟩ := hQ
  have gR3 := (hK3.get R hRn2).trans gR2
  simp (maxSteps := 1000000) (disch := first | omega | decide +kernel | (simp only [symN] <;> omega) | assumption) only [Jaa, Jac, reduceIte, Nat.reduceEqDiff, Nat.reduceAdd, Nat.reduceMul, true_and, and_self, w1, w2, gR3, hsub]
  refine Ja9 (fun τ' => Jad τ3 τ') Jad.bump ?_
  intro τ4 hK4
  have hN4 := (hN2.keep hK3).keep hK4
  have gR4 := (hK4.get R (Nat.lt_of_lt_of_le hRn2 hK3.next)).trans gR3
  have hb4 := hb.keep hK4
  have hRn4 : R < τ4.next := Nat.lt_of_lt_of_le (Nat.lt_of_lt_of_le hRn2 hK3.next) hK4.next
  refine Jbc (Ju2 (fewM r) s1 hsm.fits τ4 hN4.at) ?_
  intro v τ5 hQ
  obtain ⟨s2, rfl, hA5, hK5⟩ := hQ
  simp (maxSteps := 1000000) (disch := first | omega | decide +kernel | (simp only [symN] <;> omega) | assumption) only [Jaa, Jac, reduceIte, Nat.reduceEqDiff, Nat.reduceAdd, Nat.reduceMul, true_and, and_self, w1, w2]
  refine Jbc (Jyp (fewM r) s2 l hl hsm τ5 hA5) ?_
  intro v τ6 hQ
  obtain ⟨vc, rfl, hc, hK6⟩ := hQ
  have gR6 := (hK6.get R (Nat.lt_of_lt_of_le hRn4 hK5.next)).trans ((hK5.get R hRn4).trans gR4)
  have hRn6 : R < τ6.next := Nat.lt_of_lt_of_le (Nat.lt_of_lt_of_le hRn4 hK5.next) hK6.next
  have hN6 := (hN4.keep hK5).keep hK6
  have hb6 := (hb4.keep hK5).keep hK6
  simp (maxSteps := 1000000) (disch := first | omega | decide +kernel | (simp only [symN] <;> omega) | assumption) only [Jaa, Jac, reduceIte, Nat.reduceEqDiff, Nat.reduceAdd, Nat.reduceMul, true_and, and_self, w1, w2, gR6, hsub]
  have hA6 : Jbo (τ6.bump 20) (fewM r) s1 := (hN6.keep Jad.bump).at
  refine Ja3 (Jmf mayD finD Jfn (fewM r) s1 _ hA6 hsm.fits (Jrh hsm)) ?_
  simp (maxSteps := 1000000) (disch := first | omega | decide +kernel | (simp only [symN] <;> omega) | assumption) only [Jaa, Jac, reduceIte, Nat.reduceEqDiff, Nat.reduceAdd, Nat.reduceMul, true_and, and_self, w1, w2, gR6, hsub]
  refine Jbc (Ju2 (fewM r) s1 hsm.fits _ hA6) ?_
  intro v τ7 hQ
  obtain ⟨s3, rfl, hA7, hK7⟩ := hQ
  have gR7 : τ7.get R = some (.cells true 1 R (Jah (fewM r) s1)) := (hK7.get R (Nat.lt_of_lt_of_le hRn6 (by simp))).trans gR6
  have hb7 := (hb6.keep Jad.bump).keep hK7
  have hc7 := (hc.keep (Jad.bump (n := 20))).keep hK7
  simp (maxSteps := 1000000) (disch := first | omega | decide +kernel | (simp only [symN] <;> omega) | assumption) only [Jaa, Jac, reduceIte, Nat.reduceEqDiff, Nat.reduceAdd, Nat.reduceMul, true_and, and_self, w1, w2, gR6, gR7, hsub]
  refine Ja3 (Jkv mayD finD Jfn (fewM r) s3 _ hA7 hsm.fits (Jox hsm)) ?_
  have hbb : ∀ b : Bool, (b == b) = true := fun b => by cases b <;> rfl
  simp (maxSteps := 1000000) (disch := first | omega | decide +kernel | (simp only [symN] <;> omega) | assumption) only [Jaa, Jac, reduceIte, Nat.reduceEqDiff, Nat.reduceAdd, Nat.reduceMul, true_and, and_self, w1, w2, gR6, gR7, hsub, hbb]
  refine Ja3 (Jh9 _ _ vb vc _ hb7.say hc7.say) ?_
  simp (maxSteps := 1000000) (disch := first | omega | decide +kernel | (simp only [symN] <;> omega) | assumption) only [Jaa, Jac, reduceIte, Nat.reduceEqDiff, Nat.reduceAdd, Nat.reduceMul, true_and, and_self, w1, w2, gR6, gR7, hsub, hbb]
  refine Ja3 (Joi _) ?_
  simp (maxSteps := 1000000) (disch := first | omega | decide +kernel | (simp only [symN] <;> omega) | assumption) only [Jaa, Jac, reduceIte, Nat.reduceEqDiff, Nat.reduceAdd, Nat.reduceMul, true_and, and_self, w1, w2, gR6, gR7, hsub, hbb]
theorem Jka (r : RecM) (s : RecS) (σ : St) (hw : σ.Wf) (ha : Jxj σ r s) (hi : r.Ints) : ∃ σ', SimF Tryz.prog [] 3 #[.agg ⟨Jah r s⟩] σ (.bool true) σ' := by
  obtain ⟨v, σ', hs, rfl⟩ := Jku r s σ hw ha hi
  exact ⟨σ', hs⟩
end Go.Proofs
namespace Go.Ev
open Go Go.ChangeShapes Go.WideShapes Go.ChangeAt Go.RowKit
set_option maxRecDepth 100000
set_option linter.unusedVariables false
theorem Jrt {C : Checked} {f : FuncId} {fn : Func} {s : ChangeSpec} {t tb : TypeId} {os : Os} {H : Type} {enc : TypeId × Value → H} {laid : List (String × DataW Unit)}
    (own : ownKnob C.prog.godebug = none) (started : os.Started) (noInit : C.prog.inits.idxOf? f = none) (hfn : C.prog.funcs[f]? = some fn)
    (hp : fn.params = #[t]) (hr : fn.resultTypes = #[tb]) (hb : C.prog.underlying tb = some .bool) (hvars : s.vars = []) (hspec : ∀ d, s.fn H [d] = { results := [.lit (.bool true)], args := [d] })
    (hno : (laid.filter fun x => x.2.handleName?.isSome) = []) (hlo : laidOutB C.prog = true) (hrec : C.prog.readableRec t = true) (hrow : t < C.prog.types.size)
    (contract : ∀ (W : World) (base : Nat) (v : Value) (d : DataW H) (p : List MemPlace), W.ShapedOpen C.prog → laidMet C.prog laid W → Value.okWide C.prog W .any base t v → DataW.Trod enc C.prog W 0 (fun _ => true) true t v d p → Calls C.prog f #[v] W fun e W' => e = .returned (.bool true) ∧ Below W.heap.size W W')
    (witness : ∃ (w : World) (tape : Tape) (i : Input), w.os = os ∧ (w.forCall tape i).Shaped C.prog ∧ i.vars = [] ∧ Input.okWide C.prog (w.forCall tape i) .any w.heap.size f i ∧
      ((s.pre enc C.prog fn [] false (w.forCall tape i).memory i.args ∧ laidMetH C.prog laid (w.forCall tape i).memory) ∧ sizedMet enc C.prog fn (OpenSpec.ofChange s) false (w.forCall tape i).memory i.args) ∧ ({} : Assume).holds C.prog (lone (Frame.enter C.prog f i.args .normal) [] (w.forCall tape i))) :
    ReturnsInHanded {} C os f .any (fun w args => (s.pre enc C.prog fn [] false w args ∧ laidMetH C.prog laid w) ∧ sizedMet enc C.prog fn (OpenSpec.ofChange s) false w args) (s.post enc C.prog fn false true false false) := by
  refine returnsInHanded_of_calls own started noInit witness ?_
  intro w tape i _ hsh _ hok hpre hholds
  obtain ⟨_, _, _, fn', hfn', _, _, _, _, hval⟩ := hok
  have e : fn' = fn := Option.some.inj (hfn'.symm.trans hfn)
  subst e
  obtain ⟨⟨⟨ds, gs, before, hw, hc⟩, hx⟩, hz⟩ := hpre
  have hW : DataW.Whole enc C.prog fn'.params.toList s.vars false (w.forCall tape i) i.args.toList ds gs before := DataW.Whole.of_heap (w' := w.forCall tape i) (by rfl) hw
  have hL : laidMetH C.prog laid (w.forCall tape i) := hx.of_heap (by rfl)
  have hm := Jj1 hno hL
  have hlt := hW.lt
  have hW' := hW
  obtain ⟨p, q, hA, hV, rfl, hfz, hnd⟩ := hW
  rw [hp] at hA
  rw [hvars] at hV
  obtain ⟨v, d, ea, rfl, hT⟩ := trodAll_one (args := i.args) hA
  have e2 : gs = [] ∧ q = [] := by
    cases gs with
    | nil => exact ⟨rfl, hV⟩
    | cons _ _ => exact hV.elim
  obtain ⟨rfl, rfl⟩ := e2
  have hv : Value.okWide C.prog (w.forCall tape i) .any w.heap.size t v := hval 0 t v (by rw [hp]; rfl) (by rw [ea]; rfl)
  rw [ea]
  refine (contract _ _ v d p hsh hm hv hT).mono ?_
  rintro e W' ⟨rfl, bel⟩
  refine ChangeSpec.post_blind ?_
  rw [ea] at hW'
  refine ⟨[d], [], _, [], p, [], hW', ?_, ?_, ?_, bel.frame _, fun h => by cases h⟩
  · rw [hr]
    have : (s.fn H ([d] ++ [])).results = [.lit (.bool true)] := by rw [List.append_nil, hspec]
    rw [this]
    exact trodAll_mk1 (shut_bool hb true)
  · rw [hp]
    have : (s.fn H ([d] ++ [])).args = [d] := by rw [List.append_nil, hspec]
    rw [this]
    exact trodAll_mk1 (Below.trod hlo hrec hrow hT bel fun x hx => hlt x (List.mem_append_left _ hx))
  · have : (s.fn H ([d] ++ [])).vars = [] := by rw [List.append_nil, hspec]
    rw [this, hvars]
    rfl
def Jk8 : Nat → List (List Value) → Tr AObj
  | _, [] => .nil
  | k, c :: r => (Jk8 (k + 1) r).set (path k) (.cells false 0 0 c)
theorem Jnl : ∀ (l : List (List Value)) (k A : Nat), (Jk8 k l).get (path A) = if k ≤ A then (l[A - k]?).map (.cells false 0 0) else none
  | [], k, A => by simp only [Jk8]; cases path A <;> simp [Tr.get]
  | c :: r, k, A => by
    simp only [Jk8, Tr.get_set]
    by_cases h : k = A
    · subst h; simp
    · rw [if_neg (fun e => h (Ji3 e)), Jnl r (k + 1) A]
      by_cases h2 : k ≤ A
      · rw [if_pos (by omega), if_pos h2, show A - k = (A - (k + 1)) + 1 by omega, List.getElem?_cons_succ]
      · rw [if_neg (by omega), if_neg h2]
def Jke (l : List (List Value)) : St := { heap := Jk8 0 l, fams := .nil, next := l.length }
def Jh0 (x : List (Option CA)) : Gam := fun A => (x[A]?).join
theorem Jgi (l : List (List Value)) (A : Nat) : (Jke l).get A = (l[A]?).map (.cells false 0 0) := by
  have := Jnl l 0 A
  show (Jk8 0 l).get (path A) = _
  simpa using this
theorem Jgj (l : List (List Value)) (F : Nat) : (Jke l).famO F = none := by
  simp only [Jke, St.famO]
  cases path F <;> rfl
theorem Jxq {l : List (List Value)} {A : Nat} {c : List Value} (h : l[A]? = some c) : (Jke l).cells? A = some c := by
  simp [St.cells?, Jgi, h, St.rd, Jgj]
def Kpo (w : World) (x : CA) (c : List Value) : Prop := (∃ cs el fr, w.heap[x.block]? = some (.cells cs el fr) ∧ cs.size = x.size ∧ ∀ i (h : i < c.length), cs[x.base + i]? = some c[i]) ∧ (∀ v ∈ c, Ja5 v = true) ∧ ∀ y ∈ tabW, x.block ≠ y.1
theorem Kao (l : List (List Value)) : (Jke l).Wf := by
  refine ⟨fun A o h => ?_, fun A own v F c h => ?_, fun A v F c h => ?_, fun F O h => ?_, fun F O X own v c own' v' c' h => ?_, fun A n h => ?_⟩
  · rw [Jgi] at h
    cases hl : l[A]? with
    | none => rw [hl] at h; cases h
    | some c => exact (List.getElem?_eq_some_iff.1 hl).1
  · rw [Jgi] at h
    cases hl : l[A]? with
    | none => rw [hl] at h; cases h
    | some c' =>
      rw [hl] at h
      cases h
      have : 0 < l.length := Nat.lt_of_le_of_lt (Nat.zero_le _) (List.getElem?_eq_some_iff.1 hl).1
      exact ⟨_, by rw [Jgi, List.getElem?_eq_getElem this]; rfl⟩
  · rw [Jgi] at h
    cases hl : l[A]? with
    | none => rw [hl] at h; cases h
    | some c' => rw [hl] at h; cases h
  · rw [Jgj] at h; cases h
  · rw [Jgj] at h; cases h
  · unfold Jke St.hintO at h; cases hp : path A <;> rw [hp] at h <;> cases h
theorem Jxr {x : List (Option CA)} {A : Nat} {y : CA} (h : Jh0 x A = some y) : x[A]? = some (some y) := by
  unfold Jh0 at h
  cases hx : x[A]? with
  | none => rw [hx] at h; cases h
  | some z => rw [hx] at h; cases h; rfl
theorem Krp {x : List (Option CA)} {l : List (List Value)} {w : World} (hlen : x.length = l.length)
    (hin : ∀ (i : Nat) y c, x[i]? = some (some y) → l[i]? = some c → Kpo w y c) (ht : ∀ y ∈ tabW, ∃ t fr, w.heap[y.1]? = some (.cells y.2.toArray t fr)) :
    Rel (Jh0 x) (Jke l) w ∧ ∀ A y, Jh0 x A = some y → (Jke l).ro A := by
  have sp : ∀ A y, Jh0 x A = some y → ∃ c, l[A]? = some c ∧ Kpo w y c ∧ (Jke l).get A = some (.cells false 0 0 c) := by
    intro A y h
    have h1 := Jxr h
    have h2 : A < l.length := by rw [← hlen]; exact (List.getElem?_eq_some_iff.1 h1).1
    have h3 := List.getElem?_eq_getElem h2
    exact ⟨_, h3, hin A y _ h1 h3, by rw [Jgi, h3]; rfl⟩
  refine ⟨⟨Kao l, fun A y h => ?_, fun A y h => ?_, fun A y A' y' h h' e => ?_, fun X y O y' F v c own c' _ _ _ _ hF => ?_, fun y hy => ⟨ht y hy, fun A z hA => ?_⟩⟩, fun A y h => ?_⟩
  · obtain ⟨c, _, ⟨⟨cs, el, fr, h1, _⟩, _⟩, _⟩ := sp A y h
    exact (Array.getElem?_eq_some_iff.1 h1).1
  · obtain ⟨c, _, ⟨⟨cs, el, fr, h1, h2, h3⟩, h4, _⟩, h5⟩ := sp A y h
    exact ⟨_, h5, cs, el, fr, h1, h2, fun _ i hi => ⟨c[i], h3 i hi, Jb4 (h4 _ (List.getElem_mem hi))⟩, fun h => by cases h⟩
  · obtain ⟨c, _, _, h5⟩ := sp A y h
    obtain ⟨c', _, _, h5'⟩ := sp A' y' h'
    exact .inr ⟨0, St.fam_eq h5, St.fam_eq h5'⟩
  · rw [Jgj] at hF; cases hF
  · obtain ⟨c, _, ⟨_, _, h6⟩, _⟩ := sp A z hA
    exact h6 y hy
  · obtain ⟨c, _, _, h5⟩ := sp A y h
    exact ⟨0, 0, c, h5, Jgj l 0⟩
theorem mapM_len {α β : Type} {f : α → Option β} : ∀ {l : List α} {r : List β}, l.mapM f = some r → r.length = l.length
  | [], r, e => by simp at e; subst e; rfl
  | a :: l, r, e => by
    rw [List.mapM_cons] at e
    cases ha : f a with
    | none => rw [ha] at e; simp at e
    | some b =>
      rw [ha] at e
      cases hl : l.mapM f with
      | none => rw [hl] at e; simp at e
      | some r' =>
        rw [hl] at e
        simp at e
        subst e
        simp [mapM_len hl]
theorem Ka3 {α β : Type} {f : α → Option β} : ∀ {l : List α} {r : List β}, l.mapM f = some r → ∀ i (h : i < l.length), ∃ y, f l[i] = some y ∧ r[i]? = some y
  | [], r, _, i, h => by simp at h
  | a :: l, r, e, i, h => by
    rw [List.mapM_cons] at e
    cases ha : f a with
    | none => rw [ha] at e; simp at e
    | some b =>
      rw [ha] at e
      cases hl : l.mapM f with
      | none => rw [hl] at e; simp at e
      | some r' =>
        rw [hl] at e
        simp at e
        subst e
        cases i with
        | zero => exact ⟨b, ha, rfl⟩
        | succ i => exact Ka3 hl i (by simpa using h)
theorem addr_add (b o n : Nat) : (⟨b, o, none⟩ : Go.Addr).add n = ⟨b, o + n, none⟩ := by
  unfold Addr.add
  split
  · rename_i h; subst h; rfl
  · rfl
theorem Kfy {w : World} {a : Go.Addr} {n : Nat} {cs : List Value} (h : w.cells? 0 a n = some cs) : cs.length = n ∧ ∀ i (hi : i < cs.length), w.cell? (a.add i) = some cs[i] := by
  unfold World.cells? at h
  rw [if_pos (Nat.zero_le _)] at h
  refine ⟨by have := mapM_len h; simpa using this, fun i hi => ?_⟩
  have hn : i < n := by have := mapM_len h; simp at this; omega
  obtain ⟨y, h1, h2⟩ := Ka3 h i (by simpa using hn)
  rw [List.getElem?_eq_getElem hi] at h2
  cases h2
  simpa using h1
theorem Kfz {w : World} {a : Go.Addr} {v : Value} (h : w.cell? a = some v) : ∃ cs el fr, w.heap[a.block]? = some (.cells cs el fr) ∧ cs[a.off]? = some v := by
  unfold World.cell? at h
  split at h
  · rename_i c el fr heq
    split at h
    · cases h
    · exact ⟨c, el, fr, heq, h⟩
  · cases h
theorem Kem {P : Program} {fits : TypeId → Bool} {d count off n : Nat} {e : TypeId} (h : rowAt P fits d e count off n = true) : off ≤ count * P.cellsOf e := by
  cases d with
  | zero => simp [rowAt] at h
  | succ d =>
    unfold rowAt at h
    by_cases hs : P.cellsOf e = 0
    · simp [hs] at h
    · have hd := Nat.div_add_mod off (P.cellsOf e)
      have hm := Nat.mod_lt off (Nat.pos_of_ne_zero hs)
      simp only [hs, if_false, Bool.or_eq_true, Bool.and_eq_true, decide_eq_true_eq, beq_iff_eq] at h
      rcases h with ⟨⟨h1, h2⟩, _⟩ | ⟨h1, _⟩
      · have : off / P.cellsOf e ≤ count := by omega
        have := Nat.mul_le_mul_left (P.cellsOf e) this
        rw [Nat.mul_comm count]
        omega
      · have : off / P.cellsOf e + 1 ≤ count := h1
        have := Nat.mul_le_mul_left (P.cellsOf e) this
        rw [Nat.mul_comm count]
        rw [Nat.mul_add, Nat.mul_one] at this
        omega
theorem Kbr {P : Program} {fits : TypeId → Bool} {e e' : TypeId} {m : Nat} {k : IntKind} (h1 : fits e = false) (h2 : P.underlying e = some (.array m e')) (h3 : fits e' = false) (h4 : P.underlying e' = some (.int k)) (d count off n : Nat) : rowAt P fits d e count off n = false := by
  cases d with
  | zero => rfl
  | succ d =>
    cases d with
    | zero => unfold rowAt; by_cases hs : P.cellsOf e = 0 <;> simp [hs, h1, h2, rowAt]
    | succ d =>
      unfold rowAt
      by_cases hs : P.cellsOf e = 0
      · simp [hs]
      · simp only [hs, if_false, h1, h2, Bool.and_false, Bool.false_or]
        unfold rowAt
        by_cases hs' : P.cellsOf e' = 0
        · simp [hs']
        · simp [hs', h3, h4]
theorem Kch {P : Program} {d count off n : Nat} {e u : TypeId} (hu : ∀ m u', P.underlying u ≠ some (.array m u')) (h : liesAt P d e count off u n = true) : rowAt P (sameLayout P P.depth · u) P.depth e count off n = true := by
  cases d with
  | zero => simp [liesAt] at h
  | succ d =>
    unfold liesAt at h
    rw [Bool.or_eq_true] at h
    rcases h with h | h
    · exact h
    · split at h
      · rename_i m u' hq; exact (hu m u' hq).elim
      · cases h
theorem Kb8 {P : Program} {w : World} {base len cap : Nat} {t e : TypeId} {a : Go.Addr} (ht : P.underlying t = some (.slice e)) (h : Cell.okWide P w .any base t (.slice (some a) len cap)) : len ≤ cap ∧ w.has P .any base a e cap := by
  unfold Cell.okWide at h
  rw [ht] at h
  simp only at h
  unfold Cell.ok at h
  rw [ht] at h
  exact ⟨h.1, h.2.2⟩
theorem Kfa {α : Type} {p : Nat → α → Prop} : ∀ n, (∀ i, i < n → ∃ x, p i x) → ∃ L : List α, L.length = n ∧ ∀ i (h : i < L.length), p i L[i]
  | 0, _ => ⟨[], rfl, by simp⟩
  | n + 1, h => by
    obtain ⟨L, h1, h2⟩ := Kfa n (fun i hi => h i (by omega))
    obtain ⟨x, hx⟩ := h n (by omega)
    refine ⟨L ++ [x], by simp [h1], fun i hi => ?_⟩
    by_cases h3 : i < L.length
    · rw [List.getElem_append_left h3]; exact h2 i h3
    · have h4 : i = n := by simp at hi; omega
      subst h4
      rw [List.getElem_append_right (by omega)]
      simpa [h1] using hx
structure Klm {α : Type} (w : World) (x : Value) (n : Nat) (f : α → List Value) (L : List α) (y : Option CA) : Prop where
  is : (x = .slice none 0 0 ∧ L = [] ∧ y = none) ∨ ∃ b off cap sz, x = .slice (some ⟨b, off, none⟩) L.length cap ∧ L.length ≤ cap ∧ off + cap * n ≤ sz ∧ y = some ⟨b, off, sz⟩ ∧ Kpo w ⟨b, off, sz⟩ (L.flatMap f)
theorem Jn6 {α : Type} {f : α → List Value} {n : Nat} (hf : ∀ x, (f x).length = n) : ∀ (L : List α) (i : Nat) (h : i < L.length) (j : Nat), j < n → (L.flatMap f)[i * n + j]? = (f L[i])[j]?
  | [], i, h, _, _ => by simp at h
  | a :: L, 0, h, j, hj => by
    rw [List.flatMap_cons, List.getElem?_append_left (by rw [hf]; omega)]
    simp
  | a :: L, i + 1, h, j, hj => by
    have e : (i + 1) * n + j = n + (i * n + j) := by rw [Nat.add_mul]; omega
    rw [List.flatMap_cons, List.getElem?_append_right (by rw [hf]; omega), hf, e, Nat.add_sub_cancel_left, Jn6 hf L i (by simpa using h) j hj]
    simp
theorem Jn5 {α : Type} {f : α → List Value} {n : Nat} (hf : ∀ x, (f x).length = n) : ∀ L : List α, (L.flatMap f).length = L.length * n
  | [] => by simp
  | a :: L => by rw [List.flatMap_cons, List.length_append, hf, Jn5 hf L, List.length_cons, Nat.add_mul]; omega
theorem Jiy {H α : Type} {enc : TypeId × Value → H} {P : Program} {w : World} {fuel base n : Nat} {t e T6 e6 : TypeId} {m6 : Nat} {k6 : IntKind} {x : Value} {z : DataW H × List MemPlace} {f : α → List Value}
    (hu : P.underlying t = some (.slice e)) (he : ∀ m u', P.underlying e ≠ some (.array m u')) (hc : P.cellsOf e = n) (hn : 0 < n) (hf : ∀ x, (f x).length = n) (hfl : ∀ x, ∀ v ∈ f x, Ja5 v = true)
    (hel : ∀ fuel cs y, DataW.trod enc P w 0 (fun _ => true) true fuel e cs = some y → ∃ x : α, cs = f x)
    (h6 : ∃ c fr, w.heap[(6 : Nat)]? = some (.cells c T6 fr)) (s1 : sameLayout P P.depth T6 e = false) (s2 : P.underlying T6 = some (.array m6 e6)) (s3 : sameLayout P P.depth e6 e = false) (s4 : P.underlying e6 = some (.int k6))
    (hv : Cell.okWide P w .any base t x) (h : DataW.trod enc P w 0 (fun _ => true) true fuel t [x] = some z) : ∃ (L : List α) (y : Option CA), Klm w x n f L y := by
  rcases DataW.trod_slice hu h with ⟨h1, _⟩ | ⟨a, len, cap, elems, rest, fu, _, h1, _, _, hlc, hcm, hlen, hg, hr, _⟩
  · exact ⟨[], none, ⟨.inl ⟨by simpa using h1, rfl, rfl⟩⟩⟩
  · have hx : x = .slice (some a) len cap := by simpa using h1
    subst hx
    subst hc
    obtain ⟨hl, hb, hsp, row, sz, hsh, hli⟩ := Kb8 hu hv
    obtain ⟨b, off, spot⟩ := a
    have hsp' : spot = none := hsp
    subst hsp'
    unfold World.shape? at hsh
    split at hsh
    · rename_i c el fr heq
      cases hsh
      have hrow := Kch he hli
      have hoff : off ≤ c.size := Nat.le_trans (Kem hrow) (Nat.div_mul_le_self _ _)
      have hb6 : b ≠ 6 := by
        rintro rfl
        obtain ⟨c', fr', h7⟩ := h6
        have h8 : w.heap[(6 : Nat)]? = some (.cells c row fr) := heq
        rw [h7] at h8
        cases h8
        rw [Kbr (fits := fun x => sameLayout P P.depth x e) s1 s2 s3 s4] at hrow
        cases hrow
      have each : ∀ i, i < cap → ∃ x : α, w.cells? 0 (⟨b, off + i * P.cellsOf e, none⟩ : Go.Addr) (P.cellsOf e) = some (f x) := by
        intro i hi
        have key : ∃ y, (w.cells? 0 (⟨b, off + i * P.cellsOf e, none⟩ : Go.Addr) (P.cellsOf e)).bind (DataW.trod enc P w 0 (fun _ => true) true fu e) = some y := by
          by_cases h : i < len
          · have hgi := hg i h
            rw [addr_add] at hgi
            exact ⟨elems[i]'(by omega), hgi.trans (List.getElem?_eq_getElem _)⟩
          · obtain ⟨hr1, hr2⟩ := hr rfl
            have := hr2 (i - len) (by omega)
            rw [show len + (i - len) = i by omega, addr_add] at this
            exact ⟨rest[i - len]'(by omega), this.trans (List.getElem?_eq_getElem _)⟩
        obtain ⟨y, hy⟩ := key
        rw [Option.bind_eq_some_iff] at hy
        obtain ⟨cs, h9, h10⟩ := hy
        obtain ⟨x, rfl⟩ := hel _ _ _ h10
        exact ⟨x, h9⟩
      obtain ⟨L, hL, hLi⟩ := Kfa (p := fun i x => w.cells? 0 (⟨b, off + i * P.cellsOf e, none⟩ : Go.Addr) (P.cellsOf e) = some (f x)) len fun i hi => each i (by omega)
      have at_ : ∀ i (x : α) (hx : w.cells? 0 (⟨b, off + i * P.cellsOf e, none⟩ : Go.Addr) (P.cellsOf e) = some (f x)) r (hr : r < (f x).length), c[off + i * P.cellsOf e + r]? = some (f x)[r] := by
        intro i x hx r hr
        have hcell := (Kfy hx).2 r hr
        rw [addr_add] at hcell
        obtain ⟨cs, el', fr', k1, k2⟩ := Kfz hcell
        have k3 : w.heap[b]? = some (.cells cs el' fr') := k1
        rw [heq] at k3
        cases k3
        exact k2
      refine ⟨L, some ⟨b, off, c.size⟩, ⟨.inr ⟨b, off, cap, c.size, by rw [hL], by omega, ?_, rfl, ⟨c, row, fr, heq, rfl, fun i hi => ?_⟩, fun v hv => ?_, fun y hy => ?_⟩⟩⟩
      · by_cases h0 : cap = 0
        · subst h0; simpa using hoff
        · obtain ⟨x, hx⟩ := each (cap - 1) (by omega)
          have h1 := at_ _ x hx (P.cellsOf e - 1) (by rw [hf]; omega)
          have h2 := (Array.getElem?_eq_some_iff.1 h1).1
          have h3 : cap * P.cellsOf e = (cap - 1) * P.cellsOf e + P.cellsOf e := by
            have : cap = (cap - 1) + 1 := by omega
            conv => lhs; rw [this, Nat.add_mul, Nat.one_mul]
          omega
      · have hlen' := Jn5 hf L
        have hi' : i < L.length * P.cellsOf e := by omega
        have hq : i / P.cellsOf e < L.length := Nat.div_lt_of_lt_mul (by rw [Nat.mul_comm]; exact hi')
        have hm := Nat.mod_lt i hn
        have hdm := Nat.div_add_mod i (P.cellsOf e)
        rw [Nat.mul_comm] at hdm
        have k1 := at_ _ _ (hLi _ hq) (i % P.cellsOf e) (by rw [hf]; exact hm)
        have k2 := Jn6 hf L _ hq _ hm
        rw [hdm, List.getElem?_eq_getElem hi, List.getElem?_eq_getElem (by rw [hf]; exact hm)] at k2
        rw [Option.some.inj k2, ← k1]
        congr 1
        show off + i = off + i / P.cellsOf e * P.cellsOf e + i % P.cellsOf e
        omega
      · obtain ⟨x, _, hx⟩ := List.mem_flatMap.1 hv
        exact hfl x v hx
      · simp only [tabW, List.mem_singleton] at hy
        subst hy
        exact hb6
    · cases hsh
theorem Jjy {n : Nat} : ∀ (rows : List (List Value)) (hf : ∀ x ∈ rows, x.length = n) (i : Nat) (hi : i < rows.length), sub? rows.flatten (i * n) n = some rows[i]
  | r :: rs, hf, 0, _ => by
    have := hf r (by simp)
    subst this
    simp [sub?]
  | r :: rs, hf, i + 1, hi => by
    have ih := Jjy rs (fun x hx => hf x (by simp [hx])) i (by simpa using hi)
    have e : (i + 1) * n = r.length + i * n := by rw [hf r (by simp), Nat.add_mul]; omega
    unfold sub? at ih ⊢
    rw [e, List.flatten_cons, List.length_append]
    split at ih
    · rw [if_pos (by omega), show (r ++ rs.flatten).drop (r.length + i * n) = rs.flatten.drop (i * n) by simp [List.drop_append]]
      simpa using ih
    · cases ih
theorem Klm.named {α : Type} {w : World} {x : Value} {n : Nat} {f : α → List Value} {L : List α} {y : Option CA} {X : List (Option CA)} {l : List (List Value)} {k : Nat} (h : Klm w x n f L y) (hf : ∀ x, (f x).length = n) (hX : X[k]? = some y) (hl : l[k]? = some (L.flatMap f)) :
    ∃ s, VRel (Jh0 X) s x ∧ Go.Proofs.SlK (Jke l) s n (L.map f) := by
  rcases h.is with ⟨rfl, rfl, rfl⟩ | ⟨b, off, cap, sz, rfl, h1, h2, rfl, h3⟩
  · exact ⟨_, .nilSlice, .inl ⟨rfl, rfl⟩⟩
  · have hg : Jh0 X k = some ⟨b, off, sz⟩ := by unfold Jh0; rw [hX]; rfl
    refine ⟨.slice (some ⟨k, 0, none⟩) L.length (n + 1), .slice k 0 L.length (n + 1) ⟨b, off, sz⟩ off cap hg h1 (fun _ => by simp) (fun h => by omega) (by simpa using h2), .inr ⟨k, 0, L.flatMap f, by rw [List.length_map], Jxq hl, fun i hi => ?_⟩⟩
    rw [Nat.zero_add, List.flatMap_def]
    exact Jjy _ (fun r hr => by obtain ⟨z, _, rfl⟩ := List.mem_map.1 hr; exact hf z) i hi
theorem Klm.rowIn {α : Type} {w : World} {x : Value} {n : Nat} {f : α → List Value} {L : List α} {y : Option CA} (h : Klm w x n f L y) {z : CA} (e : y = some z) : Kpo w z (L.flatMap f) := by
  rcases h.is with ⟨_, _, rfl⟩ | ⟨b, off, cap, sz, _, _, _, rfl, h3⟩
  · cases e
  · cases e; exact h3
theorem newRow {σ : St} (hw : σ.Wf) {n : Nat} (rows : List (List Value)) (hf : ∀ x ∈ rows, x.length = n) : ∃ s σ', σ'.Wf ∧ Jad σ σ' ∧ Go.Proofs.SlR σ' s n rows := by
  refine ⟨.slice (some ⟨σ.next, 0, none⟩) rows.length 2, (σ.bump 1).set σ.next (.cells true 0 σ.next rows.flatten), ?_, ?_, ?_⟩
  · exact (hw.bump 1).new (hw.none_ge (Nat.le_refl _)) (by simp) _ (fun own v F c e => by cases e; rfl)
  · exact Jad.bump.set (Nat.le_refl _)
  · refine .inr ⟨σ.next, 0, 2, rows.flatten, rfl, by simp [St.cells?, St.rd], fun i hi => ?_⟩
    rw [Nat.zero_add]
    exact Jjy rows hf i hi
end Go.Ev
namespace Go.Proofs
open Go Go.Ev
set_option maxRecDepth 100000
set_option linter.unusedSimpArgs false
set_option linter.unusedVariables false
set_option linter.defProp false
set_option maxHeartbeats 4000000
theorem Juw : (Tryz.prog.underlying 30).map (fun d => match d with | TypeDesc.struct fs => fs.toList.map (fun (f : Field) => (f.offset, f.type)) | _ => []) = some [(0, 5), (1, 22), (2, 2), (3, 24), (5, 25), (6, 9), (7, 26), (8, 27), (9, 28), (10, 5), (11, 2), (12, 22)] := by kernel_rfl
theorem Kf8 : (Tryz.prog.underlying 24).map (fun d => match d with | TypeDesc.struct fs => fs.toList.map (fun (f : Field) => (f.offset, f.type)) | _ => []) = some [(0, 9), (1, 9)] := by kernel_rfl
theorem Kf7 : (Tryz.prog.underlying 56).map (fun d => match d with | TypeDesc.struct fs => fs.toList.map (fun (f : Field) => (f.offset, f.type)) | _ => []) = some [(0, 24), (2, 9), (3, 9), (4, 24), (6, 24), (8, 4)] := by kernel_rfl
theorem Kf6 : (Tryz.prog.underlying 58).map (fun d => match d with | TypeDesc.struct fs => fs.toList.map (fun (f : Field) => (f.offset, f.type)) | _ => []) = some [(0, 24), (2, 3), (3, 9)] := by kernel_rfl
theorem Jtf {P : Program} {t : TypeId} {l : List (Nat × TypeId)} (h : (P.underlying t).map (fun d => match d with | TypeDesc.struct fs => fs.toList.map (fun (f : Field) => (f.offset, f.type)) | _ => []) = some l) (hne : l ≠ []) :
    ∃ fs : Array Field, P.underlying t = some (.struct fs) ∧ fs.size = l.length ∧ ∀ (i : Nat) o u, l[i]? = some (o, u) → ∃ f : Field, fs[i]? = some f ∧ f.offset = o ∧ f.type = u := by
  cases hu : P.underlying t with
  | none => rw [hu] at h; cases h
  | some d =>
    rw [hu] at h
    simp only [Option.map_some, Option.some.injEq] at h
    cases d with
    | struct fs =>
      refine ⟨fs, rfl, ?_, fun i o u hi => ?_⟩
      · have := congrArg List.length h; simpa using this
      · have h2 : (fs.toList.map (fun (f : Field) => (f.offset, f.type)))[i]? = some (o, u) := by rw [show fs.toList.map (fun (f : Field) => (f.offset, f.type)) = l from h]; exact hi
        rw [List.getElem?_map] at h2
        cases h3 : fs.toList[i]? with
        | none => rw [h3] at h2; cases h2
        | some f =>
          rw [h3] at h2
          simp only [Option.map_some, Option.some.injEq, Prod.mk.injEq] at h2
          exact ⟨f, by simpa using h3, h2.1, h2.2⟩
    | _ => exact absurd h.symm hne
theorem wf_i64 {z : Int} (h : (Lit.int .i64 z).wf = true) : -9223372036854775808 ≤ z ∧ z < 9223372036854775808 := by
  have h1 : IntKind.i64.min = -9223372036854775808 := rfl
  have h2 : IntKind.i64.max = 9223372036854775807 := rfl
  simp only [Lit.wf, h1, h2, Bool.and_eq_true, decide_eq_true_eq] at h
  omega
theorem wf_u8 {z : Int} (h : (Lit.int .u8 z).wf = true) : 0 ≤ z ∧ z < 256 := by
  have h1 : IntKind.u8.min = 0 := rfl
  have h2 : IntKind.u8.max = 255 := rfl
  simp only [Lit.wf, h1, h2, Bool.and_eq_true, decide_eq_true_eq] at h
  omega
theorem wf_u32 {z : Int} (h : (Lit.int .u32 z).wf = true) : 0 ≤ z ∧ z < 4294967296 := by
  have h1 : IntKind.u32.min = 0 := rfl
  have h2 : IntKind.u32.max = 4294967295 := rfl
  simp only [Lit.wf, h1, h2, Bool.and_eq_true, decide_eq_true_eq] at h
  omega
section
variable {H : Type} {enc : TypeId × Value → H} {w : World} {spare : Nat → Bool} {fuel : Nat} {cs : List Value} {x : DataW H × List MemPlace}
theorem Ji4 {P : Program} {base : Nat} {held : Bool} {t : TypeId} {l : List (Nat × TypeId)} (h : (P.underlying t).map (fun d => match d with | TypeDesc.struct fs => fs.toList.map (fun (f : Field) => (f.offset, f.type)) | _ => []) = some l) (hne : l ≠ [])
    (hr : DataW.trod enc P w base spare held fuel t cs = some x) : cs.length = P.cellsOf t ∧ ∃ n, ∀ (i : Nat) o u, l[i]? = some (o, u) → ∃ y, DataW.trod enc P w base spare held n u ((cs.drop o).take (P.cellsOf u)) = some y := by
  obtain ⟨fs, hu, hsz, hf⟩ := Jtf h hne
  obtain ⟨xs, n, _, _, hl, hxl, hx⟩ := DataW.trod_struct hu hr
  refine ⟨hl, n, fun i o u hi => ?_⟩
  obtain ⟨f, h1, rfl, rfl⟩ := hf i o u hi
  have := hx i f h1
  have hi' : i < xs.length := by rw [hxl]; exact (Array.getElem?_eq_some_iff.1 h1).1
  exact ⟨xs[i], this.trans (List.getElem?_eq_getElem hi')⟩
theorem Jis : Tryz.prog.cellsOf 24 = 2 := by kernel_rfl
theorem Jne : Tryz.prog.cellsOf 9 = 1 := by kernel_rfl
theorem Jw3 : Tryz.prog.cellsOf 56 = 9 := by kernel_rfl
theorem Jw2 : Tryz.prog.cellsOf 58 = 4 := by kernel_rfl
theorem Kbi : Tryz.prog.cellsOf 3 = 1 := by kernel_rfl
theorem Ko9 : Tryz.prog.cellsOf 4 = 1 := by kernel_rfl
theorem Ko8 : Tryz.prog.cellsOf 5 = 1 := by kernel_rfl
theorem Kpa : Tryz.prog.cellsOf 2 = 1 := by kernel_rfl
theorem Ki7 : Tryz.prog.cellsOf 22 = 1 := by kernel_rfl
theorem Ki6 : Tryz.prog.cellsOf 25 = 1 := by kernel_rfl
theorem Ki5 : Tryz.prog.cellsOf 26 = 1 := by kernel_rfl
theorem Ki4 : Tryz.prog.cellsOf 27 = 1 := by kernel_rfl
theorem Ki3 : Tryz.prog.cellsOf 28 = 1 := by kernel_rfl
theorem Ki2 : Tryz.prog.cellsOf 30 = 13 := by kernel_rfl
theorem Jgs (h : DataW.trod enc Tryz.prog w 0 spare true fuel 24 cs = some x) : ∃ p : ByteArray × ByteArray, cs = Jbz p := by
  obtain ⟨hl, n, hp⟩ := Ji4 Kf8 (by simp) h
  rw [Jis] at hl
  match cs, hl with
  | [a, b], _ =>
    obtain ⟨_, h0⟩ := hp 0 _ _ rfl
    obtain ⟨_, h1⟩ := hp 1 _ _ rfl
    rw [Jne] at h0 h1
    obtain ⟨s0, e0, _⟩ := DataW.trod_string Jb1 h0
    obtain ⟨s1, e1, _⟩ := DataW.trod_string Jb1 h1
    simp at e0 e1
    subst e0 e1
    exact ⟨(s0, s1), rfl⟩
theorem Khc (h : DataW.trod enc Tryz.prog w 0 spare true fuel 56 cs = some x) : ∃ f : Jan, cs = f.cells := by
  obtain ⟨hl, n, hp⟩ := Ji4 Kf7 (by simp) h
  rw [Jw3] at hl
  match cs, hl with
  | [a0, a1, a2, a3, a4, a5, a6, a7, a8], _ =>
    obtain ⟨_, h0⟩ := hp 0 _ _ rfl
    obtain ⟨_, h1⟩ := hp 1 _ _ rfl
    obtain ⟨_, h2⟩ := hp 2 _ _ rfl
    obtain ⟨_, h3⟩ := hp 3 _ _ rfl
    obtain ⟨_, h4⟩ := hp 4 _ _ rfl
    obtain ⟨_, h5⟩ := hp 5 _ _ rfl
    rw [Jis] at h0 h3 h4
    rw [Jne] at h1 h2
    rw [Ko9] at h5
    obtain ⟨p0, e0⟩ := Jgs h0
    obtain ⟨s1, e1, _⟩ := DataW.trod_string Jb1 h1
    obtain ⟨s2, e2, _⟩ := DataW.trod_string Jb1 h2
    obtain ⟨p3, e3⟩ := Jgs h3
    obtain ⟨p4, e4⟩ := Jgs h4
    obtain ⟨b5, e5, _⟩ := DataW.trod_bool Jsc h5
    simp [Jbz, Jbb] at e0 e1 e2 e3 e4 e5
    obtain ⟨rfl, rfl⟩ := e0
    obtain ⟨rfl, rfl⟩ := e3
    obtain ⟨rfl, rfl⟩ := e4
    subst e1 e2 e5
    exact ⟨⟨p0.1, p0.2, s1, s2, p3.1, p3.2, p4.1, p4.2, b5⟩, rfl⟩
theorem Khb (h : DataW.trod enc Tryz.prog w 0 spare true fuel 58 cs = some x) : ∃ f : {f : Jaw // -9223372036854775808 ≤ f.code ∧ f.code < 9223372036854775808}, cs = f.1.cells := by
  obtain ⟨hl, n, hp⟩ := Ji4 Kf6 (by simp) h
  rw [Jw2] at hl
  match cs, hl with
  | [a0, a1, a2, a3], _ =>
    obtain ⟨_, h0⟩ := hp 0 _ _ rfl
    obtain ⟨_, h1⟩ := hp 1 _ _ rfl
    obtain ⟨_, h2⟩ := hp 2 _ _ rfl
    rw [Jis] at h0
    rw [Kbi] at h1
    rw [Jne] at h2
    obtain ⟨p0, e0⟩ := Jgs h0
    obtain ⟨z1, e1, _, hz⟩ := DataW.trod_int Jhn h1
    obtain ⟨s2, e2, _⟩ := DataW.trod_string Jb1 h2
    simp [Jbz, Jbb] at e0 e1 e2
    obtain ⟨rfl, rfl⟩ := e0
    subst e1 e2
    exact ⟨⟨⟨p0.1, p0.2, z1, s2⟩, wf_i64 hz⟩, rfl⟩
theorem Koy (h : DataW.trod enc Tryz.prog w 0 spare true fuel 3 cs = some x) : ∃ z : Int, cs = Ja8 z := by
  obtain ⟨z1, e1, _⟩ := DataW.trod_int Jhn h
  exact ⟨z1, e1⟩
end
def LRel (g : Gam) (l l' : List Value) : Prop := l.length = l'.length ∧ ∀ i (h : i < l.length) (h' : i < l'.length), VRel g l[i] l'[i]
theorem LRel.nil {g : Gam} : LRel g [] [] := ⟨rfl, fun i h => by simp at h⟩
theorem LRel.cons {g : Gam} {a b : Value} {l l' : List Value} (h : VRel g a b) (k : LRel g l l') : LRel g (a :: l) (b :: l') := by
  refine ⟨by simp [k.1], fun i h1 h2 => ?_⟩
  cases i with
  | zero => exact h
  | succ i => exact k.2 i (by simpa using h1) (by simpa using h2)
theorem LRel.agg {g : Gam} {l l' : List Value} (h : LRel g l l') : VRel g (.agg ⟨l⟩) (.agg ⟨l'⟩) := .agg _ _ (by simpa using h.1) fun i h1 h2 => by simpa using h.2 i (by simpa using h1) (by simpa using h2)
theorem Ki1 : Tryz.prog.cellTypes Tryz.prog.depth 30 = some [5, 22, 2, 9, 9, 25, 9, 26, 27, 28, 5, 2, 22] := by kernel_rfl
theorem Jkr : Tryz.prog.underlying 362 = some (.array 20 110) := by kernel_rfl
theorem Kg9 : sameLayout Tryz.prog Tryz.prog.depth 362 24 = false := by kernel_rfl
theorem Kg6 : sameLayout Tryz.prog Tryz.prog.depth 110 24 = false := by kernel_rfl
theorem Kg8 : sameLayout Tryz.prog Tryz.prog.depth 362 56 = false := by kernel_rfl
theorem Kg5 : sameLayout Tryz.prog Tryz.prog.depth 110 56 = false := by kernel_rfl
theorem Kg7 : sameLayout Tryz.prog Tryz.prog.depth 362 58 = false := by kernel_rfl
theorem Kg4 : sameLayout Tryz.prog Tryz.prog.depth 110 58 = false := by kernel_rfl
theorem Kol : sameLayout Tryz.prog Tryz.prog.depth 362 3 = false := by kernel_rfl
theorem Kok : sameLayout Tryz.prog Tryz.prog.depth 110 3 = false := by kernel_rfl
theorem Ka2 {P : Program} {t : TypeId} (h : (P.underlying t).map (fun d => match d with | TypeDesc.array _ _ => true | _ => false) = some false) : ∀ m u, P.underlying t ≠ some (.array m u) := by
  intro m u e
  rw [e] at h
  cases h
theorem Jsq {H : Type} {enc : TypeId × Value → H} {w : World} {base : Nat} {v : Value} {d : DataW H} {ps : List MemPlace} (h6 : ∃ c fr, w.heap[(6 : Nat)]? = some (.cells c 362 fr)) (ht6 : ∀ y ∈ tabW, ∃ t fr, w.heap[y.1]? = some (.cells y.2.toArray t fr))
    (hok : Value.okWide Tryz.prog w .any base 30 v) (ht : DataW.Trod enc Tryz.prog w 0 (fun _ => true) true 30 v d ps) :
    ∃ (r : RecM) (s : RecS) (X : List (Option CA)) (l : List (List Value)), VRel (Jh0 X) (.agg ⟨Jah r s⟩) v ∧ Jxj (Jke l) r s ∧ r.Ints ∧ Rel (Jh0 X) (Jke l) w ∧ ∀ A y, Jh0 X A = some y → (Jke l).ro A := by
  obtain ⟨fs, hu, _⟩ := Jtf Juw (by simp)
  unfold Value.okWide at hok
  rw [hu] at hok
  simp only at hok
  obtain ⟨cs, rfl, hsz, ts, hts, _, hcell⟩ := hok
  rw [Ki1] at hts
  cases hts
  obtain ⟨fuel, ht⟩ := ht
  have hcs : (Value.agg cs).cells.toList = cs.toList := rfl
  rw [hcs] at ht
  obtain ⟨hl, n, hp⟩ := Ji4 Juw (by simp) ht
  rw [Ki2] at hl
  obtain ⟨L⟩ := cs
  simp only at hl hp hcell
  match L, hl with
  | [c0, c1, c2, c3, c4, c5, c6, c7, c8, c9, c10, c11, c12], _ =>
    obtain ⟨_, q0⟩ := hp 0 _ _ rfl
    obtain ⟨_, q1⟩ := hp 1 _ _ rfl
    obtain ⟨_, q2⟩ := hp 2 _ _ rfl
    obtain ⟨_, q3⟩ := hp 3 _ _ rfl
    obtain ⟨_, q5⟩ := hp 4 _ _ rfl
    obtain ⟨_, q6⟩ := hp 5 _ _ rfl
    obtain ⟨_, q7⟩ := hp 6 _ _ rfl
    obtain ⟨_, q8⟩ := hp 7 _ _ rfl
    obtain ⟨_, q9⟩ := hp 8 _ _ rfl
    obtain ⟨_, q10⟩ := hp 9 _ _ rfl
    obtain ⟨_, q11⟩ := hp 10 _ _ rfl
    obtain ⟨_, q12⟩ := hp 11 _ _ rfl
    rw [Ko8] at q0 q10
    rw [Ki7] at q1 q12
    rw [Kpa] at q2 q11
    rw [Jis] at q3
    rw [Ki6] at q5
    rw [Jne] at q6
    rw [Ki5] at q7
    rw [Ki4] at q8
    rw [Ki3] at q9
    obtain ⟨z0, i0, _, f0⟩ := DataW.trod_int Jek q0
    obtain ⟨z1, i1, _, f1⟩ := DataW.trod_int Jho q1
    obtain ⟨z2, i2, _, f2⟩ := DataW.trod_int Jhp q2
    obtain ⟨p3, i3⟩ := Jgs q3
    obtain ⟨s6, i6, _⟩ := DataW.trod_string Jb1 q6
    obtain ⟨z10, i10, _, f10⟩ := DataW.trod_int Jek q10
    obtain ⟨z11, i11, _, f11⟩ := DataW.trod_int Jhp q11
    obtain ⟨z12, i12, _, f12⟩ := DataW.trod_int Jho q12
    have v5 : Cell.okWide Tryz.prog w .any base 25 c5 := by obtain ⟨u, hu, h⟩ := hcell 5 c5 rfl; cases hu; exact h
    have v7 : Cell.okWide Tryz.prog w .any base 26 c7 := by obtain ⟨u, hu, h⟩ := hcell 7 c7 rfl; cases hu; exact h
    have v8 : Cell.okWide Tryz.prog w .any base 27 c8 := by obtain ⟨u, hu, h⟩ := hcell 8 c8 rfl; cases hu; exact h
    have v9 : Cell.okWide Tryz.prog w .any base 28 c9 := by obtain ⟨u, hu, h⟩ := hcell 9 c9 rfl; cases hu; exact h
    simp [Jbz, Jbb] at i0 i1 i2 i3 i6 i10 i11 i12
    obtain ⟨rfl, rfl⟩ := i3
    subst i0 i1 i2 i6 i10 i11 i12
    obtain ⟨L0, y0, O0⟩ := Jiy (f := Jbz) Jd7 (Ka2 (by kernel_rfl)) Jis (by decide) (fun _ => rfl) (fun x v hv => by simp [Jbz, Jbb] at hv; rcases hv with rfl | rfl <;> rfl) (fun _ _ _ h => Jgs h) h6 Kg9 Jkr Kg6 Jdm v5 q5
    obtain ⟨L1, y1, O1⟩ := Jiy (f := Jan.cells) Jd6 (Ka2 (by kernel_rfl)) Jw3 (by decide) (fun _ => rfl) (fun x v hv => by simp [Jan.cells] at hv; rcases hv with rfl | rfl | rfl | rfl | rfl | rfl | rfl | rfl | rfl <;> rfl) (fun _ _ _ h => Khc h) h6 Kg8 Jkr Kg5 Jdm v7 q7
    obtain ⟨L2, y2, O2⟩ := Jiy (f := fun x : {f : Jaw // -9223372036854775808 ≤ f.code ∧ f.code < 9223372036854775808} => x.1.cells) Jd5 (Ka2 (by kernel_rfl)) Jw2 (by decide) (fun _ => rfl) (fun x v hv => by simp [Jaw.cells] at hv; rcases hv with rfl | rfl | rfl | rfl <;> rfl) (fun _ _ _ h => Khb h) h6 Kg7 Jkr Kg4 Jdm v8 q8
    obtain ⟨L3, y3, O3⟩ := Jiy (f := Ja8) Jd4 (Ka2 (by kernel_rfl)) Kbi (by decide) (fun _ => rfl) (fun x v hv => by simp [Ja8] at hv; subst hv; rfl) (fun _ _ _ h => Koy h) h6 Kol Jkr Kok Jdm v9 q9
    obtain ⟨l, hl⟩ : ∃ l, l = [L0.flatMap Jbz, L1.flatMap Jan.cells, L2.flatMap (fun x => x.1.cells), L3.flatMap Ja8] := ⟨_, rfl⟩
    obtain ⟨X, hX⟩ : ∃ X, X = [y0, y1, y2, y3] := ⟨_, rfl⟩
    obtain ⟨s0, r0, k0⟩ := O0.named (k := 0) (X := X) (l := l) (fun _ => rfl) (by rw [hX]; rfl) (by rw [hl]; rfl)
    obtain ⟨s1, r1, k1⟩ := O1.named (k := 1) (X := X) (l := l) (fun _ => rfl) (by rw [hX]; rfl) (by rw [hl]; rfl)
    obtain ⟨s2, r2, k2⟩ := O2.named (k := 2) (X := X) (l := l) (fun _ => rfl) (by rw [hX]; rfl) (by rw [hl]; rfl)
    obtain ⟨s3, r3, k3⟩ := O3.named (k := 3) (X := X) (l := l) (fun _ => rfl) (by rw [hX]; rfl) (by rw [hl]; rfl)
    have b0 := wf_u8 f0
    have b1 := wf_u32 f1
    have b2 := wf_i64 f2
    have b10 := wf_u8 f10
    have b11 := wf_i64 f11
    have b12 := wf_u32 f12
    have hrel := Krp (x := X) (l := l) (w := w) (by rw [hX, hl]; rfl) (fun i y c h1 h2 => by
      rw [hX] at h1
      rw [hl] at h2
      match i with
      | 0 => simp at h1 h2; subst h2; exact O0.rowIn h1
      | 1 => simp at h1 h2; subst h2; exact O1.rowIn h1
      | 2 =>
        have h2' : some (L2.flatMap fun x => x.1.cells) = some c := h2
        cases h2'
        exact O2.rowIn (Option.some.inj (show some y2 = some (some y) from h1))
      | 3 => simp at h1 h2; subst h2; exact O3.rowIn h1
      | i + 4 => simp at h1) ht6
    refine ⟨⟨z0.toNat, z1.toNat, z2, p3.1, p3.2, L0, s6, L1, L2.map (·.1), L3, z10.toNat, z11, z12.toNat⟩, ⟨s0, s1, s2, s3⟩, _, _, ?_, ⟨k0, k1, ?_, k3⟩, ⟨by simp only; omega, by simp only; omega, b2, by simp only; omega, by simp only; omega, b11, ?_⟩, hrel.1, hrel.2⟩
    · unfold Jah
      simp only
      rw [Int.toNat_of_nonneg b0.1, Int.toNat_of_nonneg b1.1, Int.toNat_of_nonneg b10.1, Int.toNat_of_nonneg b12.1]
      exact LRel.agg (.cons (.int _ _) (.cons (.int _ _) (.cons (.int _ _) (.cons (.string _) (.cons (.string _) (.cons r0 (.cons (.string _) (.cons r1 (.cons r2 (.cons r3 (.cons (.int _ _) (.cons (.int _ _) (.cons (.int _ _) .nil)))))))))))))
    · have e : (L2.map (·.1)).map Jaw.cells = L2.map (fun x => x.1.cells) := by simp [Function.comp_def]
      rw [e]; exact k2
    · intro f hf
      obtain ⟨x, _, rfl⟩ := List.mem_map.1 hf
      exact x.2
end Go.Proofs
