/-
  A quicker evaluator of code, over any program: its numbers, trees and instructions do what the evaluator says. No condition.
-/
import Derived.Test.YtedojhheppepdaaGreatDoorEv21
import Derived.WalkKit
namespace Go.Ev
open Go
set_option linter.unusedVariables false
set_option linter.unusedSimpArgs false

/-! ## Trees -/
theorem getR_eq {α : Type} (p : List Bool) (t : Tr α) : getR p t = t.get p := by
  induction p generalizing t with
  | nil => cases t <;> rfl
  | cons b p ih =>
    cases t with
    | nil => rfl
    | node v l r => cases b <;> exact ih _
theorem setK_eq {α : Type} (p : List Bool) (x : α) (t : Tr α) (k : Tr α → R) : setK p x t k = k (t.set p x) := by
  induction p generalizing t k with
  | nil => cases t <;> rfl
  | cons b p ih =>
    cases t with
    | nil => cases b <;> exact ih _ _
    | node v l r => cases b <;> exact ih _ _

def getNF {α : Type} (f : Nat) : Nat → Tr α → Option α :=
  Nat.rec (motive := fun _ => Nat → Tr α → Option α) (fun _ t => Tr.casesOn t none (fun v _ _ => v))
    (fun _ ih n t => Nat.casesOn n (Tr.casesOn t none (fun v _ _ => v)) (fun m => Tr.casesOn t none (fun _ l r => Bool.casesOn (Nat.beq (Nat.mod m 2) 1) (ih (Nat.div m 2) r) (ih (Nat.div m 2) l)))) f
theorem getNF_eq {α : Type} : ∀ (f n : Nat) (t : Tr α), getNF f n t = t.get (pathF f n)
  | 0, n, t => by cases t <;> rfl
  | f + 1, 0, t => by cases t <;> rfl
  | f + 1, m + 1, t => by
    cases t with
    | nil => rfl
    | node v l r =>
      have ih := fun t => getNF_eq (α := α) f (m / 2) t
      have e : (m % 2 == 1) = Nat.beq (Nat.mod m 2) 1 := by rw [Bool.eq_iff_iff, beq_iff_eq, Nat.beq_eq]; exact Iff.rfl
      simp only [pathF, Tr.get, e, ← ih]
      show (Bool.casesOn (Nat.beq (Nat.mod m 2) 1) (getNF f (Nat.div m 2) r) (getNF f (Nat.div m 2) l) : Option α) = _
      cases Nat.beq (Nat.mod m 2) 1 <;> rfl
theorem getN_eq {α : Type} (n : Nat) (t : Tr α) : getN n t = t.get (path n) := getNF_eq n n t
def setNF {α : Type} (f : Nat) : Nat → α → Tr α → (Tr α → R) → R :=
  Nat.rec (motive := fun _ => Nat → α → Tr α → (Tr α → R) → R) (fun _ x t k => Tr.casesOn t (k (.node (some x) .nil .nil)) (fun _ l r => k (.node (some x) l r)))
    (fun _ ih n x t k => Nat.casesOn n (Tr.casesOn t (k (.node (some x) .nil .nil)) (fun _ l r => k (.node (some x) l r)))
      (fun m => Tr.casesOn t (Bool.casesOn (Nat.beq (Nat.mod m 2) 1) (ih (Nat.div m 2) x .nil fun r => k (.node none .nil r)) (ih (Nat.div m 2) x .nil fun l => k (.node none l .nil)))
        (fun v l r => Bool.casesOn (Nat.beq (Nat.mod m 2) 1) (ih (Nat.div m 2) x r fun r => k (.node v l r)) (ih (Nat.div m 2) x l fun l => k (.node v l r))))) f
theorem setNF_eq {α : Type} : ∀ (f n : Nat) (x : α) (t : Tr α) (k : Tr α → R), setNF f n x t k = k (t.set (pathF f n) x)
  | 0, n, x, t, k => by cases t <;> rfl
  | f + 1, 0, x, t, k => by cases t <;> rfl
  | f + 1, m + 1, x, t, k => by
    have ih := fun t k => setNF_eq (α := α) f (m / 2) x t k
    have e : (m % 2 == 1) = Nat.beq (Nat.mod m 2) 1 := by rw [Bool.eq_iff_iff, beq_iff_eq, Nat.beq_eq]; exact Iff.rfl
    cases t with
    | nil =>
      simp only [pathF, Tr.set, e]
      show (Bool.casesOn (Nat.beq (Nat.mod m 2) 1) (setNF f (m / 2) x .nil fun r => k (.node none .nil r)) (setNF f (m / 2) x .nil fun l => k (.node none l .nil)) : R) = _
      rw [ih, ih]
      cases Nat.beq (Nat.mod m 2) 1 <;> rfl
    | node v l r =>
      simp only [pathF, Tr.set, e]
      show (Bool.casesOn (Nat.beq (Nat.mod m 2) 1) (setNF f (m / 2) x r fun r => k (.node v l r)) (setNF f (m / 2) x l fun l => k (.node v l r)) : R) = _
      rw [ih, ih]
      cases Nat.beq (Nat.mod m 2) 1 <;> rfl
theorem setN_eq {α : Type} (n : Nat) (x : α) (t : Tr α) (k : Tr α → R) : setN n x t k = k (t.set (path n) x) := setNF_eq n n x t k
theorem blk_eq (A : Nat) (σ : St) : blk A σ = σ.get A := getN_eq A σ.heap
theorem setBlk_eq (A : Nat) (o : AObj) (σ : St) (k : St → R) : setBlk A o σ k = k (σ.set A o) := by
  cases σ; exact setN_eq A o _ _

theorem forceL_eq : ∀ (l : List Value) (k : List Value → R), forceL l k = k l
  | [], k => rfl
  | a :: l, k => forceL_eq l fun l => k (a :: l)
theorem appL_eq : ∀ (l m : List Value) (k : List Value → R), appL l m k = k (l ++ m)
  | [], m, k => rfl
  | a :: l, m, k => appL_eq l m fun l => k (a :: l)
theorem lenV_eq : ∀ (l : List Value) (acc : Nat) (k : Nat → R), lenV l acc k = k (acc + l.length)
  | [], acc, k => rfl
  | a :: l, acc, k => by
    show forceN (Nat.add acc 1) (fun acc => lenV l acc k) = _
    rw [forceN_eq, lenV_eq l]
    congr 1
    simp only [List.length_cons, Nat.add_eq]
    omega
theorem Tr.set_same {α : Type} : ∀ (p : List Bool) (x : α) (t : Tr α), t.get p = some x → t.set p x = t
  | [], x, .nil, h => by cases h
  | [], x, .node v l r, h => by
    have h : v = some x := h
    simp [Tr.set, h]
  | b :: p, x, .nil, h => by cases h
  | b :: p, x, .node v l r, h => by
    cases b
    · have := Tr.set_same p x r h
      simp [Tr.set, this]
    · have := Tr.set_same p x l h
      simp [Tr.set, this]
theorem St.set_same {σ : St} {A : Nat} {o : AObj} (h : σ.get A = some o) : σ.set A o = σ := by
  unfold St.set
  rw [Tr.set_same _ _ _ h]
theorem normK_eq (o : Option Nat) (σ : St) (k : St → R) : normK o σ k = k σ := by
  unfold normK
  split
  · rename_i A
    split
    · rename_i own ver F c h
      rw [forceL_eq, setBlk_eq]
      rw [blk_eq] at h
      rw [St.set_same h]
    · rfl
  · rfl
theorem dropR_eq : ∀ (o : Nat) (c : List Value), dropR o c = if o ≤ c.length then some (c.drop o) else none
  | 0, c => by rw [if_pos (Nat.zero_le _), List.drop_zero]; rfl
  | o + 1, [] => rfl
  | o + 1, a :: c => by
    have : dropR (o + 1) (a :: c) = dropR o c := rfl
    rw [this, dropR_eq o c]
    simp
theorem takeR_eq : ∀ (n : Nat) (c : List Value), takeR n c = if n ≤ c.length then some (c.take n) else none
  | 0, c => by rw [if_pos (Nat.zero_le _), List.take_zero]; rfl
  | n + 1, [] => rfl
  | n + 1, a :: c => by
    have : takeR (n + 1) (a :: c) = Option.casesOn (takeR n c) none (fun l => some (a :: l)) := rfl
    rw [this, takeR_eq n c]
    by_cases h : n ≤ c.length
    · simp [h]
    · simp [h]
theorem subR_eq (c : List Value) (o n : Nat) : subR c o n = sub? c o n := by
  unfold subR sub?
  rw [dropR_eq]
  by_cases h : o ≤ c.length
  · rw [if_pos h]
    simp only [takeR_eq, List.length_drop]
    by_cases h2 : o + n ≤ c.length
    · rw [if_pos h2, if_pos (by omega)]
    · rw [if_neg h2, if_neg (by omega)]
  · rw [if_neg h, if_neg (by omega)]
theorem overK_eq : ∀ (vs c : List Value) (k : List Value → R) (r : R), overK vs c k = r → r ≠ none → vs.length ≤ c.length ∧ k (vs ++ c.drop vs.length) = r
  | [], c, k, r, h, _ => ⟨Nat.zero_le _, by simpa [overK] using h⟩
  | v :: vs, [], k, r, h, hr => by
    have h : (none : R) = r := h
    exact (hr h.symm).elim
  | v :: vs, a :: c, k, r, h, hr => by
    have h : overK vs c (fun l => k (v :: l)) = r := h
    obtain ⟨h1, h2⟩ := overK_eq vs c _ r h hr
    exact ⟨by simp; omega, by simpa using h2⟩
theorem layK_eq (vs : List Value) : ∀ (o : Nat) (c : List Value) (k : List Value → R) (r : R), layK vs o c k = r → r ≠ none → o + vs.length ≤ c.length ∧ k (lay c o vs) = r
  | 0, c, k, r, h, hr => by
    have h : overK vs c k = r := h
    obtain ⟨h1, h2⟩ := overK_eq vs c k r h hr
    exact ⟨by omega, by simpa [lay] using h2⟩
  | o + 1, [], k, r, h, hr => by
    have h : (none : R) = r := h
    exact (hr h.symm).elim
  | o + 1, a :: c, k, r, h, hr => by
    have h : layK vs o c (fun l => k (a :: l)) = r := h
    obtain ⟨h1, h2⟩ := layK_eq vs o c _ r h hr
    refine ⟨by simp; omega, ?_⟩
    rw [← h2]
    congr 1
    unfold lay
    rw [show o + 1 + vs.length = (o + vs.length) + 1 by omega]
    simp
theorem cycR_get (z : List Value) (hz : z ≠ []) : ∀ (n k : Nat), k ≤ z.length → (cycR z n (z.drop k)).length = n ∧ ∀ i (h : i < (cycR z n (z.drop k)).length), (cycR z n (z.drop k))[i] = z.getD ((k + i) % z.length) undef
  | 0, k, _ => ⟨rfl, fun i h => by cases h⟩
  | n + 1, k, hk => by
    have hpos : 0 < z.length := List.length_pos_iff.2 hz
    have key : ∀ (j : Nat) (hj : j < z.length), j = k % z.length → cycR z (n + 1) (z.drop k) = z[j] :: cycR z n (z.drop (j + 1)) := by
      intro j hj e
      by_cases hlt : k < z.length
      · have : j = k := by rw [e, Nat.mod_eq_of_lt hlt]
        subst this
        have hd : z.drop j = z[j] :: z.drop (j + 1) := List.drop_eq_getElem_cons hj
        rw [hd]; rfl
      · have hk2 : k = z.length := by omega
        have : j = 0 := by rw [e, hk2, Nat.mod_self]
        subst this
        rw [hk2, List.drop_length]
        cases z with
        | nil => exact (hz rfl).elim
        | cons v r => rfl
    have hj : k % z.length < z.length := Nat.mod_lt _ hpos
    rw [key _ hj rfl]
    obtain ⟨h1, h2⟩ := cycR_get z hz n (k % z.length + 1) (by omega)
    refine ⟨by simp [h1], fun i hi => ?_⟩
    cases i with
    | zero => simp [hj]
    | succ i =>
      simp only [List.getElem_cons_succ]
      rw [h2]
      congr 1
      rw [show k % z.length + 1 + i = k % z.length + (1 + i) by omega, Nat.mod_add_mod]
      congr 1; omega
theorem cycR_zrow (z : Array Value) (n : Nat) (hz : z.size ≠ 0) : cycR z.toList n z.toList = (zrow z n).toList := by
  have hne : z.toList ≠ [] := fun e => hz (by have := congrArg List.length e; simpa using this)
  obtain ⟨h1, h2⟩ := cycR_get z.toList hne n 0 (Nat.zero_le _)
  rw [List.drop_zero] at h1 h2
  have hs : (zrow z n).size = n := by simp [zrow]
  refine List.ext_getElem (by rw [h1]; simp [hs]) fun i a b => ?_
  rw [h2 i a]
  have hm : i % z.size < z.size := Nat.mod_lt _ (by omega)
  simp [zrow, hm]
theorem hintK_eq {A : Nat} {σ : St} {c : List Value} {own : Bool} {ver F : Nat} (hA : σ.get A = some (.cells own ver F c)) (hw : σ.Wf) (k : Nat → R) : hintK A σ c k = k c.length := by
  unfold hintK
  rw [getN_eq]
  cases h : Tr.get σ.hint (path A) with
  | none => simp only [lenV_eq, Nat.zero_add]
  | some n =>
    obtain ⟨_, _, _, c2, h1, h2⟩ := hw.hint A n h
    rw [hA] at h1; cases h1
    simp only [forceN_eq, h2]
/-- What is noted of a block's length, or that length. -/
def hintN (A : Nat) (σ : St) (c : List Value) : Nat := match getN A σ.hint with
  | some n => n
  | none => c.length
theorem hintK_N (A : Nat) (σ : St) (c : List Value) (k : Nat → R) : hintK A σ c k = k (hintN A σ c) := by
  unfold hintK hintN
  cases getN A σ.hint with
  | none => simp only [lenV_eq, Nat.zero_add]
  | some n => simp only [forceN_eq]
theorem hintN_eq {A : Nat} {σ : St} {c : List Value} {own : Bool} {ver F : Nat} (hA : σ.get A = some (.cells own ver F c)) (hw : σ.Wf) : hintN A σ c = c.length := by
  unfold hintN
  rw [getN_eq]
  cases h : Tr.get σ.hint (path A) with
  | none => rfl
  | some n =>
    obtain ⟨_, _, _, c2, h1, h2⟩ := hw.hint A n h
    rw [hA] at h1; cases h1
    exact h2.symm
theorem appFin_eq (A id ver F : Nat) (c c' : List Value) (L M : Nat) (σ : St) (k : St → R) :
    appFin A id ver F c c' L M σ k = k (((((σ.set A (.cells false ver F c)).set id (.cells true ver F c')).setFam F id).setHint A L).setHint id M) := by
  cases σ
  unfold appFin
  simp only [setN_eq]
  rfl
theorem appK_eq (A id ver F : Nat) (c nc : List Value) (L : Nat) (σ : St) (k : St → R) :
    appK A id ver F c nc L σ k = k (((((σ.set A (.cells false ver F c)).set id (.cells true ver F (c ++ nc))).setFam F id).setHint A L).setHint id (L + nc.length)) := by
  unfold appK
  rw [lenV_eq, forceN_eq, Nat.zero_add]
  cases Nat.ble L 96
  · exact appFin_eq ..
  · show appL _ _ _ = _
    rw [appL_eq]
    exact appFin_eq ..
theorem appK_app {A id ver F : Nat} {c nc : List Value} {σ : St} : ((((σ.set A (.cells false ver F c)).set id (.cells true ver F (c ++ nc))).setFam F id).setHint A c.length).setHint id (c.length + nc.length) = appSt σ A id ver F c 0 c.length nc := by
  unfold appSt
  simp only [if_true, List.take_length, List.drop_zero, Nat.sub_zero]

/-! ## Taking at hand -/
theorem retI_eq (kd : IntKind) (n : Int) (k : XV → R) : retI kd n k = k (xvOf (.int kd n)) := by
  cases n with
  | ofNat n => exact retN_eq _ _ _
  | negSucc n =>
    show forceN n (fun n => k (.oth (.int kd (.negSucc n)))) = _
    rw [forceN_eq]; rfl
theorem take_eq (v : Value) (k : XV → R) : take v k = k (xvOf v) := by
  cases v with
  | int kd n => exact retI_eq kd n k
  | bool b => exact forceB_eq b k
  | slice a n c =>
    show forceN n (fun n => k (.oth (.slice a n c))) = _
    rw [forceN_eq]; rfl
  | _ => rfl
theorem xvOf_out (v : Value) : (xvOf v).out = v := by
  cases v with
  | int k n =>
    cases n with
    | ofNat n => simp [xvOf, XV.out, kindOf_codeOf]
    | negSucc n => rfl
  | _ => rfl
theorem takes_eq : ∀ (l : List Value) (k : List XV → R), takes l k = k (l.map xvOf)
  | [], k => rfl
  | v :: l, k => by
    show take v (fun v => takes l fun vs => k (v :: vs)) = _
    rw [take_eq, takes_eq l]; rfl

/-! ## Numbers -/
theorem wrap_small : ∀ (c n : Nat), n < limN c → (kindOf c).wrap (.ofNat n) = .ofNat n := by
  intro c n h
  match c with
  | 0 =>
    replace h : n < 9223372036854775808 := h
    simp [kindOf, IntKind.wrap, IntKind.bits, IntKind.signed]
    omega
  | 1 =>
    replace h : n < 256 := h
    simp [kindOf, IntKind.wrap, IntKind.bits, IntKind.signed]
    omega
  | 2 =>
    replace h : n < 2147483648 := h
    simp [kindOf, IntKind.wrap, IntKind.bits, IntKind.signed]
    omega
  | 3 =>
    replace h : n < 4294967296 := h
    simp [kindOf, IntKind.wrap, IntKind.bits, IntKind.signed]
    omega
  | 4 =>
    replace h : n < 18446744073709551616 := h
    simp [kindOf, IntKind.wrap, IntKind.bits, IntKind.signed]
    omega
  | 5 =>
    replace h : n < 65536 := h
    simp [kindOf, IntKind.wrap, IntKind.bits, IntKind.signed]
    omega
  | 6 =>
    replace h : n < 32768 := h
    simp [kindOf, IntKind.wrap, IntKind.bits, IntKind.signed]
    omega
  | c + 7 =>
    replace h : n < 128 := h
    simp [kindOf, IntKind.wrap, IntKind.bits, IntKind.signed]
    omega
theorem int_beq (a b : Int) : (a == b) = decide (a = b) := by rw [Bool.eq_iff_iff]; simp
theorem run_bin_int {P : Program} {op : BinOp} {t : TypeId} {k : IntKind} {a b : Int} {c : XV → R} {r : R} (h : binI op k a b c = r) (hr : r ≠ none) : ∃ v : XV, (∀ w, (binOp op t (.int k a) (.int k b)).run P w = .ok v.out w) ∧ flatV v.out = true ∧ c v = r := by
  have I : ∀ n, retI k n c = r → (∃ v : XV, v.out = .int k n ∧ c v = r) := fun n e => ⟨_, xvOf_out _, by rw [retI_eq] at e; exact e⟩
  have Bo : ∀ b, forceB b c = r → (∃ v : XV, v.out = .bool b ∧ c v = r) := fun b e => ⟨.bool b, rfl, by rw [forceB_eq] at e; exact e⟩
  unfold binI at h
  split at h
  · obtain ⟨v, e1, e2⟩ := I _ h; exact ⟨v, fun w => by rw [binOp_add, e1]; simp [Op.intArith], by rw [e1]; rfl, e2⟩
  · obtain ⟨v, e1, e2⟩ := I _ h; exact ⟨v, fun w => by rw [binOp_sub, e1]; simp [Op.intArith], by rw [e1]; rfl, e2⟩
  · obtain ⟨v, e1, e2⟩ := I _ h; exact ⟨v, fun w => by rw [binOp_mul, e1]; simp [Op.intArith], by rw [e1]; rfl, e2⟩
  · obtain ⟨v, e1, e2⟩ := Bo _ h; exact ⟨v, fun w => by rw [binOp_eql, e1, int_beq]; simp, by rw [e1]; rfl, e2⟩
  · obtain ⟨v, e1, e2⟩ := Bo _ h; exact ⟨v, fun w => by rw [binOp_neq, e1]; simp [bne, int_beq], by rw [e1]; rfl, e2⟩
  · obtain ⟨v, e1, e2⟩ := Bo _ h; exact ⟨v, fun w => by rw [binOp_lss, e1]; simp, by rw [e1]; rfl, e2⟩
  · obtain ⟨v, e1, e2⟩ := Bo _ h; exact ⟨v, fun w => by rw [binOp_leq, e1]; simp, by rw [e1]; rfl, e2⟩
  · obtain ⟨v, e1, e2⟩ := Bo _ h; exact ⟨v, fun w => by rw [binOp_gtr, e1]; simp, by rw [e1]; rfl, e2⟩
  · obtain ⟨v, e1, e2⟩ := Bo _ h; exact ⟨v, fun w => by rw [binOp_geq, e1]; simp, by rw [e1]; rfl, e2⟩
  · exact (hr h.symm).elim
theorem run_bin_val {P : Program} {op : BinOp} {t : TypeId} {a b : Value} {c : XV → R} {r : R} (h : binV op a b c = r) (hr : r ≠ none) : ∃ v : XV, (∀ w, (binOp op t a b).run P w = .ok v.out w) ∧ flatV v.out = true ∧ c v = r := by
  unfold binV at h
  split at h
  · split at h
    · rename_i e; subst e; exact run_bin_int h hr
    · exact (hr h.symm).elim
  · exact (hr h.symm).elim
theorem run_bin_nat {P : Program} {op : BinOp} {t : TypeId} {k m n : Nat} {slow : R} {c : XV → R} {r : R} (hs : slow = r → ∃ v : XV, (∀ w, (binOp op t (.int (kindOf k) (.ofNat m)) (.int (kindOf k) (.ofNat n))).run P w = .ok v.out w) ∧ flatV v.out = true ∧ c v = r)
    (h : binN op k m n slow c = r) (hr : r ≠ none) : ∃ v : XV, (∀ w, (binOp op t (.int (kindOf k) (.ofNat m)) (.int (kindOf k) (.ofNat n))).run P w = .ok v.out w) ∧ flatV v.out = true ∧ c v = r := by
  have Bo : ∀ b, forceB b c = r → (∃ v : XV, v.out = .bool b ∧ c v = r) := fun b e => ⟨.bool b, rfl, by rw [forceB_eq] at e; exact e⟩
  have hbeq : ∀ m n : Nat, Nat.beq m n = decide ((Int.ofNat m) = Int.ofNat n) := fun m n => by
    rw [Bool.eq_iff_iff, decide_eq_true_iff, Nat.beq_eq]; exact Int.ofNat_inj.symm
  have hblt : ∀ m n : Nat, Nat.blt m n = decide ((Int.ofNat m) < Int.ofNat n) := fun m n => by
    rw [Bool.eq_iff_iff, decide_eq_true_iff, Nat.blt_eq]; exact Int.ofNat_lt.symm
  have hble : ∀ m n : Nat, Nat.ble m n = decide ((Int.ofNat m) ≤ Int.ofNat n) := fun m n => by
    rw [Bool.eq_iff_iff]; simp [Nat.ble_eq]
  unfold binN at h
  split at h
  · cases hc : Nat.blt (Nat.add m n) (limN k) with
    | false => rw [hc] at h; exact hs h
    | true =>
      rw [hc] at h
      simp only [cond_true, retN_eq] at h
      refine ⟨_, fun w => ?_, rfl, h⟩
      have := wrap_small k (m + n) (by simpa [Nat.blt_eq] using hc)
      rw [binOp_add]
      simp only [Op.intArith, Sem.run_pure, XV.out]
      congr 2
  · cases hc : Nat.ble n m with
    | false => rw [hc] at h; exact hs h
    | true =>
      rw [hc] at h
      simp only [cond_true] at h
      cases hc2 : Nat.blt m (limN k) with
      | false => rw [hc2] at h; exact hs h
      | true =>
        rw [hc2] at h
        simp only [cond_true, retN_eq] at h
        refine ⟨_, fun w => ?_, rfl, h⟩
        have h1 : n ≤ m := by simpa [Nat.ble_eq] using hc
        have h2 : m < limN k := by simpa [Nat.blt_eq] using hc2
        have := wrap_small k (m - n) (by omega)
        rw [binOp_sub]
        simp only [Op.intArith, Sem.run_pure, XV.out]
        have e : (Int.ofNat m - Int.ofNat n : Int) = Int.ofNat (m - n) := by simp; omega
        rw [e, this]; rfl
  · cases hc : Nat.blt (Nat.mul m n) (limN k) with
    | false => rw [hc] at h; exact hs h
    | true =>
      rw [hc] at h
      simp only [cond_true, retN_eq] at h
      refine ⟨_, fun w => ?_, rfl, h⟩
      have := wrap_small k (m * n) (by simpa [Nat.blt_eq] using hc)
      rw [binOp_mul]
      simp only [Op.intArith, Sem.run_pure, XV.out]
      have e : (Int.ofNat m * Int.ofNat n : Int) = Int.ofNat (m * n) := by simp
      rw [e, this]; rfl
  · rw [hbeq] at h
    obtain ⟨v, e1, e2⟩ := Bo _ h; exact ⟨v, fun w => by rw [binOp_eql, e1, int_beq]; simp, by rw [e1]; rfl, e2⟩
  · have e : (Bool.casesOn (Nat.beq m n) true false : Bool) = !decide ((Int.ofNat m) = Int.ofNat n) := by rw [← hbeq]; cases Nat.beq m n <;> rfl
    rw [e] at h
    obtain ⟨v, e1, e2⟩ := Bo _ h; exact ⟨v, fun w => by rw [binOp_neq, e1]; simp [bne, int_beq], by rw [e1]; rfl, e2⟩
  · rw [hblt] at h
    obtain ⟨v, e1, e2⟩ := Bo _ h; exact ⟨v, fun w => by rw [binOp_lss, e1]; simp, by rw [e1]; rfl, e2⟩
  · rw [hble] at h
    obtain ⟨v, e1, e2⟩ := Bo _ h; exact ⟨v, fun w => by rw [binOp_leq, e1]; simp, by rw [e1]; rfl, e2⟩
  · rw [hblt] at h
    obtain ⟨v, e1, e2⟩ := Bo _ h; exact ⟨v, fun w => by rw [binOp_gtr, e1]; simp, by rw [e1]; rfl, e2⟩
  · rw [hble] at h
    obtain ⟨v, e1, e2⟩ := Bo _ h; exact ⟨v, fun w => by rw [binOp_geq, e1]; simp, by rw [e1]; rfl, e2⟩
  · exact hs h
end Go.Ev
