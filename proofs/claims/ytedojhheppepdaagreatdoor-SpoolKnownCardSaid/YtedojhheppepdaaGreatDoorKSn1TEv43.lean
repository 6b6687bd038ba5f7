/-
  The evaluator and the contracts, merged out of 10 texts (Sn1 to Ev43). No condition.
-/
import Derived.Test.YtedojhheppepdaaGreatDoorKEv39TSo1
import Derived.Test.YtedojhheppepdaaGreatDoorKSw2
import Derived.Shelf.Strings.Repeat
import Derived.Ground.NamesProg
import Derived.Test.YtedojhheppepdaaGreatDoorProg
import Derived.Test.YtedojhheppepdaaGreatDoorKEv24TEv33
import Derived.KernelRfl
import Derived.Test.YtedojhheppepdaaGreatDoorChecked

namespace Go.Proofs
open Go Go.Ev
set_option maxRecDepth 100000
set_option linter.unusedSimpArgs false
set_option linter.unusedVariables false
/-- The byte that number lays. -/
def byteAt (n : Int) (k : Nat) : Value := .int .u8 (IntKind.u8.wrap (n.fdiv (2 ^ (8 * k))))
/-- A writer: what it points to, and what it has laid. -/
def Wr (σ : St) (W : Nat) (c : List Value) : Prop := W < σ.next ∧ ∃ v F,
  (c = [] ∧ σ.get W = some (.cells true v F [.slice none 0 0])) ∨
  (∃ A v' F', σ.get W = some (.cells true v F [.slice (some ⟨A, 0, none⟩) c.length 2]) ∧ σ.get A = some (.cells true v' F' c) ∧ A ≠ W ∧ A < σ.next)
/-- One more byte behind a writer's. -/
noncomputable def pushB (σ : St) (W : Nat) (b : Value) : St := match σ.get W with
  | some (.cells _ v F [.slice (some ⟨A, _, _⟩) len _]) => match σ.get A with
    | some (.cells _ v' F' c) => ((((((((σ.bump 17).set (σ.next + 2 + 10) (.cells true 0 (σ.next + 2 + 10) [b])).set A (.cells false v' F' c)).set (σ.next + 2 + 11) (.cells true v' F' (c ++ [b]))).setFam F' (σ.next + 2 + 11)).setHint A len).setHint (σ.next + 2 + 11) (len + 1)).set
        W (.cells true (v + 1) F [.slice (some ⟨σ.next + 2 + 11, 0, none⟩) (len + 1) 2])).bump 3
    | _ => σ
  | some (.cells _ v F [.slice none _ _]) => ((((σ.bump 17).set (σ.next + 2 + 10) (.cells true 0 (σ.next + 2 + 10) [b])).set (σ.next + 2 + 11) (.cells true 0 (σ.next + 2 + 11) [b])).set
        W (.cells true (v + 1) F [.slice (some ⟨σ.next + 2 + 11, 0, none⟩) 1 2])).bump 3
  | _ => σ
theorem pushB_nil {σ : St} {W v F : Nat} {b : Value} (h : σ.get W = some (.cells true v F [.slice none 0 0])) : pushB σ W b = ((((σ.bump 17).set (σ.next + 2 + 10) (.cells true 0 (σ.next + 2 + 10) [b])).set (σ.next + 2 + 11) (.cells true 0 (σ.next + 2 + 11) [b])).set
        W (.cells true (v + 1) F [.slice (some ⟨σ.next + 2 + 11, 0, none⟩) 1 2])).bump 3 := by
  unfold pushB; rw [h]
theorem pushB_own {σ : St} {W v F A v' F' len : Nat} {c : List Value} {b : Value} (h : σ.get W = some (.cells true v F [.slice (some ⟨A, 0, none⟩) len 2])) (hA : σ.get A = some (.cells true v' F' c)) : pushB σ W b =
    ((((((((σ.bump 17).set (σ.next + 2 + 10) (.cells true 0 (σ.next + 2 + 10) [b])).set A (.cells false v' F' c)).set (σ.next + 2 + 11) (.cells true v' F' (c ++ [b]))).setFam F' (σ.next + 2 + 11)).setHint A len).setHint (σ.next + 2 + 11) (len + 1)).set
        W (.cells true (v + 1) F [.slice (some ⟨σ.next + 2 + 11, 0, none⟩) (len + 1) 2])).bump 3 := by
  unfold pushB; rw [h]; simp only [hA]
theorem pushB_wr {σ : St} {W : Nat} {c : List Value} {b : Value} (h : Wr σ W c) : Wr (pushB σ W b) W (c ++ [b]) := by
  obtain ⟨hlt, v, F, ⟨rfl, hW⟩ | ⟨A, v', F', hW, hA, hne, hl⟩⟩ := h
  · have e1 : ¬ (W = σ.next + 2 + 11) := by omega
    refine ⟨?_, v + 1, F, .inr ⟨σ.next + 2 + 11, 0, σ.next + 2 + 11, ?_, ?_, by omega, ?_⟩⟩ <;> simp [pushB, hW] <;> omega
  · have e1 : ¬ (W = σ.next + 2 + 11) := by omega
    have e2 : ¬ (σ.next + 2 + 11 = A) := by omega
    refine ⟨?_, v + 1, F, .inr ⟨σ.next + 2 + 11, v', F', ?_, ?_, by omega, ?_⟩⟩ <;> simp [pushB, hW, hA] <;> omega
noncomputable def pushes (σ : St) (W : Nat) (l : List Value) : St := l.foldl (fun σ b => pushB σ W b) σ
theorem pushes_wr {W : Nat} {l : List Value} : ∀ {σ : St} {c : List Value}, Wr σ W c → Wr (pushes σ W l) W (c ++ l) := by
  induction l with
  | nil => intro σ c h; simpa [pushes] using h
  | cons b l ih =>
    intro σ c h
    have := ih (pushB_wr (b := b) h)
    rwa [List.append_assoc] at this
theorem Wr.bump {σ : St} {W n : Nat} {c : List Value} (h : Wr σ W c) : Wr (σ.bump n) W c := by
  obtain ⟨hlt, v, F, h⟩ := h
  refine ⟨Nat.lt_of_lt_of_le hlt (Nat.le_add_right _ _), v, F, ?_⟩
  rcases h with h | ⟨A, v', F', h1, h2, h3, h4⟩
  · exact .inl h
  · exact .inr ⟨A, v', F', h1, h2, h3, Nat.lt_of_lt_of_le h4 (Nat.le_add_right _ _)⟩
/-- A number's bytes. -/
def numL (n : Int) : Nat → List Value
  | 0 => []
  | k + 1 => byteAt n k :: numL n k
theorem numL_length (n : Int) : ∀ k, (numL n k).length = k
  | 0 => rfl
  | k + 1 => by simp [numL, numL_length n k]

theorem Tryz.number_tf {W : Nat} {c : List Value} (n : Int) (many : Nat) (hm : many ≤ 8) (σ : St) (hw : Wr σ W c) (hc : c.length < 500000000) :
    TF Tryz.prog [] 100 #[.pointer (some ⟨W, 0, none⟩), .int .i64 n, .int .i64 (many : Nat)] σ fun v σ' => v = .tuple #[] ∧ σ' = (pushes (σ.bump 3) W (numL n many)).bump 2 := by
  refine TF.walk (Tryz.C0_ok []) Tryz.mixedB Tryz.func100 (by kernel_rfl) rfl fun c hc => ?_
  cases hc
  simp (config := { maxSteps := 1000000 }) (disch := first | exact okQ_by (by kernel_rfl) | exact ordB_by (by kernel_rfl) | omega | assumption | (simp only [symE, List.all_cons, List.all_nil, Bool.and_true, Bool.and_self, List.length_cons, List.length_nil, Nat.reduceAdd, Nat.zero_add] <;> omega)) only [Tryz.f100, Tryz.C0_eq, symG, symA, symB, symC, symD, symE, Tryz.ty, ftR_some, Tryz.ftC_nil, Tryz.ftC_cons, List.getElem?_cons_zero, List.getElem?_cons_succ, List.length_cons, List.length_nil, List.map_cons, List.map_nil, List.nil_append, List.cons_append, List.append_nil, Option.map_some, Option.map_none, Nat.zero_add, Nat.add_zero, Nat.zero_mul, Nat.mul_one, Nat.one_mul, Nat.sub_zero, Int.toNat_natCast, reduceIte, Nat.reduceEqDiff, Nat.reduceAdd, Nat.reduceMul, Int.reduceToNat, clsOf, toArr_mk, if_true, if_false, Bool.not_true, Bool.not_false, Bool.false_eq_true]
  refine zLoop_ind (Tryz.C0_ok []) Tryz.mixedB (fun k env τ => ∃ done, numL n many = done ++ numL n k ∧ done.length + k = many ∧ τ = pushes (σ.bump 3) W done ∧ eget env 0 = .pointer (some ⟨W, 0, none⟩) ∧ eget env 1 = .int .i64 n ∧ eget env 6 = .int .i64 ((k : Int) - 1)) (n := many) (by kernel_rfl)
    ⟨[], rfl, by simp, rfl, by simp [eget_eput], by simp [eget_eput], by simp [eget_eput]⟩ ?_
  rintro k env τ ⟨done, hd, hl, rfl, e0, e1, e6⟩
  have hW := pushes_wr (l := done) (Wr.bump (n := 3) hw)
  have hlen : (c ++ done).length < 600000000 := by simp; omega
  generalize hτ : pushes (σ.bump 3) W done = τ at hW ⊢
  cases k with
  | zero =>
    have hk0 : (((0 : Nat) : Int) - 1 ≥ 0) = False := eq_false (by omega)
    have hdn : numL n many = done := by rw [hd]; simp [numL]
    simp (config := { maxSteps := 1000000 }) (disch := first | exact okQ_by (by kernel_rfl) | exact ordB_by (by kernel_rfl) | omega | assumption | (simp only [symE, List.all_cons, List.all_nil, Bool.and_true, Bool.and_self, List.length_cons, List.length_nil, Nat.reduceAdd, Nat.zero_add] <;> omega)) only [Tryz.C0_eq, symG, symA, symB, symC, symD, symE, Tryz.ty, ftR_some, Tryz.ftC_nil, Tryz.ftC_cons, List.getElem?_cons_zero, List.getElem?_cons_succ, List.length_cons, List.length_nil, List.map_cons, List.map_nil, List.nil_append, List.cons_append, List.append_nil, Option.map_some, Option.map_none, Nat.zero_add, Nat.add_zero, Nat.zero_mul, Nat.mul_one, Nat.one_mul, Nat.sub_zero, Int.toNat_natCast, reduceIte, Nat.reduceEqDiff, Nat.reduceAdd, Nat.reduceMul, Int.reduceToNat, clsOf, toArr_mk, if_true, if_false, Bool.not_true, Bool.not_false, Bool.false_eq_true, Tryz.C0_eq, e0, e1, e6, hk0, decide_false, hdn, hτ, and_self]
  | succ k =>
    have e6' : eget env 6 = .int .i64 (k : Nat) := by rw [e6]; congr 1; omega
    have hk0 : ((k : Int) ≥ 0) = True := eq_true (by omega)
    have ek : (8 * (k : Int)).toNat = 8 * k := by omega
    have hp : pushes (σ.bump 3) W (done ++ [byteAt n k]) = pushB τ W (byteAt n k) := by rw [← hτ]; simp [pushes]
    obtain ⟨hlt, v, F, ⟨hnil, hW⟩ | ⟨A, v', F', hW, hA, hne, hl⟩⟩ := hW
    · have q2 : ∀ k, (τ.next + 2 + k = W) = False := fun k => eq_false (by omega)
      have q4 : ∀ k, (W = τ.next + 2 + k) = False := fun k => eq_false (by omega)
      simp (config := { maxSteps := 1000000 }) (disch := first | exact okQ_by (by kernel_rfl) | exact ordB_by (by kernel_rfl) | omega | assumption | (simp only [symE, List.all_cons, List.all_nil, Bool.and_true, Bool.and_self, List.length_cons, List.length_nil, Nat.reduceAdd, Nat.zero_add] <;> omega)) only [q2, q4, Tryz.nil5, Tryz.C0_eq, symG, symA, symB, symC, symD, symE, Tryz.ty, ftR_some, Tryz.ftC_nil, Tryz.ftC_cons, List.getElem?_cons_zero, List.getElem?_cons_succ, List.length_cons, List.length_nil, List.map_cons, List.map_nil, List.nil_append, List.cons_append, List.append_nil, Option.map_some, Option.map_none, Nat.zero_add, Nat.add_zero, Nat.zero_mul, Nat.mul_one, Nat.one_mul, Nat.sub_zero, Int.toNat_natCast, reduceIte, Nat.reduceEqDiff, Nat.reduceAdd, Nat.reduceMul, Int.reduceToNat, clsOf, toArr_mk, if_true, if_false, Bool.not_true, Bool.not_false, Bool.false_eq_true, Tryz.C0_eq, e0, e1, e6', hk0, decide_true, hW, sBin_shr64, Tryz.cls25, ek]
      refine ⟨k, by omega, done ++ [byteAt n k], by rw [hd]; simp [numL], by simp; omega, ?_, trivial, trivial, rfl⟩
      rw [hp, pushB_nil hW]; rfl
    · have q1 : ∀ k, (τ.next + 2 + k = A) = False := fun k => eq_false (by omega)
      have q2 : ∀ k, (τ.next + 2 + k = W) = False := fun k => eq_false (by omega)
      have q3 : ∀ k, (A = τ.next + 2 + k) = False := fun k => eq_false (by omega)
      have q4 : ∀ k, (W = τ.next + 2 + k) = False := fun k => eq_false (by omega)
      have q5 : (A = W) = False := eq_false hne
      have q6 : (W = A) = False := eq_false (Ne.symm hne)
      simp (config := { maxSteps := 1000000 }) (disch := first | exact okQ_by (by kernel_rfl) | exact ordB_by (by kernel_rfl) | omega | assumption | (simp only [symE, List.all_cons, List.all_nil, Bool.and_true, Bool.and_self, List.length_cons, List.length_nil, Nat.reduceAdd, Nat.zero_add] <;> omega)) only [q1, q2, q3, q4, q5, q6, Tryz.app5, Tryz.C0_eq, symG, symA, symB, symC, symD, symE, Tryz.ty, ftR_some, Tryz.ftC_nil, Tryz.ftC_cons, List.getElem?_cons_zero, List.getElem?_cons_succ, List.length_cons, List.length_nil, List.map_cons, List.map_nil, List.nil_append, List.cons_append, List.append_nil, Option.map_some, Option.map_none, Nat.zero_add, Nat.add_zero, Nat.zero_mul, Nat.mul_one, Nat.one_mul, Nat.sub_zero, Int.toNat_natCast, reduceIte, Nat.reduceEqDiff, Nat.reduceAdd, Nat.reduceMul, Int.reduceToNat, clsOf, toArr_mk, if_true, if_false, Bool.not_true, Bool.not_false, Bool.false_eq_true, Tryz.C0_eq, e0, e1, e6', hk0, decide_true, hW, hA, sBin_shr64, Tryz.cls25, ek]
      refine ⟨k, by omega, done ++ [byteAt n k], by rw [hd]; simp [numL], by simp; omega, ?_, trivial, trivial, rfl⟩
      rw [hp, pushB_own hW hA]; rfl
end Go.Proofs

namespace Go.Proofs
open Go Go.Ev
set_option maxRecDepth 100000
set_option linter.unusedSimpArgs false
set_option linter.unusedVariables false
/-- The bytes of cells that are bytes. -/
noncomputable def u8sS (v : Value) (ih : Option (List Nat)) : Option (List Nat) := match v with
  | .int .u8 (.ofNat n) => cond (Nat.blt n 256) (match ih with
    | some l => some (n :: l)
    | none => none) none
  | _ => none
noncomputable def u8s (l : List Value) : Option (List Nat) := List.rec (motive := fun _ => Option (List Nat)) (some []) (fun v _ ih => u8sS v ih) l
theorem blt_lt {a b : Nat} (h : Nat.blt a b = true) : a < b := Nat.le_of_ble_eq_true h
theorem u8s_map : ∀ (l : List Value) (b : List Nat), u8s l = some b → l = (b.map UInt8.ofNat).map byteV ∧ ∀ n ∈ b, n < 256
  | [], b, h => by cases h; exact ⟨rfl, by simp⟩
  | v :: r, b, h => by
    have h2 : u8sS v (u8s r) = some b := h
    clear h
    unfold u8sS at h2
    split at h2
    · rename_i n
      cases hb : Nat.blt n 256 with
      | false => rw [hb] at h2; cases h2
      | true =>
        rw [hb] at h2
        simp only [cond_true] at h2
        split at h2
        · rename_i l hl
          cases h2
          have := blt_lt hb
          obtain ⟨e1, e2⟩ := u8s_map r l hl
          refine ⟨?_, fun m hm => ?_⟩
          · rw [e1, List.map_cons, List.map_cons]
            congr 1
            simp only [byteV]
            congr 1
            have e : (UInt8.ofNat n).toNat = n := by simp; omega
            rw [e]; rfl
          · rcases List.mem_cons.1 hm with rfl | hm
            · exact this
            · exact e2 m hm
        · cases h2
    · cases h2
/-- The table in one number. -/
def Tryz.tabT : Nat := 9937593612760466100516450665319420528403982636753068485404800763335476026940182181175496972418787619281442302519629725716261212251300561153615832085954560
theorem Tryz.tabT_eq : ∀ i, i < 16 → Nat.mod (Nat.shiftRight Tryz.tabT (Nat.mul 32 i)) 4294967296 = Tryz.tabv.getD i 0 := by decide
noncomputable def Tryz.halfK (r : Nat) (k : Nat → R) : R := forceN (Nat.xor (Nat.div r 16) (Nat.mod (Nat.shiftRight Tryz.tabT (Nat.mul 32 (Nat.land r 15))) 4294967296)) k
theorem Tryz.halfK_eq (r : Nat) (k : Nat → R) : Tryz.halfK r k = k (Tryz.halfN r) := by
  unfold Tryz.halfK
  have hand : r &&& 15 < 16 := Nat.lt_of_le_of_lt Nat.and_le_right (by decide)
  have e := Tryz.tabT_eq (r &&& 15) hand
  rw [forceN_eq]
  have e2 : Nat.mod (Nat.shiftRight Tryz.tabT (Nat.mul 32 (Nat.land r 15))) 4294967296 = Tryz.tabv.getD (r &&& 15) 0 := e
  rw [e2]; rfl
def Tryz.crcM (l : List Nat) (r : Nat) : Nat := l.foldl (fun r c => Tryz.halfN (Tryz.halfN (r ^^^ c))) r
theorem Tryz.crcM_eq : ∀ (l : List UInt8) (r : Nat), Tryz.crcN l r = Tryz.crcM (l.map (·.toNat)) r
  | [], r => rfl
  | c :: l, r => Tryz.crcM_eq l _
noncomputable def Tryz.crcK (l : List Nat) : Nat → (Nat → R) → R := List.rec (motive := fun _ => Nat → (Nat → R) → R) (fun r k => k r) (fun c _ ih r k => forceN (Nat.xor r c) fun x => Tryz.halfK x fun x => Tryz.halfK x fun x => ih x k) l
theorem Tryz.crcK_eq : ∀ (l : List Nat) (r : Nat) (k : Nat → R), Tryz.crcK l r k = k (Tryz.crcM l r)
  | [], r, k => rfl
  | c :: l, r, k => by
    show (forceN (Nat.xor r c) fun x => Tryz.halfK x fun x => Tryz.halfK x fun x => Tryz.crcK l x k) = _
    rw [forceN_eq, Tryz.halfK_eq, Tryz.halfK_eq, Tryz.crcK_eq l]; rfl
def fourM (n : Nat) : List Nat := [Nat.mod (Nat.div n 16777216) 256, Nat.mod (Nat.div n 65536) 256, Nat.mod (Nat.div n 256) 256, Nat.mod n 256]
def twoM (n : Nat) : List Nat := [Nat.mod (Nat.div n 256) 256, Nat.mod n 256]
theorem fourM_eq (n : Nat) : (fourL n).map (·.toNat) = fourM n := by simp [fourL, fourM]; exact ⟨rfl, rfl, rfl, rfl⟩
theorem twoM_eq (n : Nat) : (twoL n).map (·.toNat) = twoM n := by simp [twoL, twoM]; exact ⟨rfl, rfl⟩
theorem ofN_toN : ∀ {l : List Nat}, (∀ n ∈ l, n < 256) → (l.map UInt8.ofNat).map (·.toNat) = l
  | [], _ => rfl
  | a :: l, h => by
    have h1 := h a (by simp)
    rw [List.map_cons, List.map_cons, ofN_toN fun n hn => h n (by simp [hn])]
    congr 1
    simp; omega
/-- Do cells hold these numbers? -/
noncomputable def isTabS (v : Value) (ih : List Nat → Bool) (t : List Nat) : Bool := match v, t with
  | .int .u32 (.ofNat n), m :: t => cond (Nat.beq n m) (ih t) false
  | _, _ => false
noncomputable def isTab (l : List Value) : List Nat → Bool := List.rec (motive := fun _ => List Nat → Bool) (fun t => List.casesOn t true (fun _ _ => false)) (fun v _ ih t => isTabS v ih t) l
theorem isTab_eq : ∀ (l : List Value) (t : List Nat), isTab l t = true → l = t.map fun n => .int .u32 (n : Nat)
  | [], [], _ => rfl
  | [], _ :: _, h => by cases h
  | v :: r, t, h => by
    have h2 : isTabS v (isTab r) t = true := h
    clear h
    unfold isTabS at h2
    split at h2
    · rename_i n m t
      cases hb : Nat.beq n m with
      | false => rw [hb] at h2; cases h2
      | true =>
        rw [hb] at h2
        have : n = m := by rw [Nat.beq_eq] at hb; exact hb
        subst this
        rw [isTab_eq r t h2]; rfl
    · cases h2
/-- Cells that may be read, quickly found. -/
noncomputable def cellsK (A : Nat) (σ : St) : Option (List Value) := match blk A σ with
  | some (.cells own v F c) => cond (own || σ.rd own v F) (some c) none
  | _ => none
theorem cellsK_ok {A : Nat} {σ : St} {c : List Value} (h : cellsK A σ = some c) : σ.cells? A = some c := by
  unfold cellsK at h
  split at h
  · rename_i own v F c' hb
    cases hr : (own || σ.rd own v F) with
    | false => rw [hr] at h; cases h
    | true => rw [hr] at h; cases h; exact cells_of hb hr
  · cases h
/-- A payload at hand: the table lies, the bytes may be read. -/
noncomputable def Tryz.payload (σ : St) (a n B o len : Nat) : Option (List Nat) := match cellsK 3 σ, cellsK B σ with
  | some t, some c => cond (isTab t Tryz.tabv && Nat.blt a 4294967296 && Nat.blt n 4294967296 && Nat.ble (Nat.add o len) c.length && Nat.ble len 16384 && Nat.blt 0 len) (u8s ((c.drop o).take len)) none
  | _, _ => none
theorem Tryz.payload_ok {σ : St} {a n B o len : Nat} {m : List Nat} (h : Tryz.payload σ a n B o len = some m) :
    ∃ l : List UInt8, l.map (·.toNat) = m ∧ σ.cells? 3 = some Tryz.tabC ∧ a < 4294967296 ∧ n < 4294967296 ∧ l.length = len ∧ l.length ≤ 16384 ∧ l ≠ [] ∧ ∃ c, σ.cells? B = some c ∧ (c.drop o).take l.length = l.map byteV ∧ o + l.length ≤ c.length := by
  unfold Tryz.payload at h
  split at h
  · rename_i t c ht hc
    cases hb : (isTab t Tryz.tabv && Nat.blt a 4294967296 && Nat.blt n 4294967296 && Nat.ble (Nat.add o len) c.length && Nat.ble len 16384 && Nat.blt 0 len) with
    | false => rw [hb] at h; cases h
    | true =>
      rw [hb] at h
      simp only [Bool.and_eq_true] at hb
      obtain ⟨⟨⟨⟨⟨b1, b2⟩, b3⟩, b4⟩, b5⟩, b6⟩ := hb
      have b2 : a < 4294967296 := blt_lt b2
      have b3 : n < 4294967296 := blt_lt b3
      have b4 : o + len ≤ c.length := by simpa using b4
      have b5 : len ≤ 16384 := by simpa using b5
      have b6 : 0 < len := blt_lt b6
      obtain ⟨hm, h256⟩ := u8s_map _ _ h
      have hlen : (m.map UInt8.ofNat).length = len := by
        have := congrArg List.length hm
        simp at this ⊢; omega
      have ht' := cellsK_ok ht
      rw [isTab_eq _ _ b1] at ht'
      refine ⟨m.map UInt8.ofNat, ofN_toN h256, ht', b2, b3, hlen, by omega, fun e => by rw [e] at hlen; simp at hlen; omega, c, cellsK_ok hc, by rw [hlen]; exact hm, by omega⟩
  · cases h
noncomputable def Tryz.sumC : CallF := fun _ args σ => match args.toList with
  | [.int .u32 (.ofNat a), .int .u32 (.ofNat n), .slice (some ⟨B, o, none⟩) len k] => match Tryz.payload σ a n B o len with
    | some l => Tryz.crcK (fourM a ++ fourM n ++ twoM len ++ l) 4294967295 fun x => forceN (Nat.xor x 4294967295) fun v => some (.int .u32 (.ofNat v), σ)
    | none => none
  | _ => none
theorem Tryz.sumC_ok : ∀ args σ v σ', Tryz.sumC 218 args σ = some (v, σ') → SimF Tryz.prog [3] 218 args σ v σ' := by
  intro args σ v σ' h
  unfold Tryz.sumC at h
  split at h
  · rename_i a n B o len k he
    have he : args = #[.int .u32 (.ofNat a), .int .u32 (.ofNat n), .slice (some ⟨B, o, none⟩) len k] := by rw [← Array.toArray_toList (xs := args), he]
    subst he
    split at h
    · rename_i m hl
      obtain ⟨l, rfl, h1, h2, h3, h4, h5, h6, c, h7, h8, h9⟩ := Tryz.payload_ok hl
      rw [Tryz.crcK_eq, forceN_eq] at h
      cases h
      have := Tryz.sum_sim (k := k) a n h2 h3 l h5 h6 h1 h7 h8 h9
      rw [h4] at this
      have e : Tryz.sumN a n l = Nat.xor (Tryz.crcM (fourM a ++ fourM n ++ twoM len ++ l.map (·.toNat)) 4294967295) 4294967295 := by
        unfold Tryz.sumN
        rw [h4, Tryz.crcM_eq, List.map_append, List.map_append, List.map_append, fourM_eq, fourM_eq, twoM_eq]; rfl
      rw [e] at this
      exact this
    · cases h
  · cases h
/-- A new row behind all. -/
noncomputable def newK (σ : St) (c : List Value) (k : Nat → St → R) : R := St.casesOn σ fun heap fams next hint => forceN next fun id => setN id (.cells true 0 id c) heap fun heap => forceN (Nat.succ id) fun nx => k id ⟨heap, fams, nx, hint⟩
theorem newK_eq (σ : St) (c : List Value) (k : Nat → St → R) : newK σ c k = k σ.next ((σ.set σ.next (.cells true 0 σ.next c)).bump 1) := by
  cases σ
  unfold newK
  simp only [forceN_eq, setN_eq]; rfl
noncomputable def Tryz.sealC : CallF := fun _ args σ => match args.toList with
  | [.int .u32 (.ofNat a), .int .u32 (.ofNat n), .slice (some ⟨B, o, none⟩) len k] => match Tryz.payload σ a n B o len with
    | some l => Tryz.crcK (fourM a ++ fourM n ++ twoM len ++ l) 4294967295 fun x => forceN (Nat.xor x 4294967295) fun v =>
        forceL ((twoM len ++ fourM n ++ fourM v ++ l).map fun n => .int .u8 (.ofNat n)) fun c => newK σ c fun id σ => forceN (Nat.add 10 len) fun m => some (.tuple #[.slice (some ⟨id, 0, none⟩) m 2, .int .i64 0], σ)
    | none => none
  | _ => none
theorem Tryz.sealC_ok : ∀ args σ v σ', Tryz.sealC 217 args σ = some (v, σ') → SimF Tryz.prog [3] 217 args σ v σ' := by
  intro args σ v σ' h
  unfold Tryz.sealC at h
  split at h
  · rename_i a n B o len k he
    have he : args = #[.int .u32 (.ofNat a), .int .u32 (.ofNat n), .slice (some ⟨B, o, none⟩) len k] := by rw [← Array.toArray_toList (xs := args), he]
    subst he
    split at h
    · rename_i m hl
      obtain ⟨l, rfl, h1, h2, h3, h4, h5, h6, c, h7, h8, h9⟩ := Tryz.payload_ok hl
      have e : Tryz.sumN a n l = Nat.xor (Tryz.crcM (fourM a ++ fourM n ++ twoM len ++ l.map (·.toNat)) 4294967295) 4294967295 := by
        unfold Tryz.sumN
        rw [h4, Tryz.crcM_eq, List.map_append, List.map_append, List.map_append, fourM_eq, fourM_eq, twoM_eq]; rfl
      rw [Tryz.crcK_eq, forceN_eq, forceL_eq, newK_eq, forceN_eq] at h
      cases h
      have := Tryz.seal_sim (k := k) a n h2 h3 l h5 h6 h1 h7 h8 h9
      have e3 : (Tryz.sealL a n l).map byteV = (twoM len ++ fourM n ++ fourM (Nat.xor (Tryz.crcM (fourM a ++ fourM n ++ twoM len ++ l.map (·.toNat)) 4294967295) 4294967295) ++ l.map (·.toNat)).map fun n => .int .u8 (.ofNat n) := by
        unfold Tryz.sealL
        rw [e, h4]
        generalize Nat.xor (Tryz.crcM (fourM a ++ fourM n ++ twoM len ++ l.map (·.toNat)) 4294967295) 4294967295 = x
        rw [← fourM_eq n, ← fourM_eq x, ← twoM_eq, ← List.map_append, ← List.map_append, ← List.map_append, List.map_map]; rfl
      rw [e3, h4] at this
      exact this
    · cases h
  · cases h
end Go.Proofs

namespace Go.Proofs
open Go Go.Ev
set_option maxRecDepth 100000
set_option linter.unusedSimpArgs false
set_option linter.unusedVariables false
noncomputable section
def bumpK (n : Nat) (σ : St) (k : St → R) : R := St.casesOn σ fun heap fams next hint => forceN (Nat.add next n) fun nx => k ⟨heap, fams, nx, hint⟩
theorem bumpK_eq (n : Nat) (σ : St) (k : St → R) : bumpK n σ k = k (σ.bump n) := by
  cases σ with
  | mk heap fams next hint => exact (forceN_eq (Nat.add next n) fun nx => k ⟨heap, fams, nx, hint⟩)
def nextK (σ : St) (k : Nat → R) : R := forceN σ.next k
/-- 'pushB', laid bare. -/
def pushBK (σ : St) (W : Nat) (b : Value) (k : St → R) : R := match blk W σ with
  | some (.cells true v F [.slice bs len kk]) => forceN (Nat.add σ.next 12) fun bl => forceN (Nat.add σ.next 13) fun id => forceN (Nat.succ v) fun v1 => match bs, kk with
    | some ⟨A, 0, none⟩, 2 => cond (Nat.beq A W) none (match blk A σ with
      | some (.cells true v' F' c) => hintK A σ c fun Lc => cond (Nat.beq Lc len && Nat.blt len 400000000) (forceN (Nat.succ len) fun len1 =>
          bumpK 17 σ fun σ => setBlk bl (.cells true 0 bl [b]) σ fun σ => appL c [b] fun c' => appFin A id v' F' c c' len len1 σ fun σ => setBlk W (.cells true v1 F [.slice (some ⟨id, 0, none⟩) len1 2]) σ fun σ => bumpK 3 σ k) none
      | _ => none)
    | none, 0 => cond (Nat.beq len 0) (bumpK 17 σ fun σ => setBlk bl (.cells true 0 bl [b]) σ fun σ => setBlk id (.cells true 0 id [b]) σ fun σ => setBlk W (.cells true v1 F [.slice (some ⟨id, 0, none⟩) 1 2]) σ fun σ => bumpK 3 σ k) none
    | _, _ => none
  | _ => none
theorem pushBK_ok {σ : St} {W : Nat} {b : Value} {k : St → R} {r : Value × St} (h : pushBK σ W b k = some r) : k (pushB σ W b) = some r ∧ (σ.Wf → ∃ c, Wr σ W c ∧ c.length < 400000000) := by
  unfold pushBK at h
  split at h
  · rename_i v F bs len kk hW
    rw [blk_eq] at hW
    rw [forceN_eq, forceN_eq, forceN_eq] at h
    split at h
    · rename_i A
      cases hAW : Nat.beq A W with
      | true => rw [hAW] at h; cases h
      | false =>
        rw [hAW] at h
        simp only [cond_false] at h
        split at h
        · rename_i v' F' c hA
          rw [blk_eq] at hA
          rw [hintK_N] at h
          cases hb : (Nat.beq (hintN A σ c) len && Nat.blt len 400000000) with
          | false => rw [hb] at h; cases h
          | true =>
            rw [hb] at h
            simp only [Bool.and_eq_true] at hb
            have hl := Nat.eq_of_beq_eq_true hb.1
            simp only [cond_true, forceN_eq, bumpK_eq, setBlk_eq, appL_eq, appFin_eq] at h
            refine ⟨?_, fun hw => ⟨c, ⟨hw.lt _ _ hW, v, F, .inr ⟨A, v', F', ?_, hA, ?_, hw.lt _ _ hA⟩⟩, ?_⟩⟩
            · rw [pushB_own hW hA]; exact h
            · rw [← hl, hintN_eq hA hw] at hW; exact hW
            · intro e; subst e; simp at hAW
            · have := blt_lt hb.2
              rw [← hl, hintN_eq hA hw] at this; exact this
        · cases h
    · cases hl : Nat.beq len 0 with
      | false => rw [hl] at h; cases h
      | true =>
        rw [hl] at h
        have hl := Nat.eq_of_beq_eq_true hl
        subst hl
        simp only [cond_true, forceN_eq, bumpK_eq, setBlk_eq] at h
        refine ⟨?_, fun hw => ⟨[], ⟨hw.lt _ _ hW, v, F, .inl ⟨rfl, hW⟩⟩, by decide⟩⟩
        rw [pushB_nil hW]; exact h
    · cases h
  · cases h
/-- A byte of a number, laid bare. -/
def byteK (n : Int) (k : Nat) (q : Value → R) : R := match n with
  | .ofNat n => forceN (Nat.mod (Nat.div n (Nat.pow 2 (Nat.mul 8 k))) 256) fun m => q (.int .u8 (.ofNat m))
  | .negSucc _ => none
theorem byteK_ok {n : Int} {k : Nat} {q : Value → R} {r : Value × St} (h : byteK n k q = some r) : q (byteAt n k) = some r := by
  unfold byteK at h
  split at h
  · rename_i n
    rw [forceN_eq] at h
    have e : byteAt (.ofNat n) k = .int .u8 (.ofNat (Nat.mod (Nat.div n (Nat.pow 2 (Nat.mul 8 k))) 256)) := by
      unfold byteAt
      have e1 : (Int.ofNat n).fdiv (2 ^ (8 * k)) = ((n / 2 ^ (8 * k) : Nat) : Int) := fdiv_nat n (8 * k)
      rw [e1]
      have e2 : IntKind.u8.wrap ((n / 2 ^ (8 * k) : Nat) : Int) = (((n / 2 ^ (8 * k)) % 256 : Nat) : Int) := by
        simp only [IntKind.wrap, IntKind.bits, IntKind.signed]; simp
      rw [e2]; rfl
    rw [e]; exact h
  · cases h
def numK (n : Int) (W : Nat) (many : Nat) : St → (St → R) → R := Nat.rec (motive := fun _ => St → (St → R) → R) (fun σ k => k σ) (fun j ih σ k => byteK n j fun b => pushBK σ W b fun σ => ih σ k) many
theorem numK_ok {n : Int} {W : Nat} : ∀ {many : Nat} {σ : St} {k : St → R} {r : Value × St}, numK n W many σ k = some r → k (pushes σ W (numL n many)) = some r ∧ (many ≠ 0 → σ.Wf → ∃ c, Wr σ W c ∧ c.length < 400000000)
  | 0, σ, k, r, h => ⟨h, fun e => (e rfl).elim⟩
  | j + 1, σ, k, r, h => by
    have h2 : (byteK n j fun b => pushBK σ W b fun σ => numK n W j σ k) = some r := h
    obtain ⟨h3, h4⟩ := pushBK_ok (byteK_ok h2)
    obtain ⟨h5, _⟩ := numK_ok h3
    exact ⟨h5, fun _ => h4⟩
def Tryz.numC : CallF := fun _ args σ => match args.toList with
  | [.pointer (some ⟨W, 0, none⟩), .int .i64 n, .int .i64 (.ofNat many)] => cond (Nat.ble many 8 && Nat.blt 0 many) (bumpK 3 σ fun σ => numK n W many σ fun σ => bumpK 2 σ fun σ => some (.tuple #[], σ)) none
  | _ => none
theorem Wr.unbump {σ : St} {W n : Nat} {c : List Value} (hw : σ.Wf) (h : Wr (σ.bump n) W c) : Wr σ W c := by
  obtain ⟨_, v, F, h⟩ := h
  rcases h with ⟨h1, h2⟩ | ⟨A, v', F', h1, h2, h3, h4⟩
  · exact ⟨hw.lt _ _ h2, v, F, .inl ⟨h1, h2⟩⟩
  · exact ⟨hw.lt _ _ h1, v, F, .inr ⟨A, v', F', h1, h2, h3, hw.lt _ _ h2⟩⟩
theorem Tryz.numC_ok {gl : List Nat} : ∀ args σ v σ', Tryz.numC 100 args σ = some (v, σ') → SimF Tryz.prog gl 100 args σ v σ' := by
  intro args σ v σ' h
  unfold Tryz.numC at h
  split at h
  · rename_i W n many he
    have he : args = #[.pointer (some ⟨W, 0, none⟩), .int .i64 n, .int .i64 (.ofNat many)] := by rw [← Array.toArray_toList (xs := args), he]
    subst he
    cases hb : (Nat.ble many 8 && Nat.blt 0 many) with
    | false => rw [hb] at h; cases h
    | true =>
      rw [hb] at h
      simp only [Bool.and_eq_true] at hb
      simp only [cond_true, bumpK_eq] at h
      obtain ⟨h1, h2⟩ := numK_ok h
      cases h1
      refine SimF.of_wf fun hw => ?_
      have h0 := blt_lt hb.2
      obtain ⟨c, h3, h4⟩ := h2 (by omega) (hw.bump 3)
      obtain ⟨v, σ2, hs, rfl, rfl⟩ := Tryz.number_tf n many (by simpa using hb.1) σ (Wr.unbump hw h3) (by omega)
      exact hs.glob
  · cases h
/-! ## over -/
def pushZK (σ : St) (s : Value) (k : St → Value → R) : R := match s with
  | .slice (some ⟨A, 0, none⟩) len 2 => forceN (Nat.add σ.next 2) fun bl => forceN (Nat.add σ.next 3) fun id => match blk A σ with
    | some (.cells true v F c) => forceN (Nat.succ len) fun len1 => bumpK 5 σ fun σ => setBlk bl (.cells true 0 bl [.int .u8 0]) σ fun σ => appFin A id v F c (c ++ [.int .u8 0]) len len1 σ fun σ => bumpK 2 σ fun σ => k σ (.slice (some ⟨id, 0, none⟩) len1 2)
    | _ => none
  | .slice none 0 0 => forceN (Nat.add σ.next 2) fun bl => forceN (Nat.add σ.next 3) fun id => bumpK 5 σ fun σ => setBlk bl (.cells true 0 bl [.int .u8 0]) σ fun σ => setBlk id (.cells true 0 id [.int .u8 0]) σ fun σ => bumpK 2 σ fun σ => k σ (.slice (some ⟨id, 0, none⟩) 1 2)
  | _ => none
theorem pushZK_ok {σ : St} {s : Value} {k : St → Value → R} {r : Value × St} (h : pushZK σ s k = some r) : k (pushZ (σ, s)).1 (pushZ (σ, s)).2 = some r := by
  unfold pushZK at h
  split at h
  · rename_i A len
    rw [forceN_eq, forceN_eq] at h
    split at h
    · rename_i v F c hA
      rw [blk_eq] at hA
      simp only [forceN_eq, bumpK_eq, setBlk_eq, appFin_eq] at h
      rw [pushZ_own hA]; exact h
    · cases h
  · simp only [forceN_eq, bumpK_eq, setBlk_eq] at h
    rw [pushZ_nil]; exact h
  · cases h
def zsK (n : Nat) : St → Value → (St → Value → R) → R := Nat.rec (motive := fun _ => St → Value → (St → Value → R) → R) (fun σ s k => k σ s) (fun _ ih σ s k => pushZK σ s fun σ s => ih σ s k) n
theorem zsK_ok : ∀ {n : Nat} {σ : St} {s : Value} {k : St → Value → R} {r : Value × St}, zsK n σ s k = some r → k (pushZs n (σ, s)).1 (pushZs n (σ, s)).2 = some r
  | 0, σ, s, k, r, h => h
  | n + 1, σ, s, k, r, h => by
    have h2 : (pushZK σ s fun σ s => zsK n σ s k) = some r := h
    exact zsK_ok (n := n) (pushZK_ok h2)
def layAtK (σ : St) (s : Value) (at' : Nat) (cB : List Value) (k : St → R) : R := match s with
  | .slice (some ⟨A, _, _⟩) _ _ => match blk A σ with
    | some (.cells own v F c) => forceN (Nat.succ v) fun v1 => setBlk A (.cells true v1 F (lay c at' cB)) σ k
    | _ => none
  | _ => none
theorem layAtK_ok {σ : St} {s : Value} {at' : Nat} {cB : List Value} {k : St → R} {r : Value × St} (h : layAtK σ s at' cB k = some r) : k (layAt σ s at' cB) = some r := by
  unfold layAtK at h
  split at h
  · split at h
    · rename_i hA
      rw [blk_eq] at hA
      rw [forceN_eq, setBlk_eq] at h
      unfold layAt
      simp only [hA]; exact h
    · cases h
  · cases h
/-- Bytes that may be written, their number, and another block than B. -/
def owLen (σ : St) (s : Value) (B : Nat) : Option Nat := match s with
  | .slice none 0 0 => some 0
  | .slice (some ⟨A, 0, none⟩) len 2 => match blk A σ with
    | some (.cells true v F c) => cond (Nat.beq (hintN A σ c) len && !Nat.beq A B) (some len) none
    | _ => none
  | _ => none
theorem owLen_ok {σ : St} {s : Value} {B n : Nat} (hw : σ.Wf) (h : owLen σ s B = some n) : ∃ c, Ow σ s c ∧ c.length = n ∧ ∀ A l k, s = .slice (some ⟨A, 0, none⟩) l k → A ≠ B := by
  unfold owLen at h
  split at h
  · cases h; exact ⟨[], .inl ⟨rfl, rfl⟩, rfl, fun A l k e => by cases e⟩
  · rename_i A len
    split at h
    · rename_i v F c hA
      rw [blk_eq] at hA
      cases hb : (Nat.beq (hintN A σ c) len && !Nat.beq A B) with
      | false => rw [hb] at h; cases h
      | true =>
        rw [hb] at h
        cases h
        simp only [Bool.and_eq_true] at hb
        have hl := Nat.eq_of_beq_eq_true hb.1
        rw [hintN_eq hA hw] at hl
        refine ⟨c, .inr ⟨A, v, F, by rw [hl], hA, hw.lt _ _ hA⟩, hl, fun A' l k e => ?_⟩
        cases e
        intro e; subst e; simp at hb
    · cases h
  · cases h
/-- The bytes to which a slice goes on. -/
def cells0 (σ : St) (s : Value) : List Value := match s with
  | .slice (some ⟨A, 0, none⟩) _ _ => match blk A σ with
    | some (.cells true v F c) => c
    | _ => []
  | _ => []
theorem cells0_ok {σ : St} {s : Value} {c : List Value} (h : Ow σ s c) : cells0 σ s = c := by
  rcases h with ⟨rfl, rfl⟩ | ⟨A, v, F, rfl, hA, _⟩
  · rfl
  · unfold cells0; rw [← blk_eq] at hA; simp only [hA]
theorem pushZs_ow {σ : St} {s : Value} {c : List Value} (h : Ow σ s c) : ∀ n, Ow (pushZs n (σ, s)).1 (pushZs n (σ, s)).2 (c ++ List.replicate n (.int .u8 0))
  | 0 => by simpa [pushZs] using h
  | n + 1 => by
    rw [pushZs_succ, List.replicate_succ', ← List.append_assoc]
    exact pushZ_ow (pushZs_ow h n)
def layQK (σ : St) (s : Value) (q : List Value) (k : St → R) : R := match s with
  | .slice (some ⟨A, _, _⟩) _ _ => match blk A σ with
    | some (.cells own v F c) => forceN (Nat.succ v) fun v1 => setBlk A (.cells true v1 F q) σ k
    | _ => none
  | _ => none
theorem layQK_ok {σ : St} {s : Value} {at' : Nat} {cB q c : List Value} {k : St → R} {r : Value × St} (h : layQK σ s q k = some r) (hO : Ow σ s c) (hq : q = lay c at' cB) : k (layAt σ s at' cB) = some r := by
  unfold layQK at h
  split at h
  · split at h
    · rename_i hA
      rw [blk_eq] at hA
      rw [forceN_eq, setBlk_eq] at h
      unfold layAt
      simp only [hA]
      rcases hO with ⟨_, e⟩ | ⟨A2, v2, F2, e, hA2, _⟩
      · cases e
      · cases e
        rw [hA] at hA2; cases hA2
        rw [hq] at h; exact h
    · cases h
  · cases h
def Tryz.overC : CallF := fun _ args σ => match args.toList with
  | [s, .int .i64 (.ofNat at'), .slice (some ⟨B, o, none⟩) n k] => match blk B σ with
    | some (.cells true vB FB lb) => match sub? lb o n with
      | some cB => match owLen σ s B with
        | some len => cond (Nat.blt 0 n && Nat.blt (Nat.add len n) 100000000 && Nat.beq at' len && Nat.beq cB.length n && cB.all (·.oneCell'))
            (bumpK 13 σ fun σ => zsK n σ s fun τ s' => bumpK 6 τ fun τ => appL (cells0 σ s) cB fun q => layQK τ s' q fun τ => bumpK 2 τ fun τ => some (s', τ)) none
        | none => none
      | none => none
    | _ => none
  | _ => none
theorem lay_app {c cB z : List Value} (h : z.length = cB.length) : lay (c ++ z) c.length cB = c ++ cB := by
  have e1 : (c ++ z).take c.length = c := by simp
  have e2 : (c ++ z).drop (c.length + cB.length) = [] := by simp [h]
  unfold lay
  rw [e1, e2, List.append_nil]
theorem Tryz.overC_ok {gl : List Nat} : ∀ args σ v σ', Tryz.overC 171 args σ = some (v, σ') → SimF Tryz.prog gl 171 args σ v σ' := by
  intro args σ v σ' h
  unfold Tryz.overC at h
  split at h
  · rename_i s at' B o n k he
    have he : args = #[s, .int .i64 (.ofNat at'), .slice (some ⟨B, o, none⟩) n k] := by rw [← Array.toArray_toList (xs := args), he]
    subst he
    split at h
    · rename_i vB FB lb hB
      rw [blk_eq] at hB
      split at h
      · rename_i cB hsub
        split at h
        · rename_i len hlen
          cases hb : (Nat.blt 0 n && Nat.blt (Nat.add len n) 100000000 && Nat.beq at' len && Nat.beq cB.length n && cB.all (·.oneCell')) with
          | false => rw [hb] at h; cases h
          | true =>
            rw [hb] at h
            simp only [Bool.and_eq_true] at hb
            obtain ⟨⟨⟨⟨b1, b2⟩, b3⟩, b4⟩, b5⟩ := hb
            have b1 := blt_lt b1
            have b2 : len + n < 100000000 := blt_lt b2
            have b3 := Nat.eq_of_beq_eq_true b3
            have b4 := Nat.eq_of_beq_eq_true b4
            simp only [cond_true, bumpK_eq] at h
            have h1 := zsK_ok h
            simp only [appL_eq] at h1
            refine SimF.of_wf fun hw => ?_
            obtain ⟨c, hO, rfl, hne⟩ := owLen_ok hw hlen
            subst b3
            have hO13 : Ow (σ.bump 13) s c := by
              rcases hO with q | ⟨A, v, F, q1, q2, q3⟩
              · exact .inl q
              · exact .inr ⟨A, v, F, q1, q2, Nat.lt_of_lt_of_le q3 (Nat.le_add_right _ _)⟩
            have hP := pushZs_ow hO13 n
            have hP6 : Ow ((pushZs n (σ.bump 13, s)).1.bump 6) (pushZs n (σ.bump 13, s)).2 (c ++ List.replicate n (.int .u8 0)) := by
              rcases hP with q | ⟨A, v, F, q1, q2, q3⟩
              · exact .inl q
              · exact .inr ⟨A, v, F, q1, q2, Nat.lt_of_lt_of_le q3 (Nat.le_add_right _ _)⟩
            have h2 := layQK_ok (at' := c.length) (cB := cB) h1 hP6 (by rw [cells0_ok hO13, lay_app (by simp [b4])])
            cases h2
            have e : c.length + n - c.length = n := by omega
            obtain ⟨v, σ2, hs, rfl, rfl⟩ := Tryz.over_tf (gl := gl) (k := k) (Nat.le_refl _) (by omega) b2 σ hO hB (hw.lt _ _ hB) hsub hne b4 b5
            rw [e] at hs
            exact hs
        · cases h
      · cases h
    · cases h
  · cases h
/-! ## waiting -/
def parse3S (ih : List Value → Option (List Ent)) (l : List Value) : Option (List Ent) := match l with
  | .int .u8 (.ofNat w) :: .int .i64 t :: .int .i64 m :: r => match ih r with
    | some es => some (⟨w, t, m⟩ :: es)
    | none => none
  | _ => none
def parse3 (n : Nat) : List Value → Option (List Ent) := Nat.rec (motive := fun _ => List Value → Option (List Ent)) (fun _ => some []) (fun _ ih l => parse3S ih l) n
theorem parse3_ok : ∀ {n : Nat} {c : List Value} {es : List Ent}, parse3 n c = some es → es.length = n ∧ ∀ i (h : i < es.length), sub? c (i * 3) 3 = some es[i].cells
  | 0, c, es, h => by cases h; exact ⟨rfl, fun i h => by simp at h⟩
  | n + 1, c, es, h => by
    have h2 : parse3S (parse3 n) c = some es := h
    clear h
    unfold parse3S at h2
    split at h2
    · rename_i w t m r
      split at h2
      · rename_i es' hes
        cases h2
        obtain ⟨k1, k2⟩ := parse3_ok (n := n) hes
        refine ⟨by simp [k1], fun i hi => ?_⟩
        cases i with
        | zero => simp [sub?, Ent.cells]
        | succ i =>
          have := k2 i (by simpa using hi)
          simp only [List.getElem_cons_succ]
          rw [← this]
          unfold sub?
          have e : (i + 1) * 3 = i * 3 + 1 + 1 + 1 := by omega
          rw [e]
          simp only [List.drop_succ_cons, List.length_cons]
          by_cases hc : i * 3 + 3 ≤ r.length
          · rw [if_pos (by omega), if_pos hc]
          · rw [if_neg (by omega), if_neg hc]
      · cases h2
    · cases h2
def entsK (σ : St) (s : Value) : Option (List Ent) := match s with
  | .slice none 0 0 => some []
  | .slice (some ⟨A, 0, none⟩) len k => match cellsK A σ with
    | some c => parse3 len c
    | none => none
  | _ => none
theorem entsK_ok {σ : St} {s : Value} {es : List Ent} (h : entsK σ s = some es) : EntR σ s es := by
  unfold entsK at h
  split at h
  · cases h; exact .inl ⟨rfl, rfl⟩
  · rename_i A len k
    split at h
    · rename_i c hc
      obtain ⟨h1, h2⟩ := parse3_ok h
      exact .inr ⟨A, k, c, by rw [h1], cellsK_ok hc, h2⟩
    · cases h
  · cases h
theorem sub_drop {c : List Value} {o : Nat} {v : Value} {r : List Value} (h : c.drop o = v :: r) : sub? c o 1 = some [v] := by
  have hl : o < c.length := by
    have := congrArg List.length h
    simp at this; omega
  unfold sub?
  rw [if_pos (by omega), h]; rfl
def mailK (σ : St) (M : Nat) : Option Msg := match cellsK M σ with
  | some c => match c.drop 6 with
    | .bool true :: _ => match c.drop 9 with
      | s :: _ => match entsK σ s with
        | some es => cond (Nat.blt es.length 1000000000) (some ⟨M, true, es⟩) none
        | none => none
      | [] => none
    | .bool false :: _ => some ⟨M, false, []⟩
    | _ => none
  | none => none
theorem mailK_ok {σ : St} {M : Nat} {m : Msg} (h : mailK σ M = some m) : m.M = M ∧ MailR σ M m.ex m.es := by
  unfold mailK at h
  split at h
  · rename_i c hc
    split at h
    · rename_i h6
      split at h
      · rename_i s r h9
        split at h
        · rename_i es hes
          cases hb : Nat.blt es.length 1000000000 with
          | false => rw [hb] at h; cases h
          | true =>
            rw [hb] at h
            cases h
            exact ⟨rfl, ⟨⟨c, cellsK_ok hc, sub_drop h6, fun _ => ⟨s, sub_drop h9, entsK_ok hes⟩⟩, blt_lt hb⟩⟩
        · cases h
      · cases h
    · rename_i h6
      cases h
      exact ⟨rfl, ⟨⟨c, cellsK_ok hc, sub_drop h6, fun e => by cases e⟩, (by decide : 0 < 1000000000)⟩⟩
    · cases h
  · cases h
def msgsS (σ : St) (ih : List Value → Option (List Msg)) (l : List Value) : Option (List Msg) := match l with
  | .pointer (some ⟨M, 0, none⟩) :: r => match mailK σ M with
    | some m => match ih r with
      | some ms => some (m :: ms)
      | none => none
    | none => none
  | _ => none
def msgsK (σ : St) (n : Nat) : List Value → Option (List Msg) := Nat.rec (motive := fun _ => List Value → Option (List Msg)) (fun _ => some []) (fun _ ih l => msgsS σ ih l) n
theorem msgsK_ok {σ : St} : ∀ {n : Nat} {c : List Value} {ms : List Msg}, msgsK σ n c = some ms → ms.length = n ∧ ∀ i (h : i < ms.length), sub? c i 1 = some [.pointer (some ⟨ms[i].M, 0, none⟩)] ∧ MailR σ ms[i].M ms[i].ex ms[i].es
  | 0, c, es, h => by cases h; exact ⟨rfl, fun i h => by simp at h⟩
  | n + 1, c, es, h => by
    have h2 : msgsS σ (msgsK σ n) c = some es := h
    clear h
    unfold msgsS at h2
    split at h2
    · rename_i M r
      split at h2
      · rename_i m hm
        split at h2
        · rename_i ms hms
          cases h2
          obtain ⟨k1, k2⟩ := msgsK_ok (n := n) hms
          obtain ⟨m1, m2⟩ := mailK_ok hm
          refine ⟨by simp [k1], fun i hi => ?_⟩
          cases i with
          | zero =>
            simp only [List.getElem_cons_zero]
            rw [m1]
            exact ⟨by simp [sub?], m2⟩
          | succ i =>
            have := k2 i (by simpa using hi)
            simp only [List.getElem_cons_succ]
            refine ⟨?_, this.2⟩
            rw [← this.1]
            unfold sub?
            simp only [List.drop_succ_cons, List.length_cons]
            by_cases hc : i + 1 ≤ r.length
            · rw [if_pos (by omega), if_pos hc]
            · rw [if_neg (by omega), if_neg hc]
        · cases h2
      · cases h2
    · cases h2
def Tryz.waitC : CallF := fun _ args σ => match args.toList with
  | [.pointer (some ⟨S, 0, none⟩)] => match cellsK S σ with
    | some cs => match cs.drop 1 with
      | .slice none 0 0 :: _ => some (.int .i64 0, σ)
      | .slice (some ⟨A, 0, none⟩) len k :: _ => match cellsK A σ with
        | some c => match msgsK σ len c with
          | some ms => cond (Nat.blt ms.length 1000000000) (forceN (waitN ms) fun n => some (.int .i64 (.ofNat n), σ)) none
          | none => none
        | none => none
      | _ => none
    | none => none
  | _ => none
theorem Tryz.waitC_ok {gl : List Nat} : ∀ args σ v σ', Tryz.waitC 213 args σ = some (v, σ') → SimF Tryz.prog gl 213 args σ v σ' := by
  intro args σ v σ' h
  have go : ∀ {S : Nat} {cs : List Value} {s : Value} {ms : List Msg}, cellsK S σ = some cs → sub? cs 1 1 = some [s] → PtrsR σ s ms → ms.length < 1000000000 → SimF Tryz.prog gl 213 #[.pointer (some ⟨S, 0, none⟩)] σ (.int .i64 (waitN ms : Nat)) σ := by
    intro S cs s ms h1 h2 h3 h4
    obtain ⟨v, σ2, hs, m, rfl, rfl⟩ := Tryz.waiting_tf (gl := gl) σ S ms (cellsK_ok h1) h2 h3 h4
    exact hs.unbump
  unfold Tryz.waitC at h
  split at h
  · rename_i S he
    have he : args = #[.pointer (some ⟨S, 0, none⟩)] := by rw [← Array.toArray_toList (xs := args), he]
    subst he
    split at h
    · rename_i cs hcs
      split at h
      · rename_i h1
        cases h
        exact go (ms := []) hcs (sub_drop h1) (.inl ⟨rfl, rfl⟩) (by decide)
      · rename_i A len k r h1
        split at h
        · rename_i c hc
          split at h
          · rename_i ms hms
            cases hb : Nat.blt ms.length 1000000000 with
            | false => rw [hb] at h; cases h
            | true =>
              rw [hb] at h
              simp only [cond_true, forceN_eq] at h
              cases h
              obtain ⟨k1, k2⟩ := msgsK_ok hms
              exact go (ms := ms) hcs (sub_drop h1) (.inr ⟨A, k, c, by rw [k1], cellsK_ok hc, k2⟩) (blt_lt hb)
          · cases h
        · cases h
      · cases h
    · cases h
  · cases h
end
end Go.Proofs

namespace Go.Proofs
open Go.Shelf Go.RowKit

def Tryz.laysRepeat_ren : Go.Shelf.Ren := ⟨fun | 105 => 37 | 212 => 154 | 99 => 155 | 165 => 156 | 166 => 157 | 170 => 158 | 169 => 159 | 263 => 204 | 264 => 205 | 206 => 206 | 240 => 207 | 241 => 208 | 276 => 241 | 277 => 242 | n => n, fun | 9 => 9 | 3 => 3 | 4 => 4 | 20 => 20 | 0 => 0 | 46 => 196 | 109 => 197 | 5 => 5 | 72 => 202 | 76 => 205 | 51 => 22 | 146 => 245 | 53 => 110 | 148 => 247 | 70 => 200 | 37 => 32 | 75 => 204 | 127 => 249 | 164 => 277 | 80 => 182 | n => n, fun | n => n⟩
theorem Tryz.laysRepeat : Go.Proofs.Lays.n105 Tryz.prog Tryz.laysRepeat_ren := {
  mixed := by kernel_rfl
  f99 := Tryz.func155.trans (congrArg some (by kernel_rfl))
  f105 := Tryz.func37.trans (congrArg some (by kernel_rfl))
  f165 := Tryz.func156.trans (congrArg some (by kernel_rfl))
  f166 := Tryz.func157.trans (congrArg some (by kernel_rfl))
  f169 := Tryz.func159.trans (congrArg some (by kernel_rfl))
  f170 := Tryz.func158.trans (congrArg some (by kernel_rfl))
  f206 := Tryz.func206.trans (congrArg some (by kernel_rfl))
  f212 := Tryz.func154.trans (congrArg some (by kernel_rfl))
  f240 := Tryz.func207.trans (congrArg some (by kernel_rfl))
  f241 := Tryz.func208.trans (congrArg some (by kernel_rfl))
  f263 := Tryz.func204.trans (congrArg some (by kernel_rfl))
  f264 := Tryz.func205.trans (congrArg some (by kernel_rfl))
  f276 := Tryz.func241.trans (congrArg some (by kernel_rfl))
  f277 := Tryz.func242.trans (congrArg some (by kernel_rfl))
  t0 := Tryz.underlying0
  a0 := Tryz.isAgg0
  z0 := Tryz.sizeOf0
  v0 := Tryz.zeroValue0
  t3 := Tryz.underlying3
  a3 := Tryz.isAgg3
  z3 := Tryz.sizeOf3
  v3 := Tryz.zeroValue3
  t4 := Tryz.underlying4
  a4 := Tryz.isAgg4
  z4 := Tryz.sizeOf4
  v4 := Tryz.zeroValue4
  t5 := Tryz.underlying5
  a5 := Tryz.isAgg5
  z5 := Tryz.sizeOf5
  v5 := Tryz.zeroValue5
  t9 := Tryz.underlying9
  a9 := Tryz.isAgg9
  z9 := Tryz.sizeOf9
  v9 := Tryz.zeroValue9
  t20 := Tryz.underlying20
  a20 := Tryz.isAgg20
  z20 := Tryz.sizeOf20
  v20 := Tryz.zeroValue20
  t37 := Tryz.underlying32
  a37 := Tryz.isAgg32
  z37 := Tryz.sizeOf32
  v37 := Tryz.zeroValue32
  t46 := Tryz.underlying196
  a46 := Tryz.isAgg196
  z46 := Tryz.sizeOf196
  v46 := Tryz.zeroValue196
  t51 := Tryz.underlying22
  a51 := Tryz.isAgg22
  z51 := Tryz.sizeOf22
  v51 := Tryz.zeroValue22
  t53 := Tryz.underlying110
  a53 := Tryz.isAgg110
  z53 := Tryz.sizeOf110
  v53 := Tryz.zeroValue110
  t70 := Tryz.underlying200
  a70 := Tryz.isAgg200
  z70 := Tryz.sizeOf200
  v70 := Tryz.zeroValue200
  t72 := Tryz.underlying202
  a72 := Tryz.isAgg202
  z72 := Tryz.sizeOf202
  v72 := Tryz.zeroValue202
  t75 := Tryz.underlying204
  a75 := Tryz.isAgg204
  z75 := Tryz.sizeOf204
  v75 := Tryz.zeroValue204
  t76 := Tryz.underlying205
  a76 := Tryz.isAgg205
  z76 := Tryz.sizeOf205
  v76 := Tryz.zeroValue205
  t109 := Tryz.underlying197
  a109 := Tryz.isAgg197
  z109 := Tryz.sizeOf197
  v109 := Tryz.zeroValue197
  t127 := Tryz.underlying249
  a127 := Tryz.isAgg249
  z127 := Tryz.sizeOf249
  v127 := Tryz.zeroValue249
  t146 := Tryz.underlying245
  a146 := Tryz.isAgg245
  z146 := Tryz.sizeOf245
  v146 := Tryz.zeroValue245
  t148 := Tryz.underlying247
  a148 := Tryz.isAgg247
  z148 := Tryz.sizeOf247
  v148 := Tryz.zeroValue247
  t164 := Tryz.underlying277
  a164 := Tryz.isAgg277
  z164 := Tryz.sizeOf277
  v164 := Tryz.zeroValue277 }

theorem Tryz.extraRepeat : Builder.Extra Tryz.prog Tryz.laysRepeat_ren := {
  sizeBuilder := by kernel_rfl
  liesBuilder := by kernel_rfl
  t5 := Tryz.laysRepeat.t5
  a5 := Tryz.laysRepeat.a5
  z5 := Tryz.laysRepeat.z5
  v5 := Tryz.laysRepeat.v5
  infoByte := by kernel_rfl
  cellsByte := by kernel_rfl
  sizeByte := by kernel_rfl
  neB5 := by decide }

theorem Tryz.repeat_sim (gl : List Nat) (s : ByteArray) (c : Nat) (hc2 : 2 ≤ c) (hc : c ≤ 9223372036854775807) (hlen : s.size * c ≤ 140737488355328) (h0 : 0 < s.size) (σ : Go.Ev.St) :
    Go.Ev.SimF Tryz.prog gl (Tryz.laysRepeat_ren.f 105) #[.string s, .int .i64 (c : Nat)] σ (.string ⟨(Lib.repeatL s.data.toList c).toArray⟩) σ :=
  Go.Ev.SimF.of_below (fun w => Any.strings_Repeat_main Tryz.laysRepeat Tryz.extraRepeat s c w hc2 hc hlen h0) rfl rfl σ
theorem Tryz.repeat_num : Tryz.laysRepeat_ren.f 105 = 37 := by kernel_rfl
end Go.Proofs

namespace Go.Proofs
open Go Go.Ev
set_option linter.unusedVariables false

noncomputable def Tryz.tab : FuncId → Option XFn := fun f => compFn Tryz.prog [] f
noncomputable def Tryz.ext0 : FuncId → Option CallF := fun f => cond (Nat.beq f 37) (some repC) none
noncomputable def Tryz.cal (ext : FuncId → Option CallF) : CallF := callOf (xF Tryz.prog Tryz.tab ext (fun kf => xdraw Tryz.prog (callOf kf)) 100000 60)
theorem Tryz.mixed : Tryz.prog.follows .mixedOrders = true := by kernel_rfl
theorem Tryz.ext0_ok : ∀ f c, Tryz.ext0 f = some c → ∀ args σ v σ', c f args σ = some (v, σ') → SimF Tryz.prog [] f args σ v σ' := by
  intro f c h
  unfold Tryz.ext0 at h
  cases hb : Nat.beq f 37 with
  | false => rw [hb] at h; cases h
  | true =>
    rw [hb] at h
    cases h
    have : f = 37 := by rw [Nat.beq_eq] at hb; exact hb
    subst this
    refine repC_ok fun s c h1 h2 h3 h4 σ => ?_
    have := Tryz.repeat_sim [] s c h1 h2 h3 h4 σ
    rwa [Tryz.repeat_num] at this
theorem Tryz.cal_ok {ext : FuncId → Option CallF} (h : ∀ f c, ext f = some c → ∀ args σ v σ', c f args σ = some (v, σ') → SimF Tryz.prog [] f args σ v σ') : (Tryz.cal ext).ok Tryz.prog [] :=
  callOf_ok (xF_ok Tryz.mixed (fun _ _ e => e) h (fun kf hk => xdraw_ok (callOf_ok hk) Tryz.mixed) 100000 60)
end Go.Proofs

namespace Go.Proofs
open Go Go.Ev
set_option linter.unusedVariables false

/-- A known call: the function, the arguments, the answer. -/
abbrev Tryz.Known := Nat × List Value × Value
def Tryz.Known.ok (e : Tryz.Known) : Prop := ∀ σ, SimF Tryz.prog [] e.1 e.2.1.toArray σ e.2.2 σ
def Tryz.pickM (f : Nat) : List Tryz.Known → List (List Value × Value)
  | [] => []
  | (g, r) :: l => cond (Nat.beq g f) (r :: Tryz.pickM f l) (Tryz.pickM f l)
theorem Tryz.pickM_mem (f : Nat) : ∀ (L : List Tryz.Known) (r : List Value × Value), r ∈ Tryz.pickM f L → (f, r) ∈ L
  | [], r, h => by cases h
  | (g, s) :: L, r, h => by
    simp only [Tryz.pickM] at h
    cases hb : Nat.beq g f with
    | true =>
      rw [hb] at h
      have : g = f := by rw [Nat.beq_eq] at hb; exact hb
      subst this
      cases h with
      | head => exact List.mem_cons_self
      | tail _ h => exact List.mem_cons_of_mem _ (Tryz.pickM_mem g L r h)
    | false =>
      rw [hb] at h
      exact List.mem_cons_of_mem _ (Tryz.pickM_mem f L r h)
noncomputable def Tryz.extM (L : List Tryz.Known) : FuncId → Option CallF := fun f => cond (Nat.beq f 37) (some repC) (match Tryz.pickM f L with
  | [] => none
  | t => some (memoC t))
theorem Tryz.extM_ok {L : List Tryz.Known} (h : ∀ e ∈ L, Tryz.Known.ok e) : ∀ f c, Tryz.extM L f = some c → ∀ args σ v σ', c f args σ = some (v, σ') → SimF Tryz.prog [] f args σ v σ' := by
  intro f c hc
  unfold Tryz.extM at hc
  cases hb : Nat.beq f 37 with
  | true =>
    refine Tryz.ext0_ok f c ?_
    unfold Tryz.ext0
    rw [hb] at hc ⊢
    exact hc
  | false =>
    rw [hb] at hc
    simp only [cond_false] at hc
    split at hc
    · cases hc
    · cases hc
      refine memoC_ok fun x hx σ => ?_
      exact h _ (Tryz.pickM_mem f L x hx) σ
/-- One more known call, by one run. -/
theorem Tryz.known {L : List Tryz.Known} (h : ∀ e ∈ L, Tryz.Known.ok e) {f : Nat} {args : List Value} {v : Value} (hr : (Tryz.cal (Tryz.extM L) f args.toArray { heap := .nil, fams := .nil, next := 1000 }).map (·.1) = some v) (ha : args.all flatV = true) (hv : flatV v = true) : Tryz.Known.ok (f, args, v) :=
  known_call (Tryz.cal_ok (Tryz.extM_ok h)) hr ha hv
theorem Tryz.all_nil : ∀ e ∈ ([] : List Tryz.Known), Tryz.Known.ok e := fun _ h => by cases h
theorem Tryz.all_cons {e : Tryz.Known} {L : List Tryz.Known} (h : Tryz.Known.ok e) (hL : ∀ e ∈ L, Tryz.Known.ok e) : ∀ x ∈ e :: L, Tryz.Known.ok x := fun x hx => by
  cases hx with
  | head => exact h
  | tail _ hx => exact hL x hx
end Go.Proofs

namespace Go.Proofs
open Go Go.Ev
set_option maxRecDepth 100000

def Tryz.sk2 : Tryz.Known := (184, [.float .f64 4602678819172646912, .slice none 0 0], .int .i64 (-1))
theorem Tryz.sk2_ok : Tryz.Known.ok Tryz.sk2 := Tryz.known (L := []) (Tryz.all_nil) (by kernel_rfl) (by kernel_rfl) (by kernel_rfl)
def Tryz.sk3 : Tryz.Known := (247, [.string ⟨#[120]⟩, .string ⟨#[91]⟩], .tuple #[.string ⟨#[120]⟩, .bool false])
theorem Tryz.sk3_ok : Tryz.Known.ok Tryz.sk3 := Tryz.known (L := []) (Tryz.all_nil) (by kernel_rfl) (by kernel_rfl) (by kernel_rfl)
def Tryz.sk4 : Tryz.Known := (292, [.string ⟨#[120]⟩, .string ⟨#[97, 98, 99, 100, 101, 102, 103, 104, 105, 106, 107, 108, 109, 110, 111, 112, 113, 114, 115, 116, 117, 118, 119, 120, 121, 122, 65, 66, 67, 68, 69, 70, 71, 72, 73, 74, 75, 76, 77, 78, 79, 80, 81, 82, 83, 84, 85, 86, 87, 88, 89, 90, 48, 49, 50, 51, 52, 53, 54, 55, 56, 57, 45]⟩], .string ⟨#[]⟩)
theorem Tryz.sk4_ok : Tryz.Known.ok Tryz.sk4 := Tryz.known (L := []) (Tryz.all_nil) (by kernel_rfl) (by kernel_rfl) (by kernel_rfl)
def Tryz.sk5 : Tryz.Known := (243, [.string ⟨#[120]⟩, .func (.func 251) #[] #[]], .bool true)
theorem Tryz.sk5_ok : Tryz.Known.ok Tryz.sk5 := Tryz.known (L := [Tryz.sk4]) (Tryz.all_cons Tryz.sk4_ok (Tryz.all_nil)) (by kernel_rfl) (by kernel_rfl) (by kernel_rfl)
def Tryz.sk6 : Tryz.Known := (243, [.string ⟨#[120]⟩, .func (.func 252) #[] #[]], .bool true)
theorem Tryz.sk6_ok : Tryz.Known.ok Tryz.sk6 := Tryz.known (L := []) (Tryz.all_nil) (by kernel_rfl) (by kernel_rfl) (by kernel_rfl)
def Tryz.sk7 : Tryz.Known := (161, [.string ⟨#[120]⟩], .bool true)
theorem Tryz.sk7_ok : Tryz.Known.ok Tryz.sk7 := Tryz.known (L := [Tryz.sk6, Tryz.sk5, Tryz.sk3]) (Tryz.all_cons Tryz.sk6_ok (Tryz.all_cons Tryz.sk5_ok (Tryz.all_cons Tryz.sk3_ok (Tryz.all_nil)))) (by kernel_rfl) (by kernel_rfl) (by kernel_rfl)
def Tryz.sk8 : Tryz.Known := (64, [.agg #[.string ⟨#[115]⟩, .string ⟨#[120]⟩]], .bool true)
theorem Tryz.sk8_ok : Tryz.Known.ok Tryz.sk8 := Tryz.known (L := [Tryz.sk7]) (Tryz.all_cons Tryz.sk7_ok (Tryz.all_nil)) (by kernel_rfl) (by kernel_rfl) (by kernel_rfl)
def Tryz.sk9 : Tryz.Known := (64, [.agg #[.string ⟨#[97]⟩, .string ⟨#[120]⟩]], .bool true)
theorem Tryz.sk9_ok : Tryz.Known.ok Tryz.sk9 := Tryz.known (L := [Tryz.sk7]) (Tryz.all_cons Tryz.sk7_ok (Tryz.all_nil)) (by kernel_rfl) (by kernel_rfl) (by kernel_rfl)
def Tryz.sk10 : Tryz.Known := (118, [.agg #[.int .u8 2, .int .u32 1, .int .i64 0, .string ⟨#[]⟩, .string ⟨#[]⟩, .slice none 0 0, .string ⟨#[]⟩, .slice none 0 0, .slice none 0 0, .slice none 0 0, .int .u8 0, .int .i64 0, .int .u32 0], .agg #[.int .u8 2, .int .u32 1, .int .i64 0, .string ⟨#[]⟩, .string ⟨#[]⟩, .slice none 0 0, .string ⟨#[]⟩, .slice none 0 0, .slice none 0 0, .slice none 0 0, .int .u8 0, .int .i64 0, .int .u32 0]], .bool true)
theorem Tryz.sk10_ok : Tryz.Known.ok Tryz.sk10 := Tryz.known (L := []) (Tryz.all_nil) (by kernel_rfl) (by kernel_rfl) (by kernel_rfl)
def Tryz.sk11 : Tryz.Known := (122, [.slice none 0 0, .int .i64 0, .int .i64 64, .func (.func 123) #[] #[]], .bool true)
theorem Tryz.sk11_ok : Tryz.Known.ok Tryz.sk11 := Tryz.known (L := []) (Tryz.all_nil) (by kernel_rfl) (by kernel_rfl) (by kernel_rfl)
def Tryz.sk12 : Tryz.Known := (124, [.slice none 0 0, .int .i64 0, .int .i64 64, .func (.func 125) #[] #[]], .bool true)
theorem Tryz.sk12_ok : Tryz.Known.ok Tryz.sk12 := Tryz.known (L := []) (Tryz.all_nil) (by kernel_rfl) (by kernel_rfl) (by kernel_rfl)
def Tryz.sk13 : Tryz.Known := (16, [.agg #[.int .u8 2, .int .u32 1, .int .i64 0, .string ⟨#[]⟩, .string ⟨#[]⟩, .slice none 0 0, .string ⟨#[]⟩, .slice none 0 0, .slice none 0 0, .slice none 0 0, .int .u8 0, .int .i64 0, .int .u32 0]], .bool true)
theorem Tryz.sk13_ok : Tryz.Known.ok Tryz.sk13 := Tryz.known (L := [Tryz.sk12, Tryz.sk11, Tryz.sk10]) (Tryz.all_cons Tryz.sk12_ok (Tryz.all_cons Tryz.sk11_ok (Tryz.all_cons Tryz.sk10_ok (Tryz.all_nil)))) (by kernel_rfl) (by kernel_rfl) (by kernel_rfl)
def Tryz.sk14 : Tryz.Known := (123, [.agg #[.string ⟨#[97]⟩, .string ⟨#[120]⟩, .string ⟨#[97]⟩, .string ⟨#[]⟩, .string ⟨#[]⟩, .string ⟨#[]⟩, .string ⟨#[]⟩, .string ⟨#[]⟩, .bool false]], .bool true)
theorem Tryz.sk14_ok : Tryz.Known.ok Tryz.sk14 := Tryz.known (L := [Tryz.sk9]) (Tryz.all_cons Tryz.sk9_ok (Tryz.all_nil)) (by kernel_rfl) (by kernel_rfl) (by kernel_rfl)
def Tryz.sk15 : Tryz.Known := (64, [.agg #[.string ⟨#[98]⟩, .string ⟨#[120]⟩]], .bool true)
theorem Tryz.sk15_ok : Tryz.Known.ok Tryz.sk15 := Tryz.known (L := [Tryz.sk7]) (Tryz.all_cons Tryz.sk7_ok (Tryz.all_nil)) (by kernel_rfl) (by kernel_rfl) (by kernel_rfl)
def Tryz.sk16 : Tryz.Known := (160, [.string ⟨#[110, 111]⟩], .bool true)
theorem Tryz.sk16_ok : Tryz.Known.ok Tryz.sk16 := Tryz.known (L := []) (Tryz.all_nil) (by kernel_rfl) (by kernel_rfl) (by kernel_rfl)
end Go.Proofs

namespace Go.Proofs
open Go Go.Ev
set_option maxRecDepth 100000
set_option linter.unusedVariables false
noncomputable def Tryz.tab3 : FuncId → Option XFn := fun f => compFn Tryz.prog [3] f
noncomputable def Tryz.extS (L : List Tryz.Known) : FuncId → Option CallF := fun f => cond (Nat.beq f 218) (some Tryz.sumC) (cond (Nat.beq f 217) (some Tryz.sealC) (cond (Nat.beq f 100) (some Tryz.numC) (cond (Nat.beq f 171) (some Tryz.overC) (cond (Nat.beq f 213) (some Tryz.waitC) (Tryz.extM L f)))))
theorem Tryz.ite_ext {f n : Nat} {c0 c : CallF} {o : Option CallF} {X : Prop} (h : cond (Nat.beq f n) (some c0) o = some c) (h1 : f = n → c0 = c → X) (h2 : o = some c → X) : X := by
  cases hb : Nat.beq f n with
  | true => rw [hb] at h; exact h1 (Nat.eq_of_beq_eq_true hb) (Option.some.inj h)
  | false => rw [hb] at h; exact h2 h
theorem Tryz.extS_ok {L : List Tryz.Known} (h : ∀ e ∈ L, Tryz.Known.ok e) : ∀ f c, Tryz.extS L f = some c → ∀ args σ v σ', c f args σ = some (v, σ') → SimF Tryz.prog [3] f args σ v σ' := by
  intro f c hc
  refine Tryz.ite_ext hc (fun e1 e2 => by subst e1; subst e2; exact Tryz.sumC_ok) fun hc => ?_
  refine Tryz.ite_ext hc (fun e1 e2 => by subst e1; subst e2; exact Tryz.sealC_ok) fun hc => ?_
  refine Tryz.ite_ext hc (fun e1 e2 => by subst e1; subst e2; exact Tryz.numC_ok) fun hc => ?_
  refine Tryz.ite_ext hc (fun e1 e2 => by subst e1; subst e2; exact Tryz.overC_ok) fun hc => ?_
  refine Tryz.ite_ext hc (fun e1 e2 => by subst e1; subst e2; exact Tryz.waitC_ok) fun hc => ?_
  exact fun args σ v σ' e => (Tryz.extM_ok h f c hc args σ v σ' e).glob
noncomputable def Tryz.kf0 (L : List Tryz.Known) : KF := xF Tryz.prog Tryz.tab3 (Tryz.extS L) (fun kf => xdraw Tryz.prog (callOf kf)) 100000 60
theorem Tryz.kf0_ok {L : List Tryz.Known} (h : ∀ e ∈ L, Tryz.Known.ok e) : (Tryz.kf0 L).ok Tryz.prog [3] := xF_ok Tryz.mixed (fun _ _ e => e) (Tryz.extS_ok h) (fun kf hk => xdraw_ok (callOf_ok hk) Tryz.mixed) 100000 60
/-- log.Recover, with its range over a function. -/
noncomputable def Tryz.recC (L : List Tryz.Known) : CallF := evalFnM Tryz.prog [3] (callOf (Tryz.kf0 L)) (fun N => evalDraw Tryz.prog (callOf (Tryz.kf0 L))) 1000
theorem Tryz.recC_ok {L : List Tryz.Known} (h : ∀ e ∈ L, Tryz.Known.ok e) : (Tryz.recC L).ok Tryz.prog [3] := evalFnM_ok (callOf_ok (Tryz.kf0_ok h)) (fun N => evalDraw_ok (callOf_ok (Tryz.kf0_ok h)) Tryz.mixed N) 1000
noncomputable def Tryz.extT (L : List Tryz.Known) (X : CallF) : FuncId → Option CallF := fun f => cond (Nat.beq f 162) (some (Tryz.recC L)) (cond (Nat.beq f 80) (some X) (Tryz.extS L f))
theorem Tryz.extT_ok {L : List Tryz.Known} {X : CallF} (h : ∀ e ∈ L, Tryz.Known.ok e) (hX : ∀ args σ v σ', X 80 args σ = some (v, σ') → SimF Tryz.prog [3] 80 args σ v σ') : ∀ f c, Tryz.extT L X f = some c → ∀ args σ v σ', c f args σ = some (v, σ') → SimF Tryz.prog [3] f args σ v σ' := by
  intro f c hc
  refine Tryz.ite_ext hc (fun e1 e2 => by subst e1; subst e2; exact fun args σ v σ' e => Tryz.recC_ok h 162 args σ v σ' e) fun hc => ?_
  refine Tryz.ite_ext hc (fun e1 e2 => by subst e1; subst e2; exact hX) fun hc => ?_
  exact Tryz.extS_ok h f c hc
noncomputable def Tryz.kf1 (L : List Tryz.Known) (X : CallF) : KF := xF Tryz.prog Tryz.tab3 (Tryz.extT L X) (fun kf => xdraw Tryz.prog (callOf kf)) 100000 60
theorem Tryz.kf1_ok {L : List Tryz.Known} {X : CallF} (h : ∀ e ∈ L, Tryz.Known.ok e) (hX : ∀ args σ v σ', X 80 args σ = some (v, σ') → SimF Tryz.prog [3] 80 args σ v σ') : (Tryz.kf1 L X).ok Tryz.prog [3] := xF_ok Tryz.mixed (fun _ _ e => e) (Tryz.extT_ok h hX) (fun kf hk => xdraw_ok (callOf_ok hk) Tryz.mixed) 100000 60
end Go.Proofs

namespace Go.Ev
open Go
set_option linter.unusedVariables false
set_option linter.unusedSimpArgs false
def eqFields (P : Program) (d : Nat) (xs ys : Array Value) : List Field → Option Bool
  | [] => some true
  | f :: r => if f.name ≠ "_" then (pureRun P (part f.type xs f.offset)).bind fun a => (pureRun P (part f.type ys f.offset)).bind fun b => (pureRun P (Op.equalIn d f.type a b)).bind fun e => if e then eqFields P d xs ys r else some false
    else eqFields P d xs ys r
theorem equalIn_struct {P : Program} {t : TypeId} {fields : Array Field} {d : Nat} {xs ys : Array Value} (hu : P.underlying t = some (.struct fields)) (hs : P.stoodInHeld t = false) :
    pureRun P (Op.equalIn (d + 1) t (.agg xs) (.agg ys)) = eqFields P d xs ys fields.toList := by
  rw [Op.equalIn, pureRun_bind, pureRun_underlying hu, Option.bind_some]
  simp only
  rw [pureRun_bind]
  have hp : pureRun P program = some P := rfl
  rw [hp, Option.bind_some]
  have e : ∀ {α : Type} (a b : Sem α), (if P.stoodInHeld t = true then a else b) = b := fun a b => by rw [hs]; rfl
  rw [e]
  rw [← Array.forIn_toList]
  generalize fields.toList = l
  induction l with
  | nil => rfl
  | cons f r ih =>
    rw [pureRun_bind] at ih
    rw [pureRun_bind, List.forIn_cons, pureRun_bind]
    unfold eqFields
    by_cases h : f.name ≠ "_"
    · rw [if_pos h, if_pos h, pureRun_bind]
      cases pureRun P (part f.type xs f.offset) with
      | none => rfl
      | some a =>
        simp only [Option.bind_some]
        rw [pureRun_bind]
        cases pureRun P (part f.type ys f.offset) with
        | none => rfl
        | some b =>
          simp only [Option.bind_some]
          rw [pureRun_bind]
          cases pureRun P (Op.equalIn d f.type a b) with
          | none => rfl
          | some e =>
            cases e with
            | true => simp only [Option.bind_some, Bool.not_true, Bool.false_eq_true, if_false, pureRun_pure, if_true]; exact ih
            | false => rfl
    · rw [if_neg h, if_neg h]
      simp only [pureRun_pure, Option.bind_some]; exact ih
section
variable {P : Program} {t : TypeId} {x y : Operand} {σ : St}
theorem guard_agg {op : BinOp} {a b : Array Value} (h : P.eqGuardType P.depth t = false) : pureRun P (eqGuard op t x y (.agg a) (.agg b)) = some () := by
  have hp : pureRun P program = some P := rfl
  cases op <;> first | rfl | (unfold eqGuard; simp [pureRun_bind, hp, h])
theorem sBin_neqA {xs ys : Array Value} {fields : Array Field} {e : Bool} (hf : flatV (.agg xs) = true) (hf2 : flatV (.agg ys) = true) (hu : P.underlying t = some (.struct fields)) (hs : P.stoodInHeld t = false) (hg : P.eqGuardType P.depth t = false) (he : eqFields P 9999 xs ys fields.toList = some e) :
    sBin P .neq t x y (.agg xs) (.agg ys) σ = some (.val (.bool (!e)) σ) := sBin_of hf hf2 (guard_agg hg) (by
  have h1 : binOp .neq t (.agg xs) (.agg ys) = (do pure (.bool (!(← Op.equal t (.agg xs) (.agg ys))))) := rfl
  have h2 : Op.equal t (.agg xs) (.agg ys) = Op.equalIn (9999 + 1) t (.agg xs) (.agg ys) := rfl
  rw [h1, pureRun_bind, h2, equalIn_struct hu hs, he]; rfl) rfl
theorem sBin_eqlA {xs ys : Array Value} {fields : Array Field} {e : Bool} (hf : flatV (.agg xs) = true) (hf2 : flatV (.agg ys) = true) (hu : P.underlying t = some (.struct fields)) (hs : P.stoodInHeld t = false) (hg : P.eqGuardType P.depth t = false) (he : eqFields P 9999 xs ys fields.toList = some e) :
    sBin P .eql t x y (.agg xs) (.agg ys) σ = some (.val (.bool e) σ) := sBin_of hf hf2 (guard_agg hg) (by
  have h1 : binOp .eql t (.agg xs) (.agg ys) = (do pure (.bool (← Op.equal t (.agg xs) (.agg ys)))) := rfl
  have h2 : Op.equal t (.agg xs) (.agg ys) = Op.equalIn (9999 + 1) t (.agg xs) (.agg ys) := rfl
  rw [h1, pureRun_bind, h2, equalIn_struct hu hs, he]; rfl) rfl
theorem part_one {cs : Array Value} {off : Nat} {v : Value} (ha : pureRun P (isAgg t) = some false) (h : cs[off]? = some v) : pureRun P (part t cs off) = some v := by
  unfold part
  rw [pureRun_bind, ha, Option.bind_some]
  simp only [Bool.false_eq_true, if_false, h]; rfl
theorem part_agg {cs : Array Value} {off n : Nat} (ha : pureRun P (isAgg t) = some true) (hs : pureRun P (sizeOf t) = some n) : pureRun P (part t cs off) = some (.agg (cs.extract off (off + n))) := by
  unfold part
  rw [pureRun_bind, ha, Option.bind_some]
  simp only [if_true, pureRun_bind, hs, Option.bind_some]; rfl
theorem equalIn_string {d : Nat} {a b : ByteArray} (h : P.underlying t = some .string) : pureRun P (Op.equalIn (d + 1) t (.string a) (.string b)) = some (a == b) := by
  rw [Op.equalIn, pureRun_bind, pureRun_underlying h]; rfl
theorem equalIn_int {d : Nat} {k k' : IntKind} {a b : Int} (h : P.underlying t = some (.int k')) : pureRun P (Op.equalIn (d + 1) t (.int k a) (.int k b)) = some (a == b) := by
  rw [Op.equalIn, pureRun_bind, pureRun_underlying h]
  simp
theorem equalIn_bool {d : Nat} {a b : Bool} (h : P.underlying t = some .bool) : pureRun P (Op.equalIn (d + 1) t (.bool a) (.bool b)) = some (a == b) := by
  rw [Op.equalIn, pureRun_bind, pureRun_underlying h]; rfl
end
/-- As 'TF.walk', for a closure that has captured variables. -/
theorem TF.walkC {P : Program} {gl : List Nat} {C : CallF} (hC : C.ok P gl) (hm : P.follows .mixedOrders = true) {f : FuncId} {fn : Func} {args : Array Value} {σ : St} {Q : Value → St → Prop} (hf : P.funcs[f]? = some fn)
    (hok : (match fn.body with | some c => okC P gl fn.ntmps c | none => false) = true) (hsz : args.size ≤ fn.ntmps)
    (h : ∀ c, fn.body = some c → zC P gl C fn.ntmps c (initEnv args.toList 0 .nil) σ (fun ex env' σ' => zX ex (zRes (resVals P env' σ' fn.results.toList) (fun l => Q (packed l) σ') .mk) (fun _ => False) (zRes (resVals P env' σ' fn.results.toList) (fun l => Q (packed l) σ') .mk) .mk) .mk) : TF P gl f args σ Q := by
  cases hb : fn.body with
  | none => rw [hb] at hok; cases hok
  | some c =>
    rw [hb] at hok
    simp only at hok
    refine TF.body hC hm hf hb hok hsz ?_
    have h := h c hb
    unfold zC at h
    have e : (fun ex env' σ' => zX ex (zRes (resVals P env' σ' fn.results.toList) (fun l => Q (packed l) σ') .mk) (fun _ => False) (zRes (resVals P env' σ' fn.results.toList) (fun l => Q (packed l) σ') .mk) .mk) =
        (fun (ex : Ex) (env' : Env) (σ' : St) => match ex with
      | .exit _ => False
      | _ => match resVals P env' σ' fn.results.toList with
        | some l => Q (packed l) σ'
        | none => False) := by
      funext ex env' σ'
      cases ex <;> simp only [zX] <;> (try (unfold zRes; cases resVals P env' σ' fn.results.toList <;> rfl))
    rw [e] at h
    exact h

end Go.Ev

namespace Go.Ev
open Go
set_option linter.unusedVariables false
set_option linter.unusedSimpArgs false

/-- A known call that answers with a plain value: its small blocks are numbered from 0 on. -/
structure RoE where
  f : Nat
  args : List Value
  l : List (List Value)
  v : Value
/-- A known call that answers with a new row and a plain value. -/
structure RnE where
  f : Nat
  args : List Value
  l : List (List Value)
  n : Nat
  k : Nat
  e : Value
  c : List Value
def numb : Nat → List (List Value) → List (Nat × List Value)
  | _, [] => []
  | i, c :: l => (i, c) :: numb (i + 1) l
theorem numb_fst : ∀ (i : Nat) (l : List (List Value)), (numb i l).map (·.1) = List.range' i l.length
  | _, [] => rfl
  | i, c :: l => by simp only [numb, List.map_cons, numb_fst (i + 1) l, List.length_cons, List.range'_succ]
theorem numb_mem : ∀ (i : Nat) (l : List (List Value)) (x : Nat × List Value), x ∈ numb i l → i ≤ x.1 ∧ x.1 < i + l.length ∧ l[x.1 - i]? = some x.2
  | _, [], x, h => by cases h
  | i, c :: l, x, h => by
    rcases List.mem_cons.1 h with rfl | h
    · simp
    · obtain ⟨h1, h2, h3⟩ := numb_mem (i + 1) l x h
      refine ⟨by omega, by simp; omega, ?_⟩
      rw [show x.1 - i = (x.1 - (i + 1)) + 1 by omega, List.getElem?_cons_succ]; exact h3
theorem numb_nodup (i : Nat) (l : List (List Value)) : ((numb i l).map (·.1)).Nodup := by
  rw [numb_fst]; exact List.nodup_range'
theorem numb_get : ∀ (i : Nat) (l : List (List Value)) (j : Nat) (c : List Value), l[j]? = some c → (i + j, c) ∈ numb i l
  | i, a :: l, 0, c, h => by simp at h; subst h; exact List.mem_cons_self
  | i, a :: l, j + 1, c, h => by
    have := numb_get (i + 1) l j c (by simpa using h)
    rw [show i + 1 + j = i + (j + 1) by omega] at this
    exact List.mem_cons_of_mem _ this

noncomputable def rhoL (m : List (Nat × Nat × Nat)) : Nat → Option (Nat × Nat) := List.rec (motive := fun _ => Nat → Option (Nat × Nat)) (fun _ => none) (fun x _ ih A => cond (Nat.beq x.1 A) (some x.2) (ih A)) m
theorem rhoL_mem : ∀ {m : List (Nat × Nat × Nat)} {A B d : Nat}, rhoL m A = some (B, d) → (A, B, d) ∈ m
  | [], A, B, d, h => by cases h
  | (a, b, e) :: m, A, B, d, h => by
    have h : cond (Nat.beq a A) (some (b, e)) (rhoL m A) = some (B, d) := h
    cases hb : Nat.beq a A with
    | true =>
      rw [hb] at h
      have : a = A := by rw [Nat.beq_eq] at hb; exact hb
      subst this; cases h; exact List.mem_cons_self
    | false => rw [hb] at h; exact List.mem_cons_of_mem _ (rhoL_mem h)
def colV (s r : Value) (m : List (Nat × Nat × Nat)) : List (Nat × Nat × Nat) := match s, r with
  | .slice (some ⟨A, _, _⟩) _ _, .slice (some ⟨B, o, _⟩) _ _ => (A, B, o) :: m
  | _, _ => m
noncomputable def colL (l : List Value) : List Value → List (Nat × Nat × Nat) → List (Nat × Nat × Nat) := List.rec (motive := fun _ => List Value → List (Nat × Nat × Nat) → List (Nat × Nat × Nat)) (fun _ m => m) (fun s _ ih r m => List.casesOn r m (fun r rs => ih rs (colV s r m))) l
noncomputable def colA (s r : Value) (m : List (Nat × Nat × Nat)) : List (Nat × Nat × Nat) := match s, r with
  | .agg a, .agg b => colL a.toList b.toList m
  | s, r => colV s r m
noncomputable def colLA (l : List Value) : List Value → List (Nat × Nat × Nat) → List (Nat × Nat × Nat) := List.rec (motive := fun _ => List Value → List (Nat × Nat × Nat) → List (Nat × Nat × Nat)) (fun _ m => m) (fun s _ ih r m => List.casesOn r m (fun r rs => ih rs (colA s r m))) l
noncomputable def chk0 (m : List (Nat × Nat × Nat)) (s r : Value) : Bool := match s, r with
  | .slice (some ⟨A, 0, none⟩) n k, .slice (some ⟨B, o, none⟩) n' k' => cond (Nat.beq n n') (cond (Nat.beq k k') (match rhoL m A with
    | some (b, d) => cond (Nat.beq b B) (Nat.beq d o) false
    | none => false) false) false
  | s, r => cond (veqM0 s r) (flat0 s) false
theorem chk0_ok {m : List (Nat × Nat × Nat)} {s r : Value} (h : chk0 m s r = true) : VRen (rhoL m) s r := by
  unfold chk0 at h
  split at h
  · rename_i A n k B o n' k'
    cases h1 : Nat.beq n n' with
    | false => rw [h1] at h; cases h
    | true =>
      rw [h1] at h
      simp only [cond_true] at h
      cases h2 : Nat.beq k k' with
      | false => rw [h2] at h; cases h
      | true =>
        rw [h2] at h
        simp only [cond_true] at h
        split at h
        · rename_i b d hr
          cases h3 : Nat.beq b B with
          | false => rw [h3] at h; cases h
          | true =>
            rw [h3] at h
            simp only [cond_true] at h
            rw [Nat.beq_eq] at h1 h2 h3 h
            have h1 : n = n' := h1
            have h2 : k = k' := h2
            have h3 : b = B := h3
            have h : d = o := h
            subst h1 h2 h3 h
            exact .slice A b d 0 n k hr
        · cases h
  · cases hv : veqM0 s r with
    | false => rw [hv] at h; cases h
    | true =>
      rw [hv] at h
      rw [← veqM0_eq hv]
      exact .flat0 h
noncomputable def chkL0 (m : List (Nat × Nat × Nat)) (l : List Value) : List Value → Bool := List.rec (motive := fun _ => List Value → Bool) (fun r => List.casesOn r true (fun _ _ => false)) (fun s _ ih r => List.casesOn r false (fun r rs => cond (chk0 m s r) (ih rs) false)) l
theorem chkL0_ok {m : List (Nat × Nat × Nat)} : ∀ {l r : List Value}, chkL0 m l r = true → l.length = r.length ∧ ∀ i (h : i < l.length) (h' : i < r.length), VRen (rhoL m) l[i] r[i]
  | [], [], _ => ⟨rfl, fun i h => by simp at h⟩
  | [], _ :: _, h => by cases h
  | _ :: _, [], h => by cases h
  | s :: l, r :: rs, h => by
    have h : cond (chk0 m s r) (chkL0 m l rs) false = true := h
    cases hc : chk0 m s r with
    | false => rw [hc] at h; cases h
    | true =>
      rw [hc] at h
      obtain ⟨h1, h2⟩ := chkL0_ok (l := l) (r := rs) h
      refine ⟨by simp [h1], fun i h h' => ?_⟩
      cases i with
      | zero => exact chk0_ok hc
      | succ i => simpa using h2 i (by simpa using h) (by simpa using h')
noncomputable def chkA (m : List (Nat × Nat × Nat)) (s r : Value) : Bool := match s, r with
  | .agg a, .agg b => chkL0 m a.toList b.toList
  | s, r => chk0 m s r
theorem chkA_ok {m : List (Nat × Nat × Nat)} {s r : Value} (h : chkA m s r = true) : VRen (rhoL m) s r := by
  unfold chkA at h
  split at h
  · obtain ⟨h1, h2⟩ := chkL0_ok h
    exact .agg _ _ (by simpa using h1) fun i q q' => by
      have := h2 i (by simpa using q) (by simpa using q')
      rwa [Array.getElem_toList, Array.getElem_toList] at this
  · exact chk0_ok h
noncomputable def chkLA (m : List (Nat × Nat × Nat)) (l : List Value) : List Value → Bool := List.rec (motive := fun _ => List Value → Bool) (fun r => List.casesOn r true (fun _ _ => false)) (fun s _ ih r => List.casesOn r false (fun r rs => cond (chkA m s r) (ih rs) false)) l
theorem chkLA_ok {m : List (Nat × Nat × Nat)} : ∀ {l r : List Value}, chkLA m l r = true → ARen (rhoL m) l.toArray r.toArray
  | [], [], _ => ⟨rfl, fun i h => by simp at h⟩
  | [], _ :: _, h => by cases h
  | _ :: _, [], h => by cases h
  | s :: l, r :: rs, h => by
    have h : cond (chkA m s r) (chkLA m l rs) false = true := h
    cases hc : chkA m s r with
    | false => rw [hc] at h; cases h
    | true =>
      rw [hc] at h
      obtain ⟨h1, h2⟩ := chkLA_ok (l := l) (r := rs) h
      simp at h1
      refine ⟨by simp [h1], fun i h h' => ?_⟩
      cases i with
      | zero => exact chkA_ok hc
      | succ i =>
        have := h2 i (by simpa using h) (by simpa using h')
        simp only [List.getElem_toArray] at this
        simpa only [List.getElem_toArray, List.getElem_cons_succ] using this
noncomputable def nthL (l : List (List Value)) : Nat → Option (List Value) := List.rec (motive := fun _ => Nat → Option (List Value)) (fun _ => none) (fun c _ ih n => Nat.casesOn n (some c) ih) l
theorem nthL_eq : ∀ (l : List (List Value)) (n : Nat), nthL l n = l[n]?
  | [], n => rfl
  | c :: l, 0 => rfl
  | c :: l, n + 1 => nthL_eq l n
noncomputable def cellsQ (A : Nat) (σ : St) : Option (List Value) := match blk A σ with
  | some (.cells own v F c) => cond (own || σ.rd own v F) (some c) none
  | _ => none
theorem cellsQ_ok {A : Nat} {σ : St} {c : List Value} (h : cellsQ A σ = some c) : σ.cells? A = some c := by
  unfold cellsQ at h
  split at h
  · rename_i own v F c' hb
    cases hr : (own || σ.rd own v F) with
    | false => rw [hr] at h; cases h
    | true => rw [hr] at h; cases h; exact cells_of hb hr
  · cases h
noncomputable def chkB1 (σ : St) (l : List (List Value)) (A B d : Nat) : Bool := match nthL l A, cellsQ B σ with
  | some c, some c' => match subR c' d c.length with
    | some c2 => cond (veqsM0 c c2) (c.all flatV) false
    | none => false
  | _, _ => false
noncomputable def chkB (σ : St) (l : List (List Value)) (m : List (Nat × Nat × Nat)) : Bool := List.rec (motive := fun _ => Bool) true (fun x _ ih => cond (chkB1 σ l x.1 x.2.1 x.2.2) ih false) m
theorem chkB_ok {σ : St} {l : List (List Value)} : ∀ {m : List (Nat × Nat × Nat)}, chkB σ l m = true → ∀ A B d, (A, B, d) ∈ m → ∃ c c', (A, c) ∈ numb 0 l ∧ σ.cells? B = some c' ∧ ∀ ρ, CRen ρ d c c'
  | [], _, A, B, d, h => by cases h
  | x :: m, h, A, B, d, hm => by
    have h : cond (chkB1 σ l x.1 x.2.1 x.2.2) (chkB σ l m) false = true := h
    cases hc : chkB1 σ l x.1 x.2.1 x.2.2 with
    | false => rw [hc] at h; cases h
    | true =>
      rw [hc] at h
      rcases List.mem_cons.1 hm with rfl | hm
      · unfold chkB1 at hc
        split at hc
        · rename_i c c' h1 h2
          split at hc
          · rename_i c2 h3
            cases hv : veqsM0 c c2 with
            | false => rw [hv] at hc; cases hc
            | true =>
              rw [hv] at hc
              have e := veqsM0_eq hv
              subst e
              rw [nthL_eq] at h1
              have := numb_get 0 l A c h1
              rw [Nat.zero_add] at this
              rw [subR_eq] at h3
              unfold sub? at h3
              split at h3
              · rename_i hle
                exact ⟨c, c', this, cellsQ_ok h2, fun ρ => CRen.flat hle (Option.some.inj h3) (by simpa using hc)⟩
              · cases h3
          · cases hc
        · cases hc
      · exact chkB_ok (m := m) h A B d hm

theorem cond3 {a b : Bool} (h : cond a b false = true) : a = true ∧ b = true := by
  cases a with
  | false => cases h
  | true => exact ⟨rfl, h⟩
/-- A number by which known calls are told apart quickly. -/
def keyOf (l : List Value) : Nat := match l with
  | [.agg ⟨_ :: .int _ (.ofNat n) :: _⟩] => n
  | _ => 0
/-- What holds of a known call. -/
def RoE.ok (P : Program) (e : RoE) : Prop := e.l.length < 1000 ∧ e.l ≠ [] ∧ flatV e.v = true ∧ ∃ σs', SimF P [] e.f e.args.toArray (roSt 1000 0 (numb 0 e.l)) e.v σs'
def RnE.ok (P : Program) (e : RnE) : Prop := e.l.length < 1000 ∧ e.l ≠ [] ∧ flat0 e.e = true ∧ (∀ v ∈ e.c, flatV v = true) ∧ ∃ x v1 F1 σs', 1000 ≤ x ∧ σs'.get x = some (.cells true v1 F1 e.c) ∧ SimF P [] e.f e.args.toArray (roSt 1000 0 (numb 0 e.l)) (.tuple #[.slice (some ⟨x, 0, none⟩) e.n e.k, e.e]) σs'
noncomputable def roGet (L : List RoE) (args : List Value) (σ : St) : Option (Value × St) := List.rec (motive := fun _ => Option (Value × St)) none (fun e _ ih => cond (cond (Nat.beq (keyOf e.args) (keyOf args)) (cond (chkLA (colLA e.args args []) e.args args) (chkB σ e.l (colLA e.args args [])) false) false) (some (e.v, σ)) ih) L
noncomputable def rnGet (L : List RnE) (args : List Value) (σ : St) : Option (Value × St) := List.rec (motive := fun _ => Option (Value × St)) none (fun e _ ih => cond (cond (Nat.beq (keyOf e.args) (keyOf args)) (cond (chkLA (colLA e.args args []) e.args args) (chkB σ e.l (colLA e.args args [])) false) false) (some (.tuple #[.slice (some ⟨σ.next, 0, none⟩) e.n e.k, e.e], (σ.set σ.next (.cells true 0 σ.next e.c)).bump 1)) ih) L
theorem numb_zero {l : List (List Value)} (h : l ≠ []) : ∃ c, (0, c) ∈ numb 0 l := by
  cases l with
  | nil => exact (h rfl).elim
  | cons c l => exact ⟨c, List.mem_cons_self⟩
theorem roGet_ok {P : Program} {f : Nat} : ∀ {L : List RoE} {args : List Value} {σ : St} {v : Value} {σ' : St}, (∀ e ∈ L, e.ok P ∧ e.f = f) → roGet L args σ = some (v, σ') → SimF P [] f args.toArray σ v σ'
  | [], _, _, _, _, _, h => by cases h
  | e :: L, args, σ, v, σ', hL, h => by
    have h : cond (cond (Nat.beq (keyOf e.args) (keyOf args)) (cond (chkLA (colLA e.args args []) e.args args) (chkB σ e.l (colLA e.args args [])) false) false) (some (e.v, σ)) (roGet L args σ) = some (v, σ') := h
    cases hc : cond (Nat.beq (keyOf e.args) (keyOf args)) (cond (chkLA (colLA e.args args []) e.args args) (chkB σ e.l (colLA e.args args [])) false) false with
    | false => rw [hc] at h; exact roGet_ok (fun e he => hL e (List.mem_cons_of_mem _ he)) h
    | true =>
      rw [hc] at h
      cases h
      have hc := (cond3 hc).2
      obtain ⟨⟨h1, h2, h3, σs', h4⟩, rfl⟩ := hL e List.mem_cons_self
      cases ha : chkLA (colLA e.args args []) e.args args with
      | false => rw [ha] at hc; cases hc
      | true =>
        rw [ha] at hc
        refine h4.ro (ρ := rhoL (colLA e.args args [])) (fun x hx => ?_) (numb_nodup _ _) (numb_zero h2) (fun A B d hr => ?_) (fun b hb => by simp at hb) (chkLA_ok ha) (.flat h3)
        · have := numb_mem _ _ _ hx; omega
        · obtain ⟨c, c', q1, q2, q3⟩ := chkB_ok hc A B d (rhoL_mem hr)
          exact ⟨c, c', q1, q2, q3 _⟩
theorem rnGet_ok {P : Program} {f : Nat} : ∀ {L : List RnE} {args : List Value} {σ : St} {v : Value} {σ' : St}, (∀ e ∈ L, e.ok P ∧ e.f = f) → rnGet L args σ = some (v, σ') → SimF P [] f args.toArray σ v σ'
  | [], _, _, _, _, _, h => by cases h
  | e :: L, args, σ, v, σ', hL, h => by
    have h : cond (cond (Nat.beq (keyOf e.args) (keyOf args)) (cond (chkLA (colLA e.args args []) e.args args) (chkB σ e.l (colLA e.args args [])) false) false) (some (.tuple #[.slice (some ⟨σ.next, 0, none⟩) e.n e.k, e.e], (σ.set σ.next (.cells true 0 σ.next e.c)).bump 1)) (rnGet L args σ) = some (v, σ') := h
    cases hc : cond (Nat.beq (keyOf e.args) (keyOf args)) (cond (chkLA (colLA e.args args []) e.args args) (chkB σ e.l (colLA e.args args [])) false) false with
    | false => rw [hc] at h; exact rnGet_ok (fun e he => hL e (List.mem_cons_of_mem _ he)) h
    | true =>
      rw [hc] at h
      cases h
      have hc := (cond3 hc).2
      obtain ⟨⟨h1, h2, h3, h3', x, v1, F1, σs', h5, h6, h4⟩, rfl⟩ := hL e List.mem_cons_self
      cases ha : chkLA (colLA e.args args []) e.args args with
      | false => rw [ha] at hc; cases hc
      | true =>
        rw [ha] at hc
        refine h4.roNew (ρ := rhoL (colLA e.args args [])) (x := x) (fun x hx => ?_) (numb_nodup _ _) (numb_zero h2) (fun A B d hr => ?_) (fun b hb => by simp at hb) (chkLA_ok ha) h5 h6 h3' ?_
        · have := numb_mem _ _ _ hx; omega
        · obtain ⟨c, c', q1, q2, q3⟩ := chkB_ok hc A B d (rhoL_mem hr)
          exact ⟨c, c', q1, q2, q3 _⟩
        · refine .tuple _ _ rfl fun i q q' => ?_
          have hi : i = 0 ∨ i = 1 := by simp at q; omega
          rcases hi with rfl | rfl
          · exact .slice x σ.next 0 0 e.n e.k (by simp)
          · exact .flat0 h3

/-- One run says that it holds. -/
noncomputable def RoE.run (call : CallF) (e : RoE) : Bool := cond (cond (Nat.blt e.l.length 1000) (cond (e.l.isEmpty) false (flatV e.v)) false) (match call e.f e.args.toArray (roSt 1000 0 (numb 0 e.l)) with
  | some (v, _) => veqM v e.v
  | none => false) false
theorem RoE.run_ok {P : Program} {call : CallF} (hc : call.ok P []) {e : RoE} (h : e.run call = true) : e.ok P := by
  unfold RoE.run at h
  cases h1 : Nat.blt e.l.length 1000 with
  | false => rw [h1] at h; cases h
  | true =>
    rw [h1] at h
    simp only [cond_true] at h
    cases h2 : e.l.isEmpty with
    | true => rw [h2] at h; cases h
    | false =>
      rw [h2] at h
      simp only [cond_false] at h
      cases h3 : flatV e.v with
      | false => rw [h3] at h; cases h
      | true =>
        rw [h3] at h
        simp only [cond_true] at h
        split at h
        · rename_i v σs' hr
          have := veqM_eq h
          subst this
          exact ⟨Nat.le_of_ble_eq_true h1, fun q => (by rw [q] at h2; cases h2), h3, σs', hc _ _ _ _ _ hr⟩
        · cases h
noncomputable def RnE.run (call : CallF) (e : RnE) : Bool := cond (cond (Nat.blt e.l.length 1000) (cond (e.l.isEmpty) false (cond (flat0 e.e) (e.c.all flatV) false)) false) (match call e.f e.args.toArray (roSt 1000 0 (numb 0 e.l)) with
  | some (.tuple ⟨[.slice (some ⟨x, 0, none⟩) n k, r]⟩, σs') => cond (cond (Nat.ble 1000 x) (cond (Nat.beq n e.n) (cond (Nat.beq k e.k) (veqM0 r e.e) false) false) false) (match blk x σs' with
    | some (.cells true v1 F1 c) => veqsM0 c e.c
    | _ => false) false
  | _ => false) false
theorem RnE.run_ok {P : Program} {call : CallF} (hc : call.ok P []) {e : RnE} (h : e.run call = true) : e.ok P := by
  unfold RnE.run at h
  obtain ⟨h0, h⟩ := cond3 h
  obtain ⟨h1, h0⟩ := cond3 h0
  cases h2 : e.l.isEmpty with
  | true => rw [h2] at h0; cases h0
  | false =>
    rw [h2] at h0
    obtain ⟨h3, h4⟩ := cond3 h0
    split at h
    · rename_i x n k r σs' hr
      obtain ⟨g, h⟩ := cond3 h
      obtain ⟨g1, g⟩ := cond3 g
      obtain ⟨g2, g⟩ := cond3 g
      obtain ⟨g3, g4⟩ := cond3 g
      split at h
      · rename_i v1 F1 c hb
        have e1 := veqsM0_eq h
        have e2 := veqM0_eq g4
        rw [Nat.beq_eq] at g2 g3
        have g2 : n = e.n := g2
        have g3 : k = e.k := g3
        subst e1 e2 g2 g3
        rw [blk_eq] at hb
        exact ⟨Nat.le_of_ble_eq_true h1, fun q => (by rw [q] at h2; cases h2), h3, by simpa using h4, x, v1, F1, σs', Nat.le_of_ble_eq_true g1, hb, hc _ _ _ _ _ hr⟩
      · cases h
    · cases h
/-- A list of them by one run. -/
theorem RoE.all_ok {P : Program} {call : CallF} (hc : call.ok P []) {f : Nat} {L : List RoE} (h : (L.all fun e => cond (Nat.beq e.f f) (e.run call) false) = true) : ∀ e ∈ L, e.ok P ∧ e.f = f := by
  intro e he
  rw [List.all_eq_true] at h
  obtain ⟨h1, h2⟩ := cond3 (h e he)
  rw [Nat.beq_eq] at h1
  exact ⟨RoE.run_ok hc h2, h1⟩
theorem RnE.all_ok {P : Program} {call : CallF} (hc : call.ok P []) {f : Nat} {L : List RnE} (h : (L.all fun e => cond (Nat.beq e.f f) (e.run call) false) = true) : ∀ e ∈ L, e.ok P ∧ e.f = f := by
  intro e he
  rw [List.all_eq_true] at h
  obtain ⟨h1, h2⟩ := cond3 (h e he)
  rw [Nat.beq_eq] at h1
  exact ⟨RnE.run_ok hc h2, h1⟩
/-- The calls that answer so. -/
noncomputable def roC (L : List RoE) : CallF := fun _ args σ => roGet L args.toList σ
noncomputable def rnC (L : List RnE) (L0 : List RoE) : CallF := fun _ args σ => match rnGet L args.toList σ with
  | some r => some r
  | none => roGet L0 args.toList σ
theorem roC_ok {P : Program} {f : Nat} {L : List RoE} (h : ∀ e ∈ L, e.ok P ∧ e.f = f) : ∀ args σ v σ', roC L f args σ = some (v, σ') → SimF P [] f args σ v σ' := by
  intro args σ v σ' e
  have := roGet_ok h (args := args.toList) e
  rwa [Array.toArray_toList] at this
theorem rnC_ok {P : Program} {f : Nat} {L : List RnE} {L0 : List RoE} (h : ∀ e ∈ L, e.ok P ∧ e.f = f) (h0 : ∀ e ∈ L0, e.ok P ∧ e.f = f) : ∀ args σ v σ', rnC L L0 f args σ = some (v, σ') → SimF P [] f args σ v σ' := by
  intro args σ v σ' e
  unfold rnC at e
  split at e
  · rename_i r hr
    cases e
    have := rnGet_ok h (args := args.toList) hr
    rwa [Array.toArray_toList] at this
  · have := roGet_ok h0 (args := args.toList) e
    rwa [Array.toArray_toList] at this
end Go.Ev
