/-
  The evaluator's ground, over any program: trees as maps, the abstract state (blocks of cells with owner and version, iterators, maps), how an abstract value and state stand to the model's values and world ('VRel', 'Rel'), and what a step may change ('Ext'). No condition; no program stands in it.
-/
import Derived.Below
import Derived.Orders
import Derived.LoopN
import Derived.Scope
namespace Go.Ev
open Go

/-- A map from paths. -/
inductive Tr (α : Type) where
  | nil
  | node (v : Option α) (l r : Tr α)

namespace Tr
variable {α : Type}
def get : Tr α → List Bool → Option α
  | nil, _ => none
  | node v _ _, [] => v
  | node _ l r, b :: p => cond b (l.get p) (r.get p)
def set : List Bool → α → Tr α → Tr α
  | [], x, nil => node (some x) nil nil
  | [], x, node _ l r => node (some x) l r
  | b :: p, x, nil => cond b (node none (set p x nil) nil) (node none nil (set p x nil))
  | b :: p, x, node v l r => cond b (node v (set p x l) r) (node v l (set p x r))

theorem get_set (p q : List Bool) (x : α) (t : Tr α) : (t.set p x).get q = if p = q then some x else t.get q := by
  induction p generalizing q t with
  | nil => cases t <;> cases q <;> simp [set, get]
  | cons b p ih =>
    cases t with
    | nil =>
      cases q with
      | nil => cases b <;> simp [set, get]
      | cons c q => cases b <;> cases c <;> simp [set, get, ih]
    | node v l r =>
      cases q with
      | nil => cases b <;> simp [set, get]
      | cons c q => cases b <;> cases c <;> simp [set, get, ih]
end Tr

def pathF : Nat → Nat → List Bool
  | 0, _ => []
  | _ + 1, 0 => []
  | f + 1, n + 1 => (n % 2 == 1) :: pathF f (n / 2)
/-- A number's path. -/
def path (n : Nat) : List Bool := pathF n n

theorem pathF_inj : ∀ (f f' n m : Nat), n ≤ f → m ≤ f' → pathF f n = pathF f' m → n = m := by
  intro f
  induction f with
  | zero =>
    intro f' n m hn hm h
    obtain rfl : n = 0 := by omega
    cases f' with
    | zero => omega
    | succ f' => cases m with
      | zero => rfl
      | succ m => simp [pathF] at h
  | succ f ih =>
    intro f' n m hn hm h
    cases f' with
    | zero =>
      obtain rfl : m = 0 := by omega
      cases n with
      | zero => rfl
      | succ n => simp [pathF] at h
    | succ f' =>
      cases n with
      | zero => cases m with
        | zero => rfl
        | succ m => simp [pathF] at h
      | succ n =>
        cases m with
        | zero => simp [pathF] at h
        | succ m =>
          simp only [pathF, List.cons.injEq] at h
          have h2 := ih f' (n / 2) (m / 2) (by omega) (by omega) h.2
          have h1 : (n % 2 = 1) ↔ (m % 2 = 1) := by
            have := h.1
            rw [Bool.eq_iff_iff] at this
            simpa using this
          omega
theorem path_inj {n m : Nat} (h : path n = path m) : n = m := pathF_inj n m n m (Nat.le_refl _) (Nat.le_refl _) h

/-- What a block is: cells (may it be written through this name; how often it was; its family; its cells) · a string's iterator · a map. -/
inductive AObj where
  | cells (own : Bool) (ver fam : Nat) (c : List Value)
  | iter (s : ByteArray) (pos : Nat)
  | map (es : List (Value × Value × Nat)) (clock : Nat)

/-- The abstract state: blocks; the one of a family that may be written; the next free name. -/
structure St where
  heap : Tr AObj
  fams : Tr Nat
  next : Nat
  hint : Tr Nat := .nil

namespace St
def get (σ : St) (A : Nat) : Option AObj := σ.heap.get (path A)
def famO (σ : St) (F : Nat) : Option Nat := σ.fams.get (path F)
def set (σ : St) (A : Nat) (o : AObj) : St := { σ with heap := σ.heap.set (path A) o }
def setFam (σ : St) (F O : Nat) : St := { σ with fams := σ.fams.set (path F) O }
/-- How many cells a block has, where that is noted. -/
def hintO (σ : St) (A : Nat) : Option Nat := σ.hint.get (path A)
def setHint (σ : St) (A n : Nat) : St := { σ with hint := σ.hint.set (path A) n }
def bump (σ : St) (n : Nat) : St := { σ with next := σ.next + n }

@[simp] theorem get_set (σ : St) (A B : Nat) (o : AObj) : (σ.set A o).get B = if A = B then some o else σ.get B := by
  simp only [get, set, Tr.get_set]
  by_cases h : A = B
  · simp [h]
  · rw [if_neg h, if_neg (fun e => h (path_inj e))]
@[simp] theorem famO_set (σ : St) (A F : Nat) (o : AObj) : (σ.set A o).famO F = σ.famO F := rfl
@[simp] theorem next_set (σ : St) (A : Nat) (o : AObj) : (σ.set A o).next = σ.next := rfl
@[simp] theorem get_setFam (σ : St) (F O A : Nat) : (σ.setFam F O).get A = σ.get A := rfl
@[simp] theorem next_setFam (σ : St) (F O : Nat) : (σ.setFam F O).next = σ.next := rfl
@[simp] theorem famO_setFam (σ : St) (F O F' : Nat) : (σ.setFam F O).famO F' = if F = F' then some O else σ.famO F' := by
  simp only [famO, setFam, Tr.get_set]
  by_cases h : F = F'
  · simp [h]
  · rw [if_neg h, if_neg (fun e => h (path_inj e))]
@[simp] theorem hintO_set (σ : St) (A B : Nat) (o : AObj) : (σ.set A o).hintO B = σ.hintO B := rfl
@[simp] theorem hintO_setFam (σ : St) (F O A : Nat) : (σ.setFam F O).hintO A = σ.hintO A := rfl
@[simp] theorem hintO_bump (σ : St) (n A : Nat) : (σ.bump n).hintO A = σ.hintO A := rfl
@[simp] theorem get_setHint (σ : St) (B n A : Nat) : (σ.setHint B n).get A = σ.get A := rfl
@[simp] theorem next_setHint (σ : St) (B n : Nat) : (σ.setHint B n).next = σ.next := rfl
@[simp] theorem famO_setHint (σ : St) (B n F : Nat) : (σ.setHint B n).famO F = σ.famO F := rfl
@[simp] theorem hintO_setHint (σ : St) (B n A : Nat) : (σ.setHint B n).hintO A = if B = A then some n else σ.hintO A := by
  simp only [hintO, setHint, Tr.get_set]
  by_cases h : B = A
  · simp [h]
  · rw [if_neg h, if_neg (fun e => h (path_inj e))]
@[simp] theorem get_bump (σ : St) (n A : Nat) : (σ.bump n).get A = σ.get A := rfl
@[simp] theorem famO_bump (σ : St) (n F : Nat) : (σ.bump n).famO F = σ.famO F := rfl
@[simp] theorem next_bump (σ : St) (n : Nat) : (σ.bump n).next = σ.next + n := rfl

/-- The family of a block of cells. -/
def fam (σ : St) (A : Nat) : Option Nat := match σ.get A with | some (.cells _ _ F _) => some F | _ => none
/-- May cells of this stamp be read? -/
def rd (σ : St) (own : Bool) (ver fam : Nat) : Bool :=
  own || (match σ.famO fam with
    | none => true
    | some O => match σ.get O with
      | some (.cells _ v _ _) => v == ver
      | _ => false)
/-- Never written any more. -/
def ro (σ : St) (A : Nat) : Prop := ∃ ver fam c, σ.get A = some (.cells false ver fam c) ∧ σ.famO fam = none

/-- What holds of every state. -/
structure Wf (σ : St) : Prop where
  lt : ∀ A o, σ.get A = some o → A < σ.next
  founder : ∀ A own v F c, σ.get A = some (.cells own v F c) → ∃ o, σ.get F = some o
  owner : ∀ A v F c, σ.get A = some (.cells true v F c) → σ.famO F = some A ∨ (σ.famO F = none ∧ ∀ X own v' c', σ.get X = some (.cells own v' F c') → X = A)
  named : ∀ F O, σ.famO F = some O → ∃ own v c, σ.get O = some (.cells own v F c)
  stamp : ∀ F O X own v c own' v' c', σ.famO F = some O → σ.get O = some (.cells own v F c) → σ.get X = some (.cells own' v' F c') → v' ≤ v
  hint : ∀ A n, σ.hintO A = some n → ∃ own v F c, σ.get A = some (.cells own v F c) ∧ c.length = n

theorem Wf.bump {σ : St} (h : σ.Wf) (n : Nat) : (σ.bump n).Wf :=
  ⟨fun A o e => Nat.lt_of_lt_of_le (h.lt A o e) (Nat.le_add_right _ _), h.founder, h.owner, h.named, h.stamp, h.hint⟩
end St

/-- Where an abstract block lies in the world: a block, the first cell, and how many cells that block has in all. -/
structure CA where
  block : Nat
  base : Nat
  size : Nat
abbrev Gam := Nat → Option CA

/-- An abstract value, and the model's own. A slice's capacity is told as 0 (none) or as 1 + the cells of an element (any). -/
inductive VRel (g : Gam) : Value → Value → Prop where
  | bool (b : Bool) : VRel g (.bool b) (.bool b)
  | int (k : IntKind) (n : Int) : VRel g (.int k n) (.int k n)
  | float (k : FloatKind) (b : Nat) : VRel g (.float k b) (.float k b)
  | complex (k : FloatKind) (a b : Nat) : VRel g (.complex k a b) (.complex k a b)
  | string (s : ByteArray) : VRel g (.string s) (.string s)
  | nilPtr : VRel g (.pointer none) (.pointer none)
  | ptr (A o : Nat) (x : CA) (h : g A = some x) : VRel g (.pointer (some ⟨A, o, none⟩)) (.pointer (some ⟨x.block, x.base + o, none⟩))
  | nilSlice : VRel g (.slice none 0 0) (.slice none 0 0)
  | slice (A o len k : Nat) (x : CA) (o' c : Nat) (h : g A = some x) (hl : len ≤ c) (ho : c ≠ 0 → o' = x.base + o) (h0 : k = 0 → c = 0) (hk : o' + c * (k - 1) ≤ x.size) :
      VRel g (.slice (some ⟨A, o, none⟩) len k) (.slice (some ⟨x.block, o', none⟩) len c)
  | nilMap : VRel g (.map none) (.map none)
  | map (A : Nat) (x : CA) (h : g A = some x) : VRel g (.map (some A)) (.map (some x.block))
  | nilFunc : VRel g .nilFunc .nilFunc
  | func (fn : Fn) (a b c d : Array Value) (h1 : a.size = b.size) (h2 : ∀ i (h : i < a.size) (h' : i < b.size), VRel g a[i] b[i])
      (h3 : c.size = d.size) (h4 : ∀ i (h : i < c.size) (h' : i < d.size), VRel g c[i] d[i]) : VRel g (.func fn a c) (.func fn b d)
  | iface (t : TypeId) (v v' : Value) (h : VRel g v v') : VRel g (.iface t v) (.iface t v')
  | nilIface : VRel g .nilIface .nilIface
  | agg (a b : Array Value) (h1 : a.size = b.size) (h2 : ∀ i (h : i < a.size) (h' : i < b.size), VRel g a[i] b[i]) : VRel g (.agg a) (.agg b)
  | tuple (a b : Array Value) (h1 : a.size = b.size) (h2 : ∀ i (h : i < a.size) (h' : i < b.size), VRel g a[i] b[i]) : VRel g (.tuple a) (.tuple b)

def Gam.le (g g' : Gam) : Prop := ∀ A x, g A = some x → g' A = some x
theorem Gam.le_refl (g : Gam) : Gam.le g g := fun _ _ h => h
theorem Gam.le_trans {a b c : Gam} (h : Gam.le a b) (k : Gam.le b c) : Gam.le a c := fun A x e => k A x (h A x e)
/-- One name more. -/
def Gam.add (g : Gam) (A : Nat) (x : CA) : Gam := fun B => if B = A then some x else g B
theorem Gam.le_add {g : Gam} {A : Nat} {x : CA} (h : g A = none) : Gam.le g (g.add A x) := fun B y e => by
  unfold Gam.add; split
  · subst_vars; rw [h] at e; cases e
  · exact e
theorem Gam.add_self (g : Gam) (A : Nat) (x : CA) : g.add A x A = some x := by simp [Gam.add]

theorem VRel.mono {g g' : Gam} (hg : Gam.le g g') {v v' : Value} (h : VRel g v v') : VRel g' v v' := by
  induction h with
  | bool b => exact .bool b
  | int k n => exact .int k n
  | float k b => exact .float k b
  | complex k a b => exact .complex k a b
  | string s => exact .string s
  | nilPtr => exact .nilPtr
  | ptr A o x h => exact .ptr A o x (hg _ _ h)
  | nilSlice => exact .nilSlice
  | slice A o len k x o' c h hl ho h0 hk => exact .slice A o len k x o' c (hg _ _ h) hl ho h0 hk
  | nilMap => exact .nilMap
  | map A x h => exact .map A x (hg _ _ h)
  | nilFunc => exact .nilFunc
  | func fn a b c d h1 _ h3 _ ih1 ih2 => exact .func fn a b c d h1 ih1 h3 ih2
  | iface t v v' _ ih => exact .iface t v v' ih
  | nilIface => exact .nilIface
  | agg a b h1 _ ih => exact .agg a b h1 ih
  | tuple a b h1 _ ih => exact .tuple a b h1 ih

/-- Two rows of values. -/
def ARel (g : Gam) (a b : Array Value) : Prop := a.size = b.size ∧ ∀ i (h : i < a.size) (h' : i < b.size), VRel g a[i] b[i]
theorem ARel.mono {g g' : Gam} (hg : Gam.le g g') {a b : Array Value} (h : ARel g a b) : ARel g' a b := ⟨h.1, fun i h1 h2 => (h.2 i h1 h2).mono hg⟩

/-- A value of one cell that names no block. -/
def flat0 : Value → Bool
  | .bool _ | .int _ _ | .float _ _ | .complex _ _ _ | .string _ | .pointer none | .slice none 0 0 | .map none | .nilFunc | .nilIface => true
  | .func (.yield _) _ _ => false
  | .func _ ⟨[]⟩ ⟨[]⟩ => true
  | _ => false
/-- A value that names no block. -/
def flatV : Value → Bool
  | .agg cs => cs.toList.all flat0
  | .tuple cs => cs.toList.all flat0
  | .iface _ v => flat0 v
  | v => flat0 v

theorem flat0_rel {g : Gam} {v : Value} (h : flat0 v = true) : VRel g v v := by
  unfold flat0 at h
  split at h <;> first
    | (exact .bool _) | (exact .int _ _) | (exact .float _ _) | (exact .complex _ _ _) | (exact .string _) | (exact .nilPtr) | (exact .nilSlice) | (exact .nilMap) | (exact .nilFunc) | (exact .nilIface)
    | (cases h; done)
    | (exact .func _ _ _ _ _ rfl (fun i h => by simp at h) rfl (fun i h => by simp at h))
theorem flat0_eq {g : Gam} {v v' : Value} (h : flat0 v = true) (r : VRel g v v') : v' = v := by
  unfold flat0 at h
  split at h <;> first
    | (cases h; done)
    | (cases r; first | rfl | (rename_i b d h1 _ h3 _; simp at h1 h3; have e1 : b = #[] := Array.eq_empty_of_size_eq_zero h1.symm; have e2 : d = #[] := Array.eq_empty_of_size_eq_zero h3.symm; subst e1; subst e2; rfl))

theorem all_get {p : Value → Bool} {a : Array Value} (h : a.toList.all p = true) (i : Nat) (hi : i < a.size) : p a[i] = true := by
  rw [List.all_eq_true] at h
  exact h _ (by simp)

theorem flatV_rel {g : Gam} {v : Value} (h : flatV v = true) : VRel g v v := by
  unfold flatV at h
  split at h
  · exact .agg _ _ rfl fun i h1 _ => flat0_rel (all_get h i h1)
  · exact .tuple _ _ rfl fun i h1 _ => flat0_rel (all_get h i h1)
  · exact .iface _ _ _ (flat0_rel h)
  · exact flat0_rel h
theorem flatV_eq {g : Gam} {v v' : Value} (h : flatV v = true) (r : VRel g v v') : v' = v := by
  unfold flatV at h
  split at h
  · cases r; rename_i cs b h1 h2
    congr 1
    exact (Array.ext h1 fun i hi hi' => (flat0_eq (all_get h i hi) (h2 i hi hi')).symm).symm
  · cases r; rename_i cs b h1 h2
    congr 1
    exact (Array.ext h1 fun i hi hi' => (flat0_eq (all_get h i hi) (h2 i hi hi')).symm).symm
  · cases r; rename_i h1; rw [flat0_eq h h1]
  · exact flat0_eq h r
end Go.Ev
