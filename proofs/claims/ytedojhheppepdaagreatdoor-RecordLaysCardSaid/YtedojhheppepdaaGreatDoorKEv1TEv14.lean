/-
  The evaluator and the contracts, merged out of 14 texts (Ev1 to Ev14). No condition.
-/
import Derived.Below
import Derived.Orders
import Derived.LoopN
import Derived.Scope
import Derived.Laws.IdiomCopy
import Derived.Laws.BytesString
import Derived.Laws.AppendOwn
namespace Go.Ev
open Go
inductive Tr (α : Type) where
  | nil
  | node (v : Option α) (l r : Tr α)
namespace Tr
variable {α : Type}
def get : Tr α → List Bool → Option α
  | nil, _ => none
  | node v _ _, [] => v
  | node _ l r, b :: p => cond b (l.get p) (r.get p)
def set : List Bool → α → Tr α → Tr α
  | [], x, nil => node (some x) nil nil
  | [], x, node _ l r => node (some x) l r
  | b :: p, x, nil => cond b (node none (set p x nil) nil) (node none nil (set p x nil))
  | b :: p, x, node v l r => cond b (node v (set p x l) r) (node v l (set p x r))
theorem get_set (p q : List Bool) (x : α) (t : Tr α) : (t.set p x).get q = if p = q then some x else t.get q := by
  induction p generalizing q t with
  | nil => cases t <;> cases q <;> simp [set, get]
  | cons b p ih =>
    cases t with
    | nil =>
      cases q with
      | nil => cases b <;> simp [set, get]
      | cons c q => cases b <;> cases c <;> simp [set, get, ih]
    | node v l r =>
      cases q with
      | nil => cases b <;> simp [set, get]
      | cons c q => cases b <;> cases c <;> simp [set, get, ih]
end Tr
def Jrr : Nat → Nat → List Bool
  | 0, _ => []
  | _ + 1, 0 => []
  | f + 1, n + 1 => (n % 2 == 1) :: Jrr f (n / 2)
def path (n : Nat) : List Bool := Jrr n n
theorem Keu : ∀ (f f' n m : Nat), n ≤ f → m ≤ f' → Jrr f n = Jrr f' m → n = m := by
  intro f
  induction f with
  | zero =>
    intro f' n m hn hm h
    obtain rfl : n = 0 := by omega
    cases f' with
    | zero => omega
    | succ f' => cases m with
      | zero => rfl
      | succ m => simp [Jrr] at h
  | succ f ih =>
    intro f' n m hn hm h
    cases f' with
    | zero =>
      obtain rfl : m = 0 := by omega
      cases n with
      | zero => rfl
      | succ n => simp [Jrr] at h
    | succ f' =>
      cases n with
      | zero => cases m with
        | zero => rfl
        | succ m => simp [Jrr] at h
      | succ n =>
        cases m with
        | zero => simp [Jrr] at h
        | succ m =>
          simp only [Jrr, List.cons.injEq] at h
          have h2 := ih f' (n / 2) (m / 2) (by omega) (by omega) h.2
          have h1 : (n % 2 = 1) ↔ (m % 2 = 1) := by
            have := h.1
            rw [Bool.eq_iff_iff] at this
            simpa using this
          omega
theorem Ji3 {n m : Nat} (h : path n = path m) : n = m := Keu n m n m (Nat.le_refl _) (Nat.le_refl _) h
inductive AObj where
  | cells (own : Bool) (ver fam : Nat) (c : List Value)
  | iter (s : ByteArray) (pos : Nat)
  | map (es : List (Value × Value × Nat)) (clock : Nat)
structure St where
  heap : Tr AObj
  fams : Tr Nat
  next : Nat
  hint : Tr Nat := .nil
namespace St
def get (σ : St) (A : Nat) : Option AObj := σ.heap.get (path A)
def famO (σ : St) (F : Nat) : Option Nat := σ.fams.get (path F)
def set (σ : St) (A : Nat) (o : AObj) : St := { σ with heap := σ.heap.set (path A) o }
def setFam (σ : St) (F O : Nat) : St := { σ with fams := σ.fams.set (path F) O }
def hintO (σ : St) (A : Nat) : Option Nat := σ.hint.get (path A)
def setHint (σ : St) (A n : Nat) : St := { σ with hint := σ.hint.set (path A) n }
def bump (σ : St) (n : Nat) : St := { σ with next := σ.next + n }
@[simp] theorem get_set (σ : St) (A B : Nat) (o : AObj) : (σ.set A o).get B = if A = B then some o else σ.get B := by
  simp only [get, set, Tr.get_set]
  by_cases h : A = B
  · simp [h]
  · rw [if_neg h, if_neg (fun e => h (Ji3 e))]
@[simp] theorem famO_set (σ : St) (A F : Nat) (o : AObj) : (σ.set A o).famO F = σ.famO F := rfl
@[simp] theorem next_set (σ : St) (A : Nat) (o : AObj) : (σ.set A o).next = σ.next := rfl
@[simp] theorem get_setFam (σ : St) (F O A : Nat) : (σ.setFam F O).get A = σ.get A := rfl
@[simp] theorem next_setFam (σ : St) (F O : Nat) : (σ.setFam F O).next = σ.next := rfl
@[simp] theorem famO_setFam (σ : St) (F O F' : Nat) : (σ.setFam F O).famO F' = if F = F' then some O else σ.famO F' := by
  simp only [famO, setFam, Tr.get_set]
  by_cases h : F = F'
  · simp [h]
  · rw [if_neg h, if_neg (fun e => h (Ji3 e))]
@[simp] theorem hintO_set (σ : St) (A B : Nat) (o : AObj) : (σ.set A o).hintO B = σ.hintO B := rfl
@[simp] theorem hintO_setFam (σ : St) (F O A : Nat) : (σ.setFam F O).hintO A = σ.hintO A := rfl
@[simp] theorem hintO_bump (σ : St) (n A : Nat) : (σ.bump n).hintO A = σ.hintO A := rfl
@[simp] theorem get_setHint (σ : St) (B n A : Nat) : (σ.setHint B n).get A = σ.get A := rfl
@[simp] theorem next_setHint (σ : St) (B n : Nat) : (σ.setHint B n).next = σ.next := rfl
@[simp] theorem famO_setHint (σ : St) (B n F : Nat) : (σ.setHint B n).famO F = σ.famO F := rfl
@[simp] theorem hintO_setHint (σ : St) (B n A : Nat) : (σ.setHint B n).hintO A = if B = A then some n else σ.hintO A := by
  simp only [hintO, setHint, Tr.get_set]
  by_cases h : B = A
  · simp [h]
  · rw [if_neg h, if_neg (fun e => h (Ji3 e))]
@[simp] theorem get_bump (σ : St) (n A : Nat) : (σ.bump n).get A = σ.get A := rfl
@[simp] theorem famO_bump (σ : St) (n F : Nat) : (σ.bump n).famO F = σ.famO F := rfl
@[simp] theorem next_bump (σ : St) (n : Nat) : (σ.bump n).next = σ.next + n := rfl
def fam (σ : St) (A : Nat) : Option Nat := match σ.get A with | some (.cells _ _ F _) => some F | _ => none
def rd (σ : St) (own : Bool) (ver fam : Nat) : Bool :=
  own || (match σ.famO fam with
    | none => true
    | some O => match σ.get O with
      | some (.cells _ v _ _) => v == ver
      | _ => false)
def ro (σ : St) (A : Nat) : Prop := ∃ ver fam c, σ.get A = some (.cells false ver fam c) ∧ σ.famO fam = none
structure Wf (σ : St) : Prop where
  lt : ∀ A o, σ.get A = some o → A < σ.next
  founder : ∀ A own v F c, σ.get A = some (.cells own v F c) → ∃ o, σ.get F = some o
  owner : ∀ A v F c, σ.get A = some (.cells true v F c) → σ.famO F = some A ∨ (σ.famO F = none ∧ ∀ X own v' c', σ.get X = some (.cells own v' F c') → X = A)
  named : ∀ F O, σ.famO F = some O → ∃ own v c, σ.get O = some (.cells own v F c)
  stamp : ∀ F O X own v c own' v' c', σ.famO F = some O → σ.get O = some (.cells own v F c) → σ.get X = some (.cells own' v' F c') → v' ≤ v
  hint : ∀ A n, σ.hintO A = some n → ∃ own v F c, σ.get A = some (.cells own v F c) ∧ c.length = n
theorem Wf.bump {σ : St} (h : σ.Wf) (n : Nat) : (σ.bump n).Wf :=
  ⟨fun A o e => Nat.lt_of_lt_of_le (h.lt A o e) (Nat.le_add_right _ _), h.founder, h.owner, h.named, h.stamp, h.hint⟩
end St
structure CA where
  block : Nat
  base : Nat
  size : Nat
abbrev Gam := Nat → Option CA
inductive VRel (g : Gam) : Value → Value → Prop where
  | bool (b : Bool) : VRel g (.bool b) (.bool b)
  | int (k : IntKind) (n : Int) : VRel g (.int k n) (.int k n)
  | float (k : FloatKind) (b : Nat) : VRel g (.float k b) (.float k b)
  | complex (k : FloatKind) (a b : Nat) : VRel g (.complex k a b) (.complex k a b)
  | string (s : ByteArray) : VRel g (.string s) (.string s)
  | nilPtr : VRel g (.pointer none) (.pointer none)
  | ptr (A o : Nat) (x : CA) (h : g A = some x) : VRel g (.pointer (some ⟨A, o, none⟩)) (.pointer (some ⟨x.block, x.base + o, none⟩))
  | nilSlice : VRel g (.slice none 0 0) (.slice none 0 0)
  | slice (A o len k : Nat) (x : CA) (o' c : Nat) (h : g A = some x) (hl : len ≤ c) (ho : c ≠ 0 → o' = x.base + o) (h0 : k = 0 → c = 0) (hk : o' + c * (k - 1) ≤ x.size) :
      VRel g (.slice (some ⟨A, o, none⟩) len k) (.slice (some ⟨x.block, o', none⟩) len c)
  | nilMap : VRel g (.map none) (.map none)
  | map (A : Nat) (x : CA) (h : g A = some x) : VRel g (.map (some A)) (.map (some x.block))
  | nilFunc : VRel g .nilFunc .nilFunc
  | func (fn : Fn) (a b c d : Array Value) (h1 : a.size = b.size) (h2 : ∀ i (h : i < a.size) (h' : i < b.size), VRel g a[i] b[i])
      (h3 : c.size = d.size) (h4 : ∀ i (h : i < c.size) (h' : i < d.size), VRel g c[i] d[i]) : VRel g (.func fn a c) (.func fn b d)
  | yield (l l' : Nat) : VRel g (.func (.yield l) #[] #[]) (.func (.yield l') #[] #[])
  | iface (t : TypeId) (v v' : Value) (h : VRel g v v') : VRel g (.iface t v) (.iface t v')
  | nilIface : VRel g .nilIface .nilIface
  | agg (a b : Array Value) (h1 : a.size = b.size) (h2 : ∀ i (h : i < a.size) (h' : i < b.size), VRel g a[i] b[i]) : VRel g (.agg a) (.agg b)
  | tuple (a b : Array Value) (h1 : a.size = b.size) (h2 : ∀ i (h : i < a.size) (h' : i < b.size), VRel g a[i] b[i]) : VRel g (.tuple a) (.tuple b)
def Gam.le (g g' : Gam) : Prop := ∀ A x, g A = some x → g' A = some x
theorem Gam.le_refl (g : Gam) : Gam.le g g := fun _ _ h => h
theorem Gam.le_trans {a b c : Gam} (h : Gam.le a b) (k : Gam.le b c) : Gam.le a c := fun A x e => k A x (h A x e)
def Gam.add (g : Gam) (A : Nat) (x : CA) : Gam := fun B => if B = A then some x else g B
theorem Gam.le_add {g : Gam} {A : Nat} {x : CA} (h : g A = none) : Gam.le g (g.add A x) := fun B y e => by
  unfold Gam.add; split
  · subst_vars; rw [h] at e; cases e
  · exact e
theorem Gam.add_self (g : Gam) (A : Nat) (x : CA) : g.add A x A = some x := by simp [Gam.add]
theorem VRel.mono {g g' : Gam} (hg : Gam.le g g') {v v' : Value} (h : VRel g v v') : VRel g' v v' := by
  induction h with
  | bool b => exact .bool b
  | int k n => exact .int k n
  | float k b => exact .float k b
  | complex k a b => exact .complex k a b
  | string s => exact .string s
  | nilPtr => exact .nilPtr
  | ptr A o x h => exact .ptr A o x (hg _ _ h)
  | nilSlice => exact .nilSlice
  | slice A o len k x o' c h hl ho h0 hk => exact .slice A o len k x o' c (hg _ _ h) hl ho h0 hk
  | nilMap => exact .nilMap
  | map A x h => exact .map A x (hg _ _ h)
  | nilFunc => exact .nilFunc
  | func fn a b c d h1 _ h3 _ ih1 ih2 => exact .func fn a b c d h1 ih1 h3 ih2
  | yield l l' => exact .yield l l'
  | iface t v v' _ ih => exact .iface t v v' ih
  | nilIface => exact .nilIface
  | agg a b h1 _ ih => exact .agg a b h1 ih
  | tuple a b h1 _ ih => exact .tuple a b h1 ih
def ARel (g : Gam) (a b : Array Value) : Prop := a.size = b.size ∧ ∀ i (h : i < a.size) (h' : i < b.size), VRel g a[i] b[i]
theorem ARel.mono {g g' : Gam} (hg : Gam.le g g') {a b : Array Value} (h : ARel g a b) : ARel g' a b := ⟨h.1, fun i h1 h2 => (h.2 i h1 h2).mono hg⟩
def flat0 : Value → Bool
  | .bool _ | .int _ _ | .float _ _ | .complex _ _ _ | .string _ | .pointer none | .slice none 0 0 | .map none | .nilFunc | .nilIface => true
  | .func (.yield _) _ _ => false
  | .func _ ⟨[]⟩ ⟨[]⟩ => true
  | _ => false
def Ja5 : Value → Bool
  | .agg cs => cs.toList.all flat0
  | .tuple cs => cs.toList.all flat0
  | .iface _ v => flat0 v
  | v => flat0 v
theorem Jin {g : Gam} {v : Value} (h : flat0 v = true) : VRel g v v := by
  unfold flat0 at h
  split at h <;> first
    | (exact .bool _) | (exact .int _ _) | (exact .float _ _) | (exact .complex _ _ _) | (exact .string _) | (exact .nilPtr) | (exact .nilSlice) | (exact .nilMap) | (exact .nilFunc) | (exact .nilIface)
    | (cases h; done)
    | (exact .func _ _ _ _ _ rfl (fun i h => by simp at h) rfl (fun i h => by simp at h))
theorem Jm9 {g : Gam} {v v' : Value} (h : flat0 v = true) (r : VRel g v v') : v' = v := by
  unfold flat0 at h
  split at h <;> first
    | (cases h; done)
    | (cases r <;> first | rfl | (rename_i hx; exact (hx _ rfl).elim) | (rename_i b d h1 _ h3 _; simp at h1 h3; have e1 : b = #[] := Array.eq_empty_of_size_eq_zero h1.symm; have e2 : d = #[] := Array.eq_empty_of_size_eq_zero h3.symm; subst e1; subst e2; rfl))
theorem Jj9 {p : Value → Bool} {a : Array Value} (h : a.toList.all p = true) (i : Nat) (hi : i < a.size) : p a[i] = true := by
  rw [List.all_eq_true] at h
  exact h _ (by simp)
theorem Jb4 {g : Gam} {v : Value} (h : Ja5 v = true) : VRel g v v := by
  unfold Ja5 at h
  split at h
  · exact .agg _ _ rfl fun i h1 _ => Jin (Jj9 h i h1)
  · exact .tuple _ _ rfl fun i h1 _ => Jin (Jj9 h i h1)
  · exact .iface _ _ _ (Jin h)
  · exact Jin h
theorem Je5 {g : Gam} {v v' : Value} (h : Ja5 v = true) (r : VRel g v v') : v' = v := by
  unfold Ja5 at h
  split at h
  · cases r; rename_i cs b h1 h2
    congr 1
    exact (Array.ext h1 fun i hi hi' => (Jm9 (Jj9 h i hi) (h2 i hi hi')).symm).symm
  · cases r; rename_i cs b h1 h2
    congr 1
    exact (Array.ext h1 fun i hi hi' => (Jm9 (Jj9 h i hi) (h2 i hi hi')).symm).symm
  · cases r; rename_i h1; rw [Jm9 h h1]
  · exact Jm9 h r
end Go.Ev
namespace Go.Ev
open Go
def MRel (g : Gam) (es : List (Value × Value × Nat)) (es' : Array MapEntry) : Prop :=
  es.length = es'.size ∧ ∀ i (h : i < es.length) (h' : i < es'.size), VRel g es[i].1 es'[i].key ∧ VRel g es[i].2.1 es'[i].val ∧ es[i].2.2 = es'[i].born
def Jg3 (g : Gam) (σ : St) (w : World) (x : CA) : AObj → Prop
  | .cells own ver fam c => ∃ cs el fr, w.heap[x.block]? = some (.cells cs el fr) ∧ cs.size = x.size ∧
      (σ.rd own ver fam = true → ∀ i (h : i < c.length), ∃ v', cs[x.base + i]? = some v' ∧ VRel g c[i] v') ∧
      (own = true → ∀ i, i < x.size → ¬ (fr.1 ≤ i ∧ i < fr.2))
  | .iter s pos => x.base = 0 ∧ w.heap[x.block]? = some (.stringIter s pos)
  | .map es clock => ∃ es', w.heap[x.block]? = some (.map es' clock) ∧ MRel g es es'
def tabW : List (Nat × List Value) := [(6, (List.range 20).map fun k => .int .u64 ((10 ^ k : Nat) : Int))]
def TabW (g : Gam) (w : World) : Prop := ∀ x ∈ tabW, (∃ t fr, w.heap[x.1]? = some (.cells x.2.toArray t fr)) ∧ ∀ A y, g A = some y → y.block ≠ x.1
theorem TabW.step {g g' : Gam} {w w' : World} (h : TabW g w) (hh : ∀ b, b < w.heap.size → (∀ A y, g A = some y → y.block ≠ b) → w'.heap[b]? = w.heap[b]?)
    (hg : ∀ A y, g' A = some y → w.heap.size ≤ y.block ∨ ∃ A0 y0, g A0 = some y0 ∧ y0.block = y.block) : TabW g' w' := by
  intro x hx
  obtain ⟨⟨t, fr, e⟩, hne⟩ := h x hx
  have hlt : x.1 < w.heap.size := (Array.getElem?_eq_some_iff.1 e).1
  refine ⟨⟨t, fr, by rw [hh _ hlt hne]; exact e⟩, fun A y hA eb => ?_⟩
  rcases hg A y hA with k | ⟨A0, y0, k1, k2⟩
  · omega
  · exact hne A0 y0 k1 (k2.trans eb)
theorem TabW.sub {g g' : Gam} {w : World} (h : TabW g w) (hg : ∀ A y, g' A = some y → ∃ A0 y0, g A0 = some y0 ∧ y0.block = y.block) : TabW g' w := h.step (fun _ _ _ => rfl) fun A y e => .inr (hg A y e)
structure Rel (g : Gam) (σ : St) (w : World) : Prop where
  wf : σ.Wf
  blk : ∀ A x, g A = some x → x.block < w.heap.size
  obj : ∀ A x, g A = some x → ∃ o, σ.get A = some o ∧ Jg3 g σ w x o
  share : ∀ A x A' x', g A = some x → g A' = some x' → x.block = x'.block → A = A' ∨ ∃ F, σ.fam A = some F ∧ σ.fam A' = some F
  order : ∀ X x O y F v c own c', g X = some x → g O = some y → x.block = y.block → X ≠ O → σ.famO F = some O →
    σ.get X = some (.cells false v F c) → σ.get O = some (.cells own v F c') → x.base + c.length ≤ y.base + c'.length
  tab : TabW g w
structure Ext (N : Nat → Prop) (g g' : Gam) (σ σ' : St) (w w' : World) : Prop where
  le : Gam.le g g'
  new : ∀ A x, g' A = some x → g A = none → N A
  fresh : ∀ A x, g' A = some x → g A = none → w.heap.size ≤ x.block ∨ ∃ A0 x0, g A0 = some x0 ∧ x0.block = x.block ∧ ¬ σ.ro A0
  size : w.heap.size ≤ w'.heap.size
  keep : ∀ b, b < w.heap.size → (∀ A x, g A = some x → x.block = b → σ.ro A) → w'.heap[b]? = w.heap[b]?
  frame : ∀ A, g A = none → ¬ N A → σ'.get A = σ.get A
  ro : ∀ A, σ.ro A → σ'.get A = σ.get A ∧ σ'.ro A
  next : σ.next ≤ σ'.next
  os : w'.os = w.os
  out : w'.output = w.output
  tape : w'.tape = w.tape
theorem TabW.ext {N : Nat → Prop} {g g' : Gam} {σ σ' : St} {w w' : World} (h : TabW g w) (hx : Ext N g g' σ σ' w w') : TabW g' w' :=
  h.step (fun b hb hne => hx.keep b hb fun A x hA e => (hne A x hA e).elim) fun A y hA => by
    cases e : g A with
    | some z => exact .inr ⟨A, z, e, by rw [Option.some.inj ((hx.le A z e).symm.trans hA)]⟩
    | none =>
      rcases hx.fresh A y hA e with k | ⟨A0, x0, k1, k2, _⟩
      · exact .inl k
      · exact .inr ⟨A0, x0, k1, k2⟩
theorem Ext.refl (N : Nat → Prop) (g : Gam) (σ : St) (w : World) : Ext N g g σ σ w w :=
  ⟨Gam.le_refl g, fun A x h h' => (by rw [h] at h'; cases h'), fun A x h h' => (by rw [h] at h'; cases h'), Nat.le_refl _, fun _ _ _ => rfl, fun _ _ _ => rfl, fun _ h => ⟨rfl, h⟩, Nat.le_refl _, rfl, rfl, rfl⟩
theorem Ext.trans {N : Nat → Prop} {g g1 g2 : Gam} {σ σ1 σ2 : St} {w w1 w2 : World} (h : Ext N g g1 σ σ1 w w1) (k : Ext N g1 g2 σ1 σ2 w1 w2) : Ext N g g2 σ σ2 w w2 := by
  refine ⟨Gam.le_trans h.le k.le, fun A x e e0 => ?_, fun A x e e0 => ?_, Nat.le_trans h.size k.size, fun b hb hall => ?_, fun A e hN => ?_, fun A hr => ?_, Nat.le_trans h.next k.next, k.os.trans h.os, k.out.trans h.out, k.tape.trans h.tape⟩
  · cases e1 : g1 A with
    | some y => exact h.new A y e1 e0
    | none => exact k.new A x e e1
  · cases e1 : g1 A with
    | some y =>
      have : y = x := Option.some.inj ((k.le A y e1).symm.trans e)
      subst this
      exact h.fresh A y e1 e0
    | none =>
      rcases k.fresh A x e e1 with h1 | ⟨A0, x0, a, b, c⟩
      · exact .inl (Nat.le_trans h.size h1)
      · cases e2 : g A0 with
        | some z =>
          have : z = x0 := Option.some.inj ((h.le A0 z e2).symm.trans a)
          subst this
          exact .inr ⟨A0, z, e2, b, fun hr => c (h.ro A0 hr).2⟩
        | none =>
          rcases h.fresh A0 x0 a e2 with h1 | ⟨A1, x1, a1, b1, c1⟩
          · exact .inl (b ▸ h1)
          · exact .inr ⟨A1, x1, a1, b1.trans b, c1⟩
  · have h1 := h.keep b hb hall
    refine (k.keep b (Nat.lt_of_lt_of_le hb h.size) (fun A x e eb => ?_)).trans h1
    cases e0 : g A with
    | some y =>
      have : y = x := Option.some.inj ((h.le A y e0).symm.trans e)
      subst this
      exact (h.ro A (hall A y e0 eb)).2
    | none =>
      rcases h.fresh A x e e0 with h2 | ⟨A0, x0, a, b0, c⟩
      · omega
      · exact (c (hall A0 x0 a (b0.trans eb))).elim
  · have e1 : g1 A = none := by
      cases e1 : g1 A with
      | none => rfl
      | some y => exact (hN (h.new A y e1 e)).elim
    exact (k.frame A e1 hN).trans (h.frame A e hN)
  · obtain ⟨a, b⟩ := h.ro A hr
    obtain ⟨c, d⟩ := k.ro A b
    exact ⟨c.trans a, d⟩
theorem Ext.mono {N N' : Nat → Prop} (hN : ∀ A, N A → N' A) {g g' : Gam} {σ σ' : St} {w w' : World} (h : Ext N g g' σ σ' w w') : Ext N' g g' σ σ' w w' :=
  ⟨h.le, fun A x a b => hN A (h.new A x a b), h.fresh, h.size, h.keep, fun A a b => h.frame A a (fun n => b (hN A n)), h.ro, h.next, h.os, h.out, h.tape⟩
theorem MRel.mono {g g' : Gam} (hg : Gam.le g g') {es : List (Value × Value × Nat)} {es' : Array MapEntry} (h : MRel g es es') : MRel g' es es' :=
  ⟨h.1, fun i h1 h2 => ⟨(h.2 i h1 h2).1.mono hg, (h.2 i h1 h2).2.1.mono hg, (h.2 i h1 h2).2.2⟩⟩
theorem Jg3.mono {g g' : Gam} {σ σ' : St} {w w' : World} {x : CA} {o : AObj} (hg : Gam.le g g') (hb : w'.heap[x.block]? = w.heap[x.block]?)
    (hr : ∀ own ver fam c, o = .cells own ver fam c → σ'.rd own ver fam = true → σ.rd own ver fam = true) (h : Jg3 g σ w x o) : Jg3 g' σ' w' x o := by
  cases o with
  | cells own ver fam c =>
    obtain ⟨cs, el, fr, h1, h2, h3, h4⟩ := h
    refine ⟨cs, el, fr, hb.trans h1, h2, fun hrd i hi => ?_, h4⟩
    obtain ⟨v', a, b⟩ := h3 (hr _ _ _ _ rfl hrd) i hi
    exact ⟨v', a, b.mono hg⟩
  | iter s pos => exact ⟨h.1, hb.trans h.2⟩
  | map es clock =>
    obtain ⟨es', h1, h2⟩ := h
    exact ⟨es', hb.trans h1, h2.mono hg⟩
theorem St.fam_eq {σ : St} {A : Nat} {own : Bool} {v F : Nat} {c : List Value} (h : σ.get A = some (.cells own v F c)) : σ.fam A = some F := by simp [St.fam, h]
theorem Rel.heap {g : Gam} {σ : St} {w w' : World} (h : Rel g σ w) (e : w'.heap = w.heap) : Rel g σ w' :=
  ⟨h.wf, fun A x a => by rw [e]; exact h.blk A x a,
    fun A x a => let ⟨o, b, c⟩ := h.obj A x a; ⟨o, b, Jg3.mono (Gam.le_refl g) (by rw [e]) (fun _ _ _ _ _ h => h) c⟩, h.share, h.order, h.tab.step (fun b _ _ => by rw [e]) fun A y h => .inr ⟨A, y, h, rfl⟩⟩
theorem Ext.heap {N : Nat → Prop} {g : Gam} {σ : St} {w w' : World} (e : w'.heap = w.heap) (h1 : w'.os = w.os) (h2 : w'.output = w.output) (h3 : w'.tape = w.tape) : Ext N g g σ σ w w' :=
  ⟨Gam.le_refl g, fun A x h h' => (by rw [h] at h'; cases h'), fun A x h h' => (by rw [h] at h'; cases h'), by rw [e]; exact Nat.le_refl _, fun _ _ _ => by rw [e], fun _ _ _ => rfl, fun _ h => ⟨rfl, h⟩, Nat.le_refl _, h1, h2, h3⟩
theorem Rel.bump {g : Gam} {σ : St} {w : World} (h : Rel g σ w) (n : Nat) : Rel g (σ.bump n) w :=
  ⟨h.wf.bump n, h.blk, fun A x a => let ⟨o, b, c⟩ := h.obj A x a; ⟨o, b, Jg3.mono (Gam.le_refl g) rfl (fun _ _ _ _ _ h => h) c⟩, h.share, h.order, h.tab⟩
theorem Ext.bump {N : Nat → Prop} (g : Gam) (σ : St) (w : World) (n : Nat) : Ext N g g σ (σ.bump n) w w :=
  ⟨Gam.le_refl g, fun A x h h' => (by rw [h] at h'; cases h'), fun A x h h' => (by rw [h] at h'; cases h'), Nat.le_refl _, fun _ _ _ => rfl, fun _ _ _ => rfl, fun _ h => ⟨rfl, h⟩, Nat.le_add_right _ _, rfl, rfl, rfl⟩
theorem St.rd_new {σ : St} (h : σ.Wf) {id : Nat} (hid : σ.get id = none) (ao : AObj) (own : Bool) (ver fam : Nat) : (σ.set id ao).rd own ver fam = σ.rd own ver fam := by
  unfold St.rd
  simp only [St.famO_set]
  cases hf : σ.famO fam with
  | none => rfl
  | some O =>
    obtain ⟨own', v', c', hO⟩ := h.named fam O hf
    have hne : id ≠ O := fun e => by subst e; rw [hid] at hO; cases hO
    simp [hne]
theorem St.Wf.new {σ : St} (h : σ.Wf) {id : Nat} (hid : σ.get id = none) (hlt : id < σ.next) (ao : AObj) (hf : ∀ own v F c, ao = .cells own v F c → F = id) : (σ.set id ao).Wf := by
  have nofam : ∀ X own v c, σ.get X = some (.cells own v id c) → False := fun X own v c e => by
    obtain ⟨o, ho⟩ := h.founder X own v id c e
    rw [hid] at ho; cases ho
  have noO : σ.famO id = none := by
    cases e : σ.famO id with
    | none => rfl
    | some O => obtain ⟨own, v, c, hO⟩ := h.named id O e; exact (nofam _ _ _ _ hO).elim
  have ne : ∀ {A : Nat} {o : AObj}, σ.get A = some o → id ≠ A := fun e e' => by subst e'; rw [hid] at e; cases e
  constructor
  · intro A o e
    simp only [St.get_set] at e
    split at e
    · subst_vars; exact hlt
    · exact h.lt A o e
  · intro A own v F c e
    simp only [St.get_set] at e ⊢
    split at e
    · have e' := Option.some.inj e
      have := hf _ _ _ _ e'
      subst this
      exact ⟨_, by rw [if_pos rfl]⟩
    · obtain ⟨o, ho⟩ := h.founder A own v F c e
      exact ⟨o, by rw [if_neg (ne ho)]; exact ho⟩
  · intro A v F c e
    simp only [St.get_set, St.famO_set] at e ⊢
    split at e
    · have e' := Option.some.inj e
      have := hf _ _ _ _ e'
      subst this; subst_vars
      refine .inr ⟨noO, fun X own v' c' hX => ?_⟩
      split at hX
      · subst_vars; rfl
      · exact (nofam _ _ _ _ hX).elim
    · rcases h.owner A v F c e with h1 | ⟨h1, h2⟩
      · exact .inl h1
      · refine .inr ⟨h1, fun X own v' c' hX => ?_⟩
        split at hX
        · subst_vars
          have := hf _ _ _ _ (Option.some.inj hX)
          subst this
          exact (nofam _ _ _ _ e).elim
        · exact h2 X own v' c' hX
  · intro F O e
    obtain ⟨own, v, c, hO⟩ := h.named F O e
    exact ⟨own, v, c, by simp only [St.get_set]; rw [if_neg (ne hO)]; exact hO⟩
  · intro F O X own v c own' v' c' e hO hX
    simp only [St.get_set, St.famO_set] at e hO hX
    obtain ⟨o1, w1, c1, hO'⟩ := h.named F O e
    rw [if_neg (ne hO')] at hO
    split at hX
    · subst_vars
      have := hf _ _ _ _ (Option.some.inj hX)
      subst this
      rw [noO] at e; cases e
    · exact h.stamp F O X own v c own' v' c' e hO hX
  · intro A n e
    obtain ⟨own, v, F, c, h1, h2⟩ := h.hint A n e
    exact ⟨own, v, F, c, by simp only [St.get_set]; rw [if_neg (ne h1)]; exact h1, h2⟩
def newW (w : World) (o : Obj) : World := { w with heap := w.heap.push o }
theorem Jfz (w : World) (o : Obj) (b : Nat) (h : b < w.heap.size) : (newW w o).heap[b]? = w.heap[b]? := by
  simp only [newW, Array.getElem?_push]; rw [if_neg (by omega)]
theorem Jja (w : World) (o : Obj) : (newW w o).heap[w.heap.size]? = some o := by simp only [newW, Array.getElem?_push, if_true]
theorem Jgk (w : World) (o : Obj) : (newW w o).heap.size = w.heap.size + 1 := by simp [newW]
theorem Rel.new {g : Gam} {σ : St} {w : World} (h : Rel g σ w) {id : Nat} (hid : σ.get id = none) (hlt : id < σ.next) (n : Nat) (ao : AObj) (o : Obj)
    (hf : ∀ own v F c, ao = .cells own v F c → F = id)
    (hs : Jg3 (g.add id ⟨w.heap.size, 0, n⟩) (σ.set id ao) (newW w o) ⟨w.heap.size, 0, n⟩ ao) :
    Rel (g.add id ⟨w.heap.size, 0, n⟩) (σ.set id ao) (newW w o) ∧ Ext (· = id) g (g.add id ⟨w.heap.size, 0, n⟩) σ (σ.set id ao) w (newW w o) := by
  have gid : g id = none := by
    cases e : g id with
    | none => rfl
    | some x => obtain ⟨o, ho, _⟩ := h.obj id x e; rw [hid] at ho; cases ho
  have hle := Gam.le_add (x := ⟨w.heap.size, 0, n⟩) gid
  have old : ∀ A x, (g.add id ⟨w.heap.size, 0, n⟩) A = some x → A ≠ id → g A = some x := fun A x e hA => by
    simpa [Gam.add, hA] using e
  constructor
  · refine ⟨h.wf.new hid hlt ao hf, ?_, ?_, ?_, ?_, h.tab.step (fun b hb _ => Jfz _ _ _ hb) fun A y e => by
      by_cases hA : A = id
      · subst hA; rw [Gam.add_self] at e; cases e; exact .inl (Nat.le_refl _)
      · exact .inr ⟨A, y, old A y e hA, rfl⟩⟩
    · intro A x e
      rw [Jgk]
      by_cases hA : A = id
      · subst hA; rw [Gam.add_self] at e; cases e; exact Nat.lt_succ_self _
      · have := h.blk A x (old A x e hA); omega
    · intro A x e
      by_cases hA : A = id
      · subst hA; rw [Gam.add_self] at e; cases e
        exact ⟨ao, by simp, hs⟩
      · obtain ⟨p, hp, hq⟩ := h.obj A x (old A x e hA)
        refine ⟨p, by simp only [St.get_set]; rw [if_neg (fun e => hA e.symm)]; exact hp, Jg3.mono hle (Jfz _ _ _ (h.blk A x (old A x e hA))) ?_ hq⟩
        intro own ver fam c _ hr
        rwa [St.rd_new h.wf hid] at hr
    · intro A x A' x' e e' eb
      by_cases hA : A = id
      · by_cases hA' : A' = id
        · exact .inl (hA.trans hA'.symm)
        · subst hA; rw [Gam.add_self] at e; cases e
          have := h.blk A' x' (old A' x' e' hA'); simp only at eb; omega
      · by_cases hA' : A' = id
        · subst hA'; rw [Gam.add_self] at e'; cases e'
          have := h.blk A x (old A x e hA); simp only at eb; omega
        · rcases h.share A x A' x' (old A x e hA) (old A' x' e' hA') eb with h1 | ⟨F, h1, h2⟩
          · exact .inl h1
          · refine .inr ⟨F, ?_, ?_⟩
            · unfold St.fam; simp only [St.get_set]; rw [if_neg (fun e => hA e.symm)]; exact h1
            · unfold St.fam; simp only [St.get_set]; rw [if_neg (fun e => hA' e.symm)]; exact h2
    · intro X x O y F v c own c' eX eO eb hne hfo hX hO
      have hOn : O ≠ id := fun e => by
        subst e
        simp only [St.famO_set] at hfo
        obtain ⟨_, _, _, hh⟩ := h.wf.named F O hfo
        rw [hid] at hh; cases hh
      have hXn : X ≠ id := fun e => by
        subst e
        rw [Gam.add_self] at eX; cases eX
        have := h.blk O y (old O y eO hOn); simp only at eb; omega
      simp only [St.get_set, St.famO_set] at hX hO hfo
      rw [if_neg (fun e => hXn e.symm)] at hX
      rw [if_neg (fun e => hOn e.symm)] at hO
      exact h.order X x O y F v c own c' (old X x eX hXn) (old O y eO hOn) eb hne hfo hX hO
  · refine ⟨hle, ?_, ?_, by rw [Jgk]; omega, fun b hb _ => Jfz _ _ _ hb, ?_, ?_, Nat.le_refl _, rfl, rfl, rfl⟩
    · intro A x e e0
      by_cases hA : A = id
      · exact hA
      · rw [old A x e hA] at e0; cases e0
    · intro A x e e0
      by_cases hA : A = id
      · subst hA; rw [Gam.add_self] at e; cases e; exact .inl (Nat.le_refl _)
      · rw [old A x e hA] at e0; cases e0
    · intro A _ hn
      simp only [St.get_set]; rw [if_neg (fun e => hn e.symm)]
    · rintro A ⟨ver, fam, c, hA, hfo⟩
      have hne : id ≠ A := fun e => by subst e; rw [hid] at hA; cases hA
      exact ⟨by simp [hne], ver, fam, c, by simp [hne, hA], hfo⟩
theorem Rel.newCells {g : Gam} {σ : St} {w : World} (h : Rel g σ w) {id : Nat} (hid : σ.get id = none) (hlt : id < σ.next) (c : List Value) (cs : Array Value) (el : TypeId)
    (hn : c.length ≤ cs.size) (hv : ∀ i (h : i < c.length) (h' : i < cs.size), VRel g c[i] cs[i]) :
    Rel (g.add id ⟨w.heap.size, 0, cs.size⟩) (σ.set id (.cells true 0 id c)) (newW w (.cells cs el)) ∧ Ext (· = id) g (g.add id ⟨w.heap.size, 0, cs.size⟩) σ (σ.set id (.cells true 0 id c)) w (newW w (.cells cs el)) := by
  have gid : g id = none := by
    cases e : g id with
    | none => rfl
    | some x => obtain ⟨o, ho, _⟩ := h.obj id x e; rw [hid] at ho; cases ho
  refine h.new hid hlt cs.size _ _ (fun own v F c' e => by cases e; rfl) ⟨cs, el, (0, 0), Jja _ _, rfl, fun _ i hi => ?_, fun _ i _ => by simp⟩
  have hi' : i < cs.size := by omega
  exact ⟨cs[i], by simp [hi'], (hv i hi hi').mono (Gam.le_add gid)⟩
theorem Jna {w : World} {b : Nat} {cs : Array Value} {el : TypeId} {fr : Nat × Nat} (h : w.heap[b]? = some (.cells cs el fr)) (i : Nat) : w.cell? ⟨b, i, none⟩ = cs[i]? := by
  simp [World.cell?, h]
theorem Jq8 {w : World} {b : Nat} {cs : Array Value} {el : TypeId} {fr : Nat × Nat} (h : w.heap[b]? = some (.cells cs el fr)) (i : Nat) : w.frozen? ⟨b, i, none⟩ = (decide (fr.1 ≤ i) && decide (i < fr.2)) := by
  simp [World.frozen?, h]
theorem Jlp (b o i : Nat) : (⟨b, o, none⟩ : Addr).add i = ⟨b, o + i, none⟩ := by unfold Addr.add; split <;> simp_all
theorem getD_lt (c : List Value) (i : Nat) (h : i < c.length) : c.getD i undef = c[i] := by simp [List.getD, h]
def St.cells? (σ : St) (A : Nat) : Option (List Value) :=
  match σ.get A with
  | some (.cells own ver fam c) => if σ.rd own ver fam then some c else none
  | _ => none
def sub? (c : List Value) (o n : Nat) : Option (List Value) := if o + n ≤ c.length then some ((c.drop o).take n) else none
def St.read? (σ : St) (A o n : Nat) : Option (List Value) := (σ.cells? A).bind fun c => sub? c o n
theorem Rel.cells {g : Gam} {σ : St} {w : World} (h : Rel g σ w) {A : Nat} {x : CA} (hx : g A = some x) {c : List Value} (hc : σ.cells? A = some c) :
    ∃ cs el fr, w.heap[x.block]? = some (.cells cs el fr) ∧ cs.size = x.size ∧ ∀ i (h : i < c.length), ∃ v', cs[x.base + i]? = some v' ∧ VRel g c[i] v' := by
  obtain ⟨o, ho, hs⟩ := h.obj A x hx
  unfold St.cells? at hc
  rw [ho] at hc
  cases o with
  | cells own ver fam c0 =>
    simp only at hc
    split at hc
    · cases hc
      obtain ⟨cs, el, fr, h1, h2, h3, _⟩ := hs
      exact ⟨cs, el, fr, h1, h2, h3 (by assumption)⟩
    · cases hc
  | iter s pos => cases hc
  | map es clock => cases hc
theorem Rel.readC {g : Gam} {σ : St} {w : World} (h : Rel g σ w) {A o n : Nat} {x : CA} (hx : g A = some x) {l : List Value} (hr : σ.read? A o n = some l) :
    ∃ vs : List Value, vs.length = n ∧ l.length = n ∧ (∀ j v, vs[j]? = some v → w.cell? ((⟨x.block, x.base + o, none⟩ : Addr).add j) = some v) ∧ ∀ i (h : i < l.length) (h' : i < vs.length), VRel g l[i] vs[i] := by
  unfold St.read? at hr
  cases hc : σ.cells? A with
  | none => rw [hc] at hr; cases hr
  | some c =>
    rw [hc] at hr
    simp only [Option.bind_some, sub?] at hr
    split at hr
    · rename_i hle
      cases hr
      obtain ⟨cs, el, fr, h1, h2, h3⟩ := h.cells hx hc
      have hlen : ((c.drop o).take n).length = n := by simp; omega
      let f : Nat → Value := fun i => cs.getD (x.base + (o + i)) undef
      have hf : ∀ i, i < n → cs[x.base + (o + i)]? = some (f i) ∧ VRel g (c.getD (o + i) undef) (f i) := by
        intro i hi
        obtain ⟨v', a, b⟩ := h3 (o + i) (by omega)
        have e : f i = v' := by simp [f, a]
        rw [e]
        exact ⟨a, by rw [getD_lt _ _ (by omega)]; exact b⟩
      refine ⟨(List.range n).map f, by simp, hlen, ?_, ?_⟩
      · intro j v hj
        have hjn : j < n := by have := (List.getElem?_eq_some_iff.1 hj).1; simpa using this
        have e : v = f j := by simpa [hjn] using hj.symm
        rw [Jlp, Jna h1, Nat.add_assoc, e]; exact (hf j hjn).1
      · intro i hi hi'
        have hin : i < n := by omega
        have := (hf i hin).2
        rw [getD_lt _ _ (by omega)] at this
        simpa using this
    · cases hr
theorem Rel.read {P : Program} {g : Gam} {σ : St} {w : World} (h : Rel g σ w) {A o n : Nat} {x : CA} (hx : g A = some x) {l : List Value} (hr : σ.read? A o n = some l) :
    ∃ vs : List Value, vs.length = n ∧ l.length = n ∧ (loadCells ⟨x.block, x.base + o, none⟩ n).run P w = .ok vs.toArray w ∧ ∀ i (h : i < l.length) (h' : i < vs.length), VRel g l[i] vs[i] := by
  obtain ⟨vs, e1, e2, e3, e4⟩ := h.readC hx hr
  refine ⟨vs, e1, e2, ?_, e4⟩
  have := run_loadCells_list (P := P) w _ vs e3
  rwa [e1] at this
theorem Rel.readW {P : Program} {g : Gam} {σ : St} {w : World} (h : Rel g σ w) {A o n : Nat} {x : CA} (hx : g A = some x) {l : List Value} (hr : σ.read? A o n = some l) :
    ∃ vs : List Value, vs.length = n ∧ l.length = n ∧ (∀ w2 : World, w2.heap = w.heap → (loadCells ⟨x.block, x.base + o, none⟩ n).run P w2 = .ok vs.toArray w2) ∧ ∀ i (h : i < l.length) (h' : i < vs.length), VRel g l[i] vs[i] := by
  obtain ⟨vs, e1, e2, e3, e4⟩ := h.readC hx hr
  refine ⟨vs, e1, e2, fun w2 hw => ?_, e4⟩
  have := run_loadCells_list (P := P) w2 _ vs (fun j v hj => by have := e3 j v hj; simpa [World.cell?, hw] using this)
  rwa [e1] at this
def layA (cs : Array Value) (o : Nat) : List Value → Array Value
  | [] => cs
  | v :: r => layA (cs.setIfInBounds o v) (o + 1) r
def lay (c : List Value) (o : Nat) (vs : List Value) : List Value := c.take o ++ vs ++ c.drop (o + vs.length)
theorem Jkk (vs : List Value) : ∀ (cs : Array Value) (o : Nat), (layA cs o vs).size = cs.size := by
  induction vs with
  | nil => intro cs o; rfl
  | cons v r ih => intro cs o; simp [layA, ih]
theorem Jkl (vs : List Value) : ∀ (cs : Array Value) (o i : Nat), (i < o ∨ o + vs.length ≤ i) → (layA cs o vs)[i]? = cs[i]? := by
  induction vs with
  | nil => intro cs o i _; rfl
  | cons v r ih =>
    intro cs o i h
    simp only [layA, List.length_cons] at h ⊢
    rw [ih _ _ _ (by omega)]
    simp only [Array.getElem?_setIfInBounds]
    rw [if_neg (by omega)]
theorem Kfe (vs : List Value) : ∀ (cs : Array Value) (o i : Nat) (h : i < vs.length), o + vs.length ≤ cs.size → (layA cs o vs)[o + i]? = some vs[i] := by
  induction vs with
  | nil => intro cs o i h _; simp at h
  | cons v r ih =>
    intro cs o i h hs
    simp only [layA, List.length_cons] at h hs ⊢
    cases i with
    | zero =>
      rw [Jkl _ _ _ _ (by omega)]
      simp only [Nat.add_zero, Array.getElem?_setIfInBounds]
      simp; omega
    | succ i =>
      have := ih (cs.setIfInBounds o v) (o + 1) i (by omega) (by simp; omega)
      rw [show o + (i + 1) = o + 1 + i by omega, this]
      simp
theorem Jgl (c : List Value) (o : Nat) (vs : List Value) (h : o + vs.length ≤ c.length) : (lay c o vs).length = c.length := by
  simp [lay]; omega
theorem Kq4 (c : List Value) (o : Nat) (vs : List Value) (h : o + vs.length ≤ c.length) (i : Nat) :
    (lay c o vs)[i]? = if i < o then c[i]? else if i < o + vs.length then vs[i - o]? else c[i]? := by
  unfold lay
  have h1 : (c.take o).length = o := by simp; omega
  by_cases a : i < o
  · rw [if_pos a, List.append_assoc, List.getElem?_append_left (by omega)]
    simp [a]
  · rw [if_neg a, List.append_assoc, List.getElem?_append_right (by omega), h1]
    by_cases b : i < o + vs.length
    · rw [if_pos b, List.getElem?_append_left (by omega)]
    · rw [if_neg b, List.getElem?_append_right (by omega)]
      simp only [List.getElem?_drop]
      congr 1; omega
theorem Jdx (b : Nat) : ∀ (vs : List Value) (o : Nat) (w : World) (cs : Array Value) (el : TypeId) (fr : Nat × Nat), w.heap[b]? = some (.cells cs el fr) →
    (w.setCells b o vs).heap[b]? = some (.cells (layA cs o vs) el fr)
  | [], _, _, _, _, _, h => h
  | v :: r, o, w, cs, el, fr, h => by
    simp only [World.setCells, layA]
    refine Jdx b r (o + 1) _ _ el fr ?_
    simp [World.setCell, Array.getElem?_modify, h]
theorem Jdk (b : Nat) : ∀ (vs : List Value) (o : Nat) (w : World) (b' : Nat), b' ≠ b → (w.setCells b o vs).heap[b']? = w.heap[b']?
  | [], _, _, _, _ => rfl
  | v :: r, o, w, b', h => by
    simp only [World.setCells]
    rw [Jdk b r (o + 1) _ b' h]
    simp only [World.setCell, Array.getElem?_modify]
    rw [if_neg (fun e => h e.symm)]
theorem Jg8 (b : Nat) : ∀ (vs : List Value) (o : Nat) (w : World), (w.setCells b o vs).heap.size = w.heap.size ∧ (w.setCells b o vs).os = w.os ∧ (w.setCells b o vs).output = w.output ∧ (w.setCells b o vs).tape = w.tape
  | [], _, _ => ⟨rfl, rfl, rfl, rfl⟩
  | v :: r, o, w => by
    obtain ⟨a, b', c, d⟩ := Jg8 b r (o + 1) (w.setCell ⟨b, o, none⟩ v)
    simp only [World.setCells]
    exact ⟨a.trans (by simp [World.setCell]), b', c, d⟩
theorem St.rd_own {σ : St} (ver F : Nat) : σ.rd true ver F = true := rfl
theorem St.Wf.store {σ : St} (h : σ.Wf) {A ver F : Nat} {c : List Value} (hA : σ.get A = some (.cells true ver F c)) (c' : List Value) (hl : c'.length = c.length) : (σ.set A (.cells true (ver + 1) F c')).Wf := by
  have hO : ∀ O, σ.famO F = some O → O = A := fun O e => by
    rcases h.owner A ver F c hA with h1 | ⟨h1, _⟩
    · rw [h1] at e; exact (Option.some.inj e).symm
    · rw [h1] at e; cases e
  constructor
  · intro B o e
    simp only [St.get_set] at e
    split at e
    · subst_vars; exact h.lt _ _ hA
    · exact h.lt B o e
  · intro B own v F' c0 e
    simp only [St.get_set] at e ⊢
    have : ∃ o, σ.get F' = some o := by
      split at e
      · cases e; exact h.founder _ _ _ _ _ hA
      · exact h.founder _ _ _ _ _ e
    obtain ⟨o, ho⟩ := this
    by_cases e2 : A = F'
    · exact ⟨_, if_pos e2⟩
    · exact ⟨o, by rw [if_neg e2]; exact ho⟩
  · intro B v F' c0 e
    simp only [St.get_set, St.famO_set] at e ⊢
    have key : σ.famO F' = some B ∨ (σ.famO F' = none ∧ ∀ X own v' c', σ.get X = some (.cells own v' F' c') → X = B) := by
      split at e
      · cases e; subst_vars; exact h.owner _ _ _ _ hA
      · exact h.owner _ _ _ _ e
    rcases key with k | ⟨k1, k2⟩
    · exact .inl k
    · refine .inr ⟨k1, fun X own v' c1 e1 => ?_⟩
      split at e1
      · cases e1; subst_vars; exact k2 _ _ _ _ hA
      · exact k2 _ _ _ _ e1
  · intro F' O e
    obtain ⟨own, v, c0, hh⟩ := h.named F' O e
    simp only [St.get_set]
    by_cases e2 : A = O
    · subst e2; rw [hA] at hh; cases hh; exact ⟨_, _, _, if_pos rfl⟩
    · exact ⟨own, v, c0, by rw [if_neg e2]; exact hh⟩
  · intro F' O X own v c0 own' v' c1 e hO' hX
    simp only [St.get_set, St.famO_set] at e hO' hX
    split at hO'
    · cases hO'
      subst_vars
      split at hX
      · cases hX; exact Nat.le_refl _
      · exact Nat.le_succ_of_le (h.stamp _ _ _ _ _ _ _ _ _ e hA hX)
    · split at hX
      · cases hX
        rename_i hne _
        exact (hne (hO O e).symm).elim
      · exact h.stamp _ _ _ _ _ _ _ _ _ e hO' hX
  · intro B n e
    obtain ⟨own, v, F', c0, h1, h2⟩ := h.hint B n e
    simp only [St.get_set]
    by_cases e2 : A = B
    · subst e2
      rw [hA] at h1; cases h1
      exact ⟨_, _, _, _, if_pos rfl, by rw [hl]; exact h2⟩
    · exact ⟨own, v, F', c0, by rw [if_neg e2]; exact h1, h2⟩
theorem St.rd_store {σ : St} (h : σ.Wf) {A ver F : Nat} {c : List Value} (hA : σ.get A = some (.cells true ver F c)) (c' : List Value) {X : Nat} (hne : X ≠ A) {own : Bool} {v F' : Nat} {c0 : List Value}
    (hX : σ.get X = some (.cells own v F' c0)) (hr : (σ.set A (.cells true (ver + 1) F c')).rd own v F' = true) : F' ≠ F ∧ σ.rd own v F' = true := by
  have hown : F' = F → own = false ∧ σ.famO F = some A := fun e => by
    subst e
    cases own with
    | false =>
      rcases h.owner A ver F' c hA with h1 | ⟨_, h2⟩
      · exact ⟨rfl, h1⟩
      · exact (hne (h2 X _ _ _ hX)).elim
    | true =>
      rcases h.owner X v F' c0 hX with h1 | ⟨_, h2⟩
      · rcases h.owner A ver F' c hA with k1 | ⟨k1, _⟩
        · rw [h1] at k1; exact (hne (Option.some.inj k1)).elim
        · rw [h1] at k1; cases k1
      · exact (hne (h2 A _ _ _ hA).symm).elim
  have hF : F' ≠ F := fun e => by
    obtain ⟨e1, e2⟩ := hown e
    subst e e1
    unfold St.rd at hr
    simp only [St.famO_set, e2, St.get_set, if_true, Bool.false_or, beq_iff_eq] at hr
    have := h.stamp _ _ _ _ _ _ _ _ _ e2 hA hX
    omega
  refine ⟨hF, ?_⟩
  unfold St.rd at hr ⊢
  simp only [St.famO_set] at hr
  cases hf : σ.famO F' with
  | none => rw [hf] at hr; exact hr
  | some O =>
    rw [hf] at hr
    have : A ≠ O := fun e => by
      subst e
      obtain ⟨_, _, _, hh⟩ := h.named F' A hf
      rw [hA] at hh; cases hh; exact hF rfl
    simp only [St.get_set] at hr
    rwa [if_neg this] at hr
theorem Jnr {g : Gam} {v v' : Value} (h : VRel g v v') : v'.oneCell' = v.oneCell' := by cases h <;> rfl
theorem Rel.store {P : Program} {g : Gam} {σ : St} {w : World} (h : Rel g σ w) {A o ver F : Nat} {x : CA} {c vs vs' : List Value} (hx : g A = some x)
    (hA : σ.get A = some (.cells true ver F c)) (hlen : o + vs.length ≤ c.length) (hl : vs'.length = vs.length) (hv : ∀ i (h : i < vs.length) (h' : i < vs'.length), VRel g vs[i] vs'[i])
    (h1 : ∀ v ∈ vs, v.oneCell' = true) :
    (storeCells ⟨x.block, x.base + o, none⟩ vs').run P w = .ok () (w.setCells x.block (x.base + o) vs') ∧
    Rel g (σ.set A (.cells true (ver + 1) F (lay c o vs))) (w.setCells x.block (x.base + o) vs') ∧
    Ext (fun _ => False) g g σ (σ.set A (.cells true (ver + 1) F (lay c o vs))) w (w.setCells x.block (x.base + o) vs') := by
  obtain ⟨ob, hob, hsays⟩ := h.obj A x hx
  rw [hA] at hob
  cases hob
  obtain ⟨cs, el, fr, hb, hsz, hcont, hfr⟩ := hsays
  have hcont := hcont rfl
  have hfr := hfr rfl
  have hin : ∀ i, i < c.length → x.base + i < cs.size := fun i hi => by
    obtain ⟨v', a, _⟩ := hcont i hi
    exact (Array.getElem?_eq_some_iff.1 a).1
  have hroom : x.base + o + vs'.length ≤ cs.size ∨ vs' = [] := by
    cases vs' with
    | nil => exact .inr rfl
    | cons v r =>
      left
      have := hin (o + (v :: r).length - 1) (by simp at hl ⊢; omega)
      simp at this ⊢; omega
  obtain ⟨r1, r2, r3, r4⟩ := Jg8 x.block vs' (x.base + o) w
  refine ⟨?_, ?_, ?_⟩
  · have := run_storeCells_cells (P := P) x.block (x.base + o) vs' 0 w (fun j hj => by
        rw [Nat.add_zero, Jna hb]
        rcases hroom with hroom | hroom
        · rw [Array.getElem?_eq_getElem (by omega)]; rfl
        · subst hroom; simp at hj)
      (fun j hj => by
        rw [Nat.add_zero, Jq8 hb]
        rcases hroom with hroom | hroom
        · have := hfr (x.base + o + j) (by omega)
          by_cases e1 : fr.1 ≤ x.base + o + j
          · have e2 : ¬ x.base + o + j < fr.2 := fun e => this ⟨e1, e⟩
            simp [e2]
          · simp [e1]
        · subst hroom; simp at hj)
      (fun v hv' => by
        obtain ⟨i, hi, rfl⟩ := List.getElem_of_mem hv'
        rw [Jnr (hv i (by omega) hi)]
        exact h1 _ (by simp))
    simpa using this
  · refine ⟨h.wf.store hA _ (Jgl c o vs (by omega)), fun B y e => by rw [r1]; exact h.blk B y e, ?_, ?_, ?_, h.tab.step (fun b hb hne => Jdk _ _ _ _ _ (fun e => hne A x hx e.symm)) fun A y h => .inr ⟨A, y, h, rfl⟩⟩
    · intro B y e
      by_cases hB : B = A
      · subst hB
        rw [hx] at e; cases e
        refine ⟨.cells true (ver + 1) F (lay c o vs), by simp, layA cs (x.base + o) vs', el, fr, Jdx _ _ _ _ _ _ _ hb, by rw [Jkk]; exact hsz, fun _ i hi => ?_, fun _ => hfr⟩
        rw [Jgl _ _ _ hlen] at hi
        have hg := Kq4 c o vs hlen i
        by_cases a : i < o
        · rw [if_pos a] at hg
          obtain ⟨v', p, q⟩ := hcont i hi
          refine ⟨v', by rw [Jkl _ _ _ _ (.inl (by omega))]; exact p, ?_⟩
          rw [List.getElem?_eq_getElem (by rw [Jgl _ _ _ hlen]; exact hi), List.getElem?_eq_getElem hi] at hg
          rw [Option.some.inj hg]; exact q
        · rw [if_neg a] at hg
          by_cases b : i < o + vs.length
          · rw [if_pos b] at hg
            have hi2 : i - o < vs'.length := by omega
            refine ⟨vs'[i - o], ?_, ?_⟩
            · have := Kfe vs' cs (x.base + o) (i - o) hi2 (by rcases hroom with q | q; exact q; subst q; simp at hi2)
              rw [show x.base + i = x.base + o + (i - o) by omega]; exact this
            · rw [List.getElem?_eq_getElem (by rw [Jgl _ _ _ hlen]; exact hi), List.getElem?_eq_getElem (by omega)] at hg
              rw [Option.some.inj hg]; exact hv _ _ _
          · rw [if_neg b] at hg
            obtain ⟨v', p, q⟩ := hcont i hi
            refine ⟨v', by rw [Jkl _ _ _ _ (.inr (by omega))]; exact p, ?_⟩
            rw [List.getElem?_eq_getElem (by rw [Jgl _ _ _ hlen]; exact hi), List.getElem?_eq_getElem hi] at hg
            rw [Option.some.inj hg]; exact q
      · obtain ⟨ob, hob, hs⟩ := h.obj B y e
        refine ⟨ob, by simp only [St.get_set]; rw [if_neg (fun e => hB e.symm)]; exact hob, ?_⟩
        by_cases hblk : y.block = x.block
        · rcases h.share B y A x e hx hblk with e1 | ⟨F', e1, e2⟩
          · exact (hB e1).elim
          · rw [St.fam_eq hA] at e2; cases e2
            cases ob with
            | iter s pos => simp [St.fam, hob] at e1
            | map es cl => simp [St.fam, hob] at e1
            | cells own v F2 c2 =>
              rw [St.fam_eq hob] at e1; cases e1
              obtain ⟨cs2, el2, fr2, k1, k2, k3, k4⟩ := hs
              rw [hblk, hb] at k1; cases k1
              refine ⟨_, el, fr, by rw [hblk]; exact Jdx _ _ _ _ _ _ _ hb, by rw [Jkk]; exact k2, fun hr => ?_, k4⟩
              exact ((St.rd_store h.wf hA _ hB hob hr).1 rfl).elim
        · refine Jg3.mono (Gam.le_refl g) (Jdk _ _ _ _ _ hblk) ?_ hs
          intro own ver2 fam2 c2 eo hr
          subst eo
          exact (St.rd_store h.wf hA _ hB hob hr).2
    · intro B y B' y' e e' eb
      have fam_same : ∀ B, (σ.set A (.cells true (ver + 1) F (lay c o vs))).fam B = σ.fam B := fun B => by
        unfold St.fam; simp only [St.get_set]
        by_cases e : A = B
        · subst e; rw [if_pos rfl, hA]
        · rw [if_neg e]
      rcases h.share B y B' y' e e' eb with k | ⟨F', k1, k2⟩
      · exact .inl k
      · exact .inr ⟨F', by rw [fam_same]; exact k1, by rw [fam_same]; exact k2⟩
    · intro X y O z F' v c1 own c2 eX eO eb hne hfo hX hO
      simp only [St.get_set, St.famO_set] at hX hO hfo
      split at hX
      · cases hX
      · rename_i hXA
        split at hO
        · cases hO
          subst_vars
          have := h.wf.stamp _ _ _ _ _ _ _ _ _ hfo hA hX
          omega
        · exact h.order X y O z F' v c1 own c2 eX eO eb hne hfo hX hO
  · refine ⟨Gam.le_refl g, fun B y e e0 => (by rw [e] at e0; cases e0), fun B y e e0 => (by rw [e] at e0; cases e0), by rw [r1]; exact Nat.le_refl _, ?_, ?_, ?_, Nat.le_refl _, r2, r3, r4⟩
    · intro b hb' hall
      refine Jdk _ _ _ _ _ (fun e => ?_)
      obtain ⟨v, f, cc, k, _⟩ := hall A x hx e.symm
      rw [hA] at k; cases k
    · intro B e _
      simp only [St.get_set]
      rw [if_neg (fun e2 => by subst e2; rw [hx] at e; cases e)]
    · rintro B ⟨v, f, cc, k, kf⟩
      have : A ≠ B := fun e => by subst e; rw [hA] at k; cases k
      exact ⟨by simp [this], v, f, cc, by simp [this, k], kf⟩
def Jj8 (σ : St) (A id ver F : Nat) (c : List Value) (off q : Nat) (nc : List Value) : St :=
  let ver' := if q = c.length then ver else ver + 1
  ((((σ.set A (.cells false ver' F (c.take q))).set id (.cells true ver' F ((c.take q).drop off ++ nc))).setFam F id).setHint A q).setHint id (q - off + nc.length)
section app
variable {σ : St} {A id ver F off q : Nat} {c nc : List Value}
theorem Jcg (hid : σ.get id = none) (hA : σ.get A = some (.cells true ver F c)) (B : Nat) :
    (Jj8 σ A id ver F c off q nc).get B = if B = id then some (.cells true (if q = c.length then ver else ver + 1) F ((c.take q).drop off ++ nc))
      else if B = A then some (.cells false (if q = c.length then ver else ver + 1) F (c.take q)) else σ.get B := by
  unfold Jj8
  simp only [St.get_setHint, St.get_setFam, St.get_set]
  by_cases e : B = id
  · subst e; simp
  · rw [if_neg (fun h => e h.symm), if_neg e]
    by_cases e2 : B = A
    · subst e2; simp
    · rw [if_neg (fun h => e2 h.symm), if_neg e2]
theorem Jej (F' : Nat) : (Jj8 σ A id ver F c off q nc).famO F' = if F' = F then some id else σ.famO F' := by
  unfold Jj8
  simp only [St.famO_setHint, St.famO_setFam, St.famO_set]
  by_cases e : F = F'
  · simp [e]
  · rw [if_neg e, if_neg (fun h => e h.symm)]
theorem Jiq (h : σ.Wf) (hA : σ.get A = some (.cells true ver F c)) {X : Nat} {own : Bool} {v : Nat} {c0 : List Value} (hX : σ.get X = some (.cells own v F c0)) (hne : X ≠ A) :
    own = false ∧ σ.famO F = some A ∧ v ≤ ver := by
  rcases h.owner A ver F c hA with h1 | ⟨h1, h2⟩
  · cases own with
    | false => exact ⟨rfl, h1, h.stamp _ _ _ _ _ _ _ _ _ h1 hA hX⟩
    | true =>
      rcases h.owner X v F c0 hX with k1 | ⟨k1, k2⟩
      · rw [h1] at k1; exact (hne (Option.some.inj k1).symm).elim
      · rw [h1] at k1; cases k1
  · exact (hne (h2 X _ _ _ hX)).elim
theorem Jog (h : σ.Wf) (hid : σ.get id = none) (hA : σ.get A = some (.cells true ver F c)) : F ≠ id ∧ A ≠ id := by
  refine ⟨fun e => ?_, fun e => ?_⟩
  · obtain ⟨o, ho⟩ := h.founder _ _ _ _ _ hA
    subst e; rw [hid] at ho; cases ho
  · subst e; rw [hid] at hA; cases hA
theorem Jyg (B : Nat) : (Jj8 σ A id ver F c off q nc).hintO B = if id = B then some (q - off + nc.length) else if A = B then some q else σ.hintO B := by
  unfold Jj8
  simp only [St.hintO_setHint, St.hintO_setFam, St.hintO_set]
theorem St.Wf.app (h : σ.Wf) (hid : σ.get id = none) (hlt : id < σ.next) (hA : σ.get A = some (.cells true ver F c)) (hq : q ≤ c.length) : (Jj8 σ A id ver F c off q nc).Wf := by
  obtain ⟨hFid, hAid⟩ := Jog h hid hA
  constructor
  · intro B o e
    rw [Jcg hid hA] at e
    split at e
    · subst_vars; exact hlt
    · split at e
      · subst_vars; exact h.lt _ _ hA
      · exact h.lt B o e
  · intro B own v F' c0 e
    rw [Jcg hid hA] at e
    have : ∃ o, σ.get F' = some o := by
      split at e
      · cases e; exact h.founder _ _ _ _ _ hA
      · split at e
        · cases e; exact h.founder _ _ _ _ _ hA
        · exact h.founder _ _ _ _ _ e
    obtain ⟨o, ho⟩ := this
    rw [Jcg hid hA]
    by_cases e1 : F' = id
    · exact ⟨_, if_pos e1⟩
    · rw [if_neg e1]
      by_cases e2 : F' = A
      · exact ⟨_, if_pos e2⟩
      · rw [if_neg e2]; exact ⟨o, ho⟩
  · intro B v F' c0 e
    rw [Jcg hid hA] at e
    rw [Jej]
    split at e
    · cases e; subst_vars; exact .inl (if_pos rfl)
    · rename_i hBid
      split at e
      · cases e
      · rename_i hBA
        have hF' : F' ≠ F := fun e2 => by
          subst e2
          have := (Jiq h hA e hBA).1
          cases this
        rw [if_neg hF']
        rcases h.owner B v F' c0 e with k | ⟨k1, k2⟩
        · exact .inl k
        · refine .inr ⟨k1, fun X own v' c' eX => ?_⟩
          rw [Jcg hid hA] at eX
          split at eX
          · cases eX; exact (hF' rfl).elim
          · split at eX
            · cases eX; exact (hF' rfl).elim
            · exact k2 X own v' c' eX
  · intro F' O e
    rw [Jej] at e
    split at e
    · cases e; subst_vars; exact ⟨_, _, _, by rw [Jcg hid hA, if_pos rfl]⟩
    · rename_i hF'
      obtain ⟨own, v, c0, hh⟩ := h.named F' O e
      refine ⟨own, v, c0, ?_⟩
      rw [Jcg hid hA, if_neg (fun e2 => by subst e2; rw [hid] at hh; cases hh), if_neg (fun e2 => by subst e2; rw [hA] at hh; cases hh; exact hF' rfl)]
      exact hh
  · intro F' O X own v c0 own' v' c1 e hO hX
    rw [Jej] at e
    rw [Jcg hid hA] at hO hX
    split at e
    · cases e
      rw [if_pos rfl] at hO
      cases hO
      split at hX
      · cases hX; exact Nat.le_refl _
      · split at hX
        · cases hX; exact Nat.le_refl _
        · rename_i hXA
          subst_vars
          have := (Jiq h hA hX hXA).2.2
          split <;> omega
    · rename_i hF'
      split at hO
      · cases hO; exact (hF' rfl).elim
      · split at hO
        · cases hO; exact (hF' rfl).elim
        · split at hX
          · cases hX; exact (hF' rfl).elim
          · split at hX
            · cases hX; exact (hF' rfl).elim
            · exact h.stamp _ _ _ _ _ _ _ _ _ e hO hX
  · intro B n e
    rw [Jyg] at e
    split at e
    · cases e; subst_vars
      refine ⟨_, _, _, _, by rw [Jcg hid hA, if_pos rfl], ?_⟩
      simp; omega
    · rename_i hB
      split at e
      · cases e; subst_vars
        refine ⟨_, _, _, _, by rw [Jcg hid hA, if_neg (fun e2 => hB e2.symm), if_pos rfl], ?_⟩
        simp; omega
      · rename_i hB2
        obtain ⟨own, v, F', c0, h1, h2⟩ := h.hint B n e
        exact ⟨own, v, F', c0, by rw [Jcg hid hA, if_neg (fun e2 => hB e2.symm), if_neg (fun e2 => hB2 e2.symm)]; exact h1, h2⟩
theorem Kpv (h : σ.Wf) (hid : σ.get id = none) (hA : σ.get A = some (.cells true ver F c)) {X : Nat} (hne : X ≠ A) {own : Bool} {v F' : Nat} {c0 : List Value}
    (hX : σ.get X = some (.cells own v F' c0)) (hr : (Jj8 σ A id ver F c off q nc).rd own v F' = true) : σ.rd own v F' = true ∧ (F' = F → own = false ∧ σ.famO F = some A ∧ v = ver ∧ q = c.length) := by
  by_cases hF : F' = F
  · subst hF
    obtain ⟨e1, e2, e3⟩ := Jiq h hA hX hne
    subst e1
    unfold St.rd at hr ⊢
    rw [Jej, if_pos rfl] at hr
    simp only [Jcg hid hA, if_true, Bool.false_or, beq_iff_eq] at hr
    have hq : q = c.length ∧ v = ver := by
      split at hr
      · exact ⟨by assumption, hr.symm⟩
      · omega
    obtain ⟨hq, hv⟩ := hq
    subst hv
    simp [e2, hA, hq]
  · refine ⟨?_, fun e => (hF e).elim⟩
    unfold St.rd at hr ⊢
    rw [Jej, if_neg hF] at hr
    cases hf : σ.famO F' with
    | none => rw [hf] at hr; exact hr
    | some O =>
      rw [hf] at hr
      obtain ⟨_, _, _, hh⟩ := h.named F' O hf
      simp only [] at hr
      rw [Jcg hid hA, if_neg (fun e2 => by subst e2; rw [hid] at hh; cases hh), if_neg (fun e2 => by subst e2; rw [hA] at hh; cases hh; exact hF rfl)] at hr
      exact hr
end app
theorem Rel.appCore {g : Gam} {σ : St} {w w' : World} (h : Rel g σ w) {A id ver F off q : Nat} {c nc : List Value} {x : CA} (hid : σ.get id = none) (hlt : id < σ.next) (hx : g A = some x)
    (hA : σ.get A = some (.cells true ver F c)) (hq : q ≤ c.length) (hoff : off ≤ q) (y : CA) (hsz : w.heap.size ≤ w'.heap.size) (hy : y.block < w'.heap.size)
    (hnew : ∃ cs el fr, w'.heap[y.block]? = some (.cells cs el fr) ∧ cs.size = y.size ∧ (∀ i (h : i < ((c.take q).drop off ++ nc).length), ∃ v', cs[y.base + i]? = some v' ∧ VRel g ((c.take q).drop off ++ nc)[i] v') ∧ (∀ i, i < y.size → ¬ (fr.1 ≤ i ∧ i < fr.2)))
    (hold : ∀ b, b < w.heap.size → b ≠ x.block → w'.heap[b]? = w.heap[b]?)
    (hrow : ∀ cs el fr, w.heap[x.block]? = some (.cells cs el fr) → ∃ cs', w'.heap[x.block]? = some (.cells cs' el fr) ∧ cs'.size = cs.size ∧ ∀ i, i < x.base + q → cs'[i]? = cs[i]?)
    (hplace : y.block = x.block ∧ y.base = x.base + off ∨ w.heap.size ≤ y.block) (hos : w'.os = w.os ∧ w'.output = w.output ∧ w'.tape = w.tape) :
    Rel (g.add id y) (Jj8 σ A id ver F c off q nc) w' ∧ Ext (· = id) g (g.add id y) σ (Jj8 σ A id ver F c off q nc) w w' := by
  obtain ⟨hFid, hAid⟩ := Jog h.wf hid hA
  have gid : g id = none := by
    cases e : g id with
    | none => rfl
    | some x => obtain ⟨o, ho, _⟩ := h.obj id x e; rw [hid] at ho; cases ho
  have hle := Gam.le_add (x := y) gid
  have old : ∀ B z, (g.add id y) B = some z → B ≠ id → g B = some z := fun B z e hB => by simpa [Gam.add, hB] using e
  obtain ⟨ob, hob, hsays⟩ := h.obj A x hx
  rw [hA] at hob; cases hob
  obtain ⟨cs, el, fr, hb, hszx, hcont, hfr⟩ := hsays
  have hcont := hcont rfl
  obtain ⟨cs', hb', hsz', hsame⟩ := hrow cs el fr hb
  have getG := fun B => Jcg (off := off) (q := q) (nc := nc) hid hA B
  have famX : ∀ X F', σ.fam X = some F' → (Jj8 σ A id ver F c off q nc).fam X = some F' := fun X F' e => by
    unfold St.fam at e ⊢
    rw [getG]
    rw [if_neg (fun e2 => by subst e2; rw [hid] at e; cases e)]
    by_cases e2 : X = A
    · rw [if_pos e2]; rw [e2, hA] at e; exact e
    · rw [if_neg e2]; exact e
  constructor
  · refine ⟨h.wf.app hid hlt hA hq, ?_, ?_, ?_, ?_, h.tab.step (fun b hb hne => hold b hb (fun e => hne A x hx e.symm)) fun B z e => by
      by_cases hB : B = id
      · subst hB; rw [Gam.add_self] at e; cases e
        rcases hplace with ⟨p, _⟩ | p
        · exact .inr ⟨A, x, hx, p.symm⟩
        · exact .inl p
      · exact .inr ⟨B, z, old B z e hB, rfl⟩⟩
    · intro B z e
      by_cases hB : B = id
      · subst hB; rw [Gam.add_self] at e; cases e; exact hy
      · exact Nat.lt_of_lt_of_le (h.blk B z (old B z e hB)) hsz
    · intro B z e
      by_cases hB : B = id
      · subst hB; rw [Gam.add_self] at e; cases e
        refine ⟨.cells true (if q = c.length then ver else ver + 1) F ((c.take q).drop off ++ nc), by rw [getG, if_pos rfl], ?_⟩
        obtain ⟨ncs, nel, nfr, k1, k2, k3, k4⟩ := hnew
        refine ⟨ncs, nel, nfr, k1, k2, fun _ i hi => ?_, fun _ => k4⟩
        obtain ⟨v', a, b⟩ := k3 i hi
        exact ⟨v', a, b.mono hle⟩
      · have e0 := old B z e hB
        by_cases hBA : B = A
        · subst hBA
          rw [hx] at e0; cases e0
          refine ⟨.cells false (if q = c.length then ver else ver + 1) F (c.take q), by rw [getG, if_neg hB, if_pos rfl], cs', el, fr, hb', hsz'.trans hszx, fun _ i hi => ?_, fun e => by cases e⟩
          have hi' : i < q := by simp at hi; omega
          obtain ⟨v', a, b⟩ := hcont i (by omega)
          refine ⟨v', by rw [hsame _ (by omega)]; exact a, ?_⟩
          simp only [List.getElem_take]
          exact b.mono hle
        · obtain ⟨ob, hob, hs⟩ := h.obj B z e0
          refine ⟨ob, by rw [getG, if_neg hB, if_neg hBA]; exact hob, ?_⟩
          by_cases hblk : z.block = x.block
          · rcases h.share B z A x e0 hx hblk with e1 | ⟨F', e1, e2⟩
            · exact (hBA e1).elim
            · rw [St.fam_eq hA] at e2; cases e2
              cases ob with
              | iter s pos => simp [St.fam, hob] at e1
              | map es cl => simp [St.fam, hob] at e1
              | cells own v F2 c2 =>
                rw [St.fam_eq hob] at e1; cases e1
                obtain ⟨cs2, el2, fr2, k1, k2, k3, k4⟩ := hs
                rw [hblk, hb] at k1; cases k1
                refine ⟨cs', el, fr, by rw [hblk]; exact hb', hsz'.trans k2, fun hr i hi => ?_, k4⟩
                obtain ⟨hr1, hr2⟩ := Kpv h.wf hid hA hBA hob hr
                obtain ⟨q1, q2, q3, q4⟩ := hr2 rfl
                subst q1 q3
                obtain ⟨v', a, b⟩ := k3 hr1 i hi
                have ho := h.order B z A x F v c2 true c e0 hx hblk hBA q2 hob hA
                exact ⟨v', by rw [hsame _ (by omega)]; exact a, b.mono hle⟩
          · refine Jg3.mono hle (hold _ (h.blk B z e0) hblk) ?_ hs
            intro own ver2 fam2 c2 eo hr
            subst eo
            exact (Kpv h.wf hid hA hBA hob hr).1
    · intro B z B' z' e e' eb
      have key : ∀ B z, g B = some z → y.block = z.block → σ.fam B = some F := fun B z e eb => by
        rcases hplace with ⟨p1, _⟩ | p
        · rcases h.share A x B z hx e (p1.symm.trans eb) with k | ⟨F', k1, k2⟩
          · subst k; exact St.fam_eq hA
          · rw [St.fam_eq hA] at k1; cases k1; exact k2
        · have := h.blk B z e; omega
      have famId : (Jj8 σ A id ver F c off q nc).fam id = some F := by unfold St.fam; rw [getG, if_pos rfl]
      by_cases hB : B = id
      · subst hB; rw [Gam.add_self] at e; cases e
        by_cases hB' : B' = B
        · exact .inl hB'.symm
        · exact .inr ⟨F, famId, famX _ _ (key _ _ (old B' z' e' hB') eb)⟩
      · by_cases hB' : B' = id
        · subst hB'; rw [Gam.add_self] at e'; cases e'
          exact .inr ⟨F, famX _ _ (key _ _ (old B z e hB) eb.symm), famId⟩
        · rcases h.share B z B' z' (old B z e hB) (old B' z' e' hB') eb with k | ⟨F', k1, k2⟩
          · exact .inl k
          · exact .inr ⟨F', famX _ _ k1, famX _ _ k2⟩
    · intro X z O u F' v c1 own c2 eX eO eb hne hfo hX hO
      rw [Jej] at hfo
      rw [getG] at hX hO
      split at hX
      · cases hX
      · rename_i hXid
        have eX0 := old X z eX hXid
        split at hfo
        · cases hfo
          subst_vars
          rw [Gam.add_self] at eO; cases eO
          rw [if_pos rfl] at hO; cases hO
          rcases hplace with ⟨p1, p2⟩ | p
          · split at hX
            · cases hX
              subst_vars
              rw [hx] at eX0; cases eX0
              simp; omega
            · rename_i hXA
              obtain ⟨q1, q2, q3⟩ := Jiq h.wf hA hX hXA
              have hqc : q = c.length := by
                by_cases e : q = c.length
                · exact e
                · rw [if_neg e] at q3; omega
              rw [if_pos hqc] at hX
              have := h.order X z A x _ ver c1 true c eX0 hx (eb.trans p1) hXA q2 hX hA
              simp only [List.length_append, List.length_drop, List.length_take, p2]
              omega
          · have := h.blk X z eX0; omega
        · rename_i hF'
          split at hX
          · cases hX; exact (hF' rfl).elim
          · split at hO
            · cases hO; exact (hF' rfl).elim
            · split at hO
              · cases hO; exact (hF' rfl).elim
              · rename_i _ hOid _
                exact h.order X z O u F' v c1 own c2 eX0 (old O u eO hOid) eb hne hfo hX hO
  · refine ⟨hle, ?_, ?_, hsz, ?_, ?_, ?_, Nat.le_refl _, hos.1, hos.2.1, hos.2.2⟩
    · intro B z e e0
      by_cases hB : B = id
      · exact hB
      · rw [old B z e hB] at e0; cases e0
    · intro B z e e0
      by_cases hB : B = id
      · subst hB; rw [Gam.add_self] at e; cases e
        rcases hplace with ⟨p1, _⟩ | p
        · exact .inr ⟨A, x, hx, p1.symm, fun ⟨v, f, cc, k, _⟩ => by rw [hA] at k; cases k⟩
        · exact .inl p
      · rw [old B z e hB] at e0; cases e0
    · intro b hb0 hall
      refine hold b hb0 (fun e => ?_)
      obtain ⟨v, f, cc, k, _⟩ := hall A x hx e.symm
      rw [hA] at k; cases k
    · intro B e hn
      rw [getG, if_neg hn, if_neg (fun e2 => by subst e2; rw [hx] at e; cases e)]
    · rintro B ⟨v, f, cc, k, kf⟩
      have h1 : B ≠ id := fun e => by subst e; rw [hid] at k; cases k
      have h2 : B ≠ A := fun e => by subst e; rw [hA] at k; cases k
      have h3 : f ≠ F := fun e => by
        subst e
        have := (Jiq h.wf hA k h2).2.1
        rw [kf] at this; cases this
      refine ⟨by rw [getG, if_neg h1, if_neg h2], v, f, cc, by rw [getG, if_neg h1, if_neg h2]; exact k, by rw [Jej, if_neg h3]; exact kf⟩
set_option linter.unusedVariables false
set_option linter.unusedSimpArgs false
def Jar {α : Type} (P : Program) : Sem α → Option α
  | .pure a => some a
  | .program k => Jar P (k P)
  | .mark _ k => Jar P k
  | _ => none
theorem Jg9 {α : Type} {P : Program} {m : Sem α} {a : α} (h : Jar P m = some a) (w : World) : m.run P w = .ok a w := by
  induction m with
  | pure b => simp only [Jar] at h; cases h; rfl
  | program k ih => simp only [Jar] at h; simp only [Sem.run]; exact ih _ h
  | mark m k ih => simp only [Jar] at h; simp only [Sem.run]; exact ih h
  | _ => simp [Jar] at h
section runs
variable {P : Program} (w : World)
theorem rU {t : TypeId} {d : TypeDesc} (h : P.underlying t = some d) : (underlying t).run P w = .ok d w := run_underlying h w
theorem rT {t : TypeId} {i : TypeInfo} (h : P.info? t = some i) : (typeInfo t).run P w = .ok i w := by simp [typeInfo, h]
theorem rS {t : TypeId} {n : Nat} (h : (P.info? t).map (·.size) = some n) : (sizeOf t).run P w = .ok n w := by
  cases e : P.info? t with
  | none => rw [e] at h; cases h
  | some i => rw [e] at h; cases h; simp [sizeOf, rT w e]
theorem rZ {t : TypeId} {z : Value} (h : (P.info? t).bind (·.zero) = some z) : (zeroValue t).run P w = .ok z w := by
  cases e : P.info? t with
  | none => rw [e] at h; cases h
  | some i => rw [e] at h; simp only [Option.bind_some] at h; simp [zeroValue, rT w e, h]
end runs
def sz? (P : Program) (t : TypeId) : Option Nat := (P.info? t).map (·.size)
def Jg4 (P : Program) (t : TypeId) : Option Value := match (P.info? t).bind (·.zero) with
  | some z => if Ja5 z then some z else none
  | none => none
theorem Jiw {P : Program} {t : TypeId} {z : Value} (h : Jg4 P t = some z) : (P.info? t).bind (·.zero) = some z ∧ Ja5 z = true := by
  unfold Jg4 at h
  split at h
  · split at h
    · cases h; exact ⟨by assumption, by assumption⟩
    · cases h
  · cases h
inductive ARes where
  | val (v : Value) (σ : St)
  | enter (f : FuncId) (args : Array Value)
def OpOk (P : Program) (g : Gam) (σ : St) (w : World) (N : Nat → Prop) (s : Sem Next) : ARes → Prop
  | .val v σ' => ∃ n w' g' v', s.run P w = .ok n w' ∧ (n = .value v' ∨ n = .skip ∧ v' = undef) ∧ VRel g' v v' ∧ Rel g' σ' w' ∧ Ext N g g' σ σ' w w'
  | .enter f args => ∃ args', s.run P w = .ok (.enter f args') w ∧ ARel g args args'
section
variable {P : Program} {g : Gam} {σ : St} {w : World} {N : Nat → Prop} {s : Sem Next}
theorem OpOk.val0 {v v' : Value} (hr : Rel g σ w) (h : s.run P w = .ok (.value v') w) (hv : VRel g v v') : OpOk P g σ w N s (.val v σ) :=
  ⟨_, w, g, v', h, .inl rfl, hv, hr, Ext.refl N g σ w⟩
end
theorem VRel.cells {g : Gam} {v v' : Value} (h : VRel g v v') : ARel g v.cells v'.cells := by
  have one : ∀ {a b : Value}, VRel g a b → ARel g #[a] #[b] := fun h => ⟨rfl, fun i h1 h2 => by
    have : i = 0 := by simp at h1; omega
    subst this; exact h⟩
  cases h with
  | agg a b h1 h2 => exact ⟨h1, h2⟩
  | bool b => exact one (.bool b)
  | int k n => exact one (.int k n)
  | float k b => exact one (.float k b)
  | complex k a b => exact one (.complex k a b)
  | string s => exact one (.string s)
  | nilPtr => exact one .nilPtr
  | ptr A o x h => exact one (.ptr A o x h)
  | nilSlice => exact one .nilSlice
  | slice A o len k x o' c h hl ho h0 hk => exact one (.slice A o len k x o' c h hl ho h0 hk)
  | nilMap => exact one .nilMap
  | map A x h => exact one (.map A x h)
  | nilFunc => exact one .nilFunc
  | func fn a b c d h1 h2 h3 h4 => exact one (.func fn a b c d h1 h2 h3 h4)
  | yield l l' => exact one (.yield l l')
  | iface t v v' h => exact one (.iface t v v' h)
  | nilIface => exact one .nilIface
  | tuple a b h1 h2 => exact one (.tuple a b h1 h2)
theorem ARel.list {g : Gam} {a b : Array Value} (h : ARel g a b) : a.toList.length = b.toList.length ∧ ∀ i (h : i < a.toList.length) (h' : i < b.toList.length), VRel g a.toList[i] b.toList[i] :=
  ⟨by simpa using h.1, fun i h1 h2 => by simpa using h.2 i (by simpa using h1) (by simpa using h2)⟩
def Jdh (ρ : Operand → Value) (o : Op) : Bool := o.operands.toList.all fun x => Ja5 (ρ x)
def Je1 : Op → Bool
  | .select .. => true
  | _ => false
def Ja7 (P : Program) (ρ : Operand → Value) (o : Oper) (σ : St) : Option ARes :=
  if Jdh ρ o.op && !Je1 o.op then
    match Jar P (execOp ρ o) with
    | some (.value v) => if Ja5 v then some (.val v σ) else none
    | _ => none
  else none
theorem Jyc {P : Program} {ρ ρ' : Operand → Value} {o : Oper} {σ : St} {g : Gam} {w : World} {N : Nat → Prop} {r : ARes} (h : Ja7 P ρ o σ = some r) (hr : Rel g σ w)
    (hρ : ∀ x ∈ o.op.operands, VRel g (ρ x) (ρ' x)) : OpOk P g σ w N (execOp ρ' o) r := by
  unfold Ja7 at h
  split at h
  · rename_i hc
    simp only [Bool.and_eq_true, Jdh, List.all_eq_true] at hc
    have e : execOp ρ' o = execOp ρ o := execOp_congr o (fun cs b e => by rw [e] at hc; simp [Je1] at hc) fun x hx => Je5 (hc.1 x (by simpa using hx)) (hρ x hx)
    split at h
    · rename_i v hv
      split at h
      · rename_i hf
        cases h
        exact .val0 hr (by rw [e]; exact Jg9 hv w) (Jb4 hf)
      · cases h
    · cases h
  · cases h
def Jya (P : Program) (s : TypeId) (f : Nat) : Option Nat :=
  match P.underlying s with
  | some (.struct fields) => match fields[f]? with
    | some fl => match sz? P fl.type with
      | some (_ + 1) => some fl.offset
      | _ => none
    | none => none
  | _ => none
def Jee (P : Program) (s : TypeId) (f : Nat) : Value → Option Value
  | .pointer (some ⟨A, o, none⟩) => match Jya P s f with
    | some off => some (.pointer (some ⟨A, o + off, none⟩))
    | none => none
  | _ => none
theorem Jjt {P : Program} {s : TypeId} {f : Nat} {v v' r : Value} {g : Gam} (w : World) (h : Jee P s f v = some r) (hv : VRel g v v') :
    ∃ r', (Instr.fieldAt s v' f).run P w = .ok r' w ∧ VRel g r r' := by
  unfold Jee at h
  split at h
  · cases hv; rename_i A o x hx
    split at h
    · rename_i off hoff
      cases h
      unfold Jya at hoff
      split at hoff
      · rename_i fields hu
        split at hoff
        · rename_i fl hfl
          split at hoff
          · rename_i n hn
            cases hoff
            refine ⟨.pointer (some ⟨x.block, x.base + (o + fl.offset), none⟩), ?_, .ptr _ _ _ hx⟩
            simp [Instr.fieldAt, rU w hu, hfl, Instr.sureAddr, fieldPlace, rS w hn, Jlp, Nat.add_assoc]
          · cases hoff
        · cases hoff
      · cases hoff
    · cases h
  · cases h
def Jed (P : Program) (t : TypeId) (x ix : Value) : Option Value :=
  match ix with
  | .int _ (.ofNat i) => match P.underlying t with
    | some (.slice elem) => match x with
      | .slice (some ⟨A, o, none⟩) len _ => if i < len then match sz? P elem with
          | some n => some (.pointer (some ⟨A, o + i * n, none⟩))
          | none => none
        else none
      | _ => none
    | some (.array len elem) => match x with
      | .pointer (some ⟨A, o, none⟩) => if i < len then match sz? P elem with
          | some n => some (.pointer (some ⟨A, o + i * n, none⟩))
          | none => none
        else none
      | _ => none
    | _ => none
  | _ => none
theorem Jjs {P : Program} {t : TypeId} {x x' ix ix' r : Value} {g : Gam} (w : World) (h : Jed P t x ix = some r) (hx : VRel g x x') (hi : VRel g ix ix') :
    ∃ r', (Instr.indexAt t x' ix').run P w = .ok r' w ∧ VRel g r r' := by
  unfold Jed at h
  split at h
  · rename_i k i
    cases hi
    split at h
    · rename_i elem hu
      split at h
      · rename_i A o len cap
        cases hx; rename_i y o' c hy ho hl h0 hk
        split at h
        · rename_i hlt
          split at h
          · rename_i n hn
            cases h
            have ho := ho (by omega)
            subst ho
            refine ⟨_, ?_, .ptr A (o + i * n) y hy⟩
            have h1 : (0 : Int) ≤ Int.ofNat i ∧ Int.ofNat i < (len : Int) := ⟨Int.natCast_nonneg i, by simpa using hlt⟩
            simp [Instr.indexAt, asIntOf, rU w hu, rS w hn, Jlp, Nat.add_assoc, hlt]
          · cases h
        · cases h
      · cases h
    · rename_i len elem hu
      split at h
      · rename_i A o
        cases hx; rename_i y hy
        split at h
        · rename_i hlt
          split at h
          · rename_i n hn
            cases h
            refine ⟨_, ?_, .ptr A (o + i * n) y hy⟩
            simp [Instr.indexAt, asIntOf, rU w hu, rS w hn, Jlp, Nat.add_assoc, hlt, Instr.sureAddr]
          · cases h
        · cases h
      · cases h
    · cases h
  · cases h
def Kas (P : Program) (t : TypeId) (cs : Array Value) (off : Nat) : Option Value :=
  match P.underlying t with
  | some (.struct _) | some (.array _ _) => match sz? P t with
    | some n => some (.agg (cs.extract off (off + n)))
    | none => none
  | some _ => cs[off]?
  | none => none
theorem Jtt {P : Program} {t : TypeId} {cs cs' : Array Value} {off : Nat} {r : Value} {g : Gam} (w : World) (h : Kas P t cs off = some r) (hc : ARel g cs cs') :
    ∃ r', (part t cs' off).run P w = .ok r' w ∧ VRel g r r' := by
  have agg : ∀ {d : TypeDesc} (_ : P.underlying t = some d) (_ : (match d with | .struct _ | .array _ _ => true | _ => false) = true) {n : Nat} (_ : sz? P t = some n), r = .agg (cs.extract off (off + n)) →
      ∃ r', (part t cs' off).run P w = .ok r' w ∧ VRel g r r' := by
    intro d hu hd n hn e
    subst e
    refine ⟨.agg (cs'.extract off (off + n)), ?_, .agg _ _ (by simp [hc.1]) fun i h1 h2 => ?_⟩
    · have : (isAgg t).run P w = .ok true w := by
        unfold isAgg
        simp only [Sem.run_bind, rU w hu, Result.andThen_ok]
        cases d <;> first | (cases hd; done) | rfl
      simp [part, this, rS w hn]
    · simp only [Array.getElem_extract]
      exact hc.2 _ _ _
  unfold Kas at h
  split at h
  · rename_i hu
    split at h
    · rename_i n hn; exact agg hu rfl hn (Option.some.inj h).symm
    · cases h
  · rename_i hu
    split at h
    · rename_i n hn; exact agg hu rfl hn (Option.some.inj h).symm
    · cases h
  · rename_i d h1 h3 hu
    have h2 := h
    have hoff : off < cs.size := (Array.getElem?_eq_some_iff.1 h2).1
    have hr : r = cs[off] := by rw [Array.getElem?_eq_getElem hoff] at h2; exact (Option.some.inj h2).symm
    subst hr
    refine ⟨cs'[off]'(by rw [← hc.1]; exact hoff), ?_, hc.2 _ _ _⟩
    have : (isAgg t).run P w = .ok false w := by
      unfold isAgg
      simp only [Sem.run_bind, rU w hu, Result.andThen_ok]
      cases d <;> first | rfl | (rename_i q; exact (h1 q rfl).elim) | (rename_i q q2; exact (h3 q q2 rfl).elim)
    simp [part, this, show off < cs'.size by rw [← hc.1]; exact hoff]
  · cases h
def Jru (P : Program) (t : TypeId) (f : Nat) : Value → Option Value
  | .agg cs => match P.underlying t with
    | some (.struct fields) => match fields[f]? with
      | some fl => Kas P fl.type cs fl.offset
      | none => none
    | _ => none
  | _ => none
theorem Jqs {P : Program} {t : TypeId} {f : Nat} {v v' r : Value} {g : Gam} (w : World) (h : Jru P t f v = some r) (hv : VRel g v v') :
    ∃ r', (Instr.field t v' f).run P w = .ok r' w ∧ VRel g r r' := by
  unfold Jru at h
  split at h
  · cases hv; rename_i cs b h1 h2
    split at h
    · rename_i fields hu
      split at h
      · rename_i fl hfl
        obtain ⟨r', a, b'⟩ := Jtt w h ⟨h1, h2⟩
        exact ⟨r', by simp [Instr.field, rU w hu, hfl, asAgg, a], b'⟩
      · cases h
    · cases h
  · cases h
def Ji7 (P : Program) (t : TypeId) (x ix : Value) : Option Value :=
  match ix, x with
  | .int _ (.ofNat i), .agg cs => match P.underlying t with
    | some (.array len elem) => if i < len then match sz? P elem with
        | some n => Kas P elem cs (i * n)
        | none => none
      else none
    | _ => none
  | _, _ => none
theorem Jkh {P : Program} {t : TypeId} {x x' ix ix' r : Value} {g : Gam} (w : World) (h : Ji7 P t x ix = some r) (hx : VRel g x x') (hi : VRel g ix ix') :
    ∃ r', (Instr.index t x' ix').run P w = .ok r' w ∧ VRel g r r' := by
  unfold Ji7 at h
  split at h
  · rename_i k i cs
    cases hi
    cases hx; rename_i b h1 h2
    split at h
    · rename_i len elem hu
      split at h
      · rename_i hlt
        split at h
        · rename_i n hn
          obtain ⟨r', p, q⟩ := Jtt w h ⟨h1, h2⟩
          exact ⟨r', by simp [Instr.index, asIntOf, rU w hu, rS w hn, hlt, p], q⟩
        · cases h
      · cases h
    · cases h
  · cases h
def Jes (ix : Nat) : Value → Option Value
  | .tuple vs => vs[ix]?
  | _ => none
theorem Jl3 {P : Program} {ix : Nat} {v v' r : Value} {g : Gam} (w : World) (h : Jes ix v = some r) (hv : VRel g v v') :
    ∃ r', (Instr.extract v' ix).run P w = .ok r' w ∧ VRel g r r' := by
  unfold Jes at h
  split at h
  · cases hv; rename_i cs b h1 h2
    have hoff : ix < cs.size := (Array.getElem?_eq_some_iff.1 h).1
    have hr : r = cs[ix] := by rw [Array.getElem?_eq_getElem hoff] at h; exact (Option.some.inj h).symm
    subst hr
    have h3 : ix < b.size := by omega
    exact ⟨b[ix], by simp [Instr.extract, h3], h2 _ _ _⟩
  · cases h
def bnd (d : Nat) : Option Value → Option Nat
  | none => some d
  | some (.int _ (.ofNat n)) => some n
  | _ => none
def Jhb (P : Program) (t : TypeId) (x : Value) (lo hi mx : Option Value) : Option Value :=
  match P.underlying t, x with
  | some (.slice elem), .slice (some ⟨A, o, none⟩) len k => match bnd len hi, bnd 0 lo with
    | some h, some l => match sz? P elem with
      | some n => if l ≤ h ∧ h ≤ len ∧ (k = 0 ∨ k = n + 1) then match mx with
          | none => some (.slice (some ⟨A, o + l * n, none⟩) (h - l) k)
          | some (.int _ (.ofNat m)) => match hi with
            | some _ => if h ≤ m ∧ m ≤ len then some (.slice (some ⟨A, o + l * n, none⟩) (h - l) (if m = l then 0 else k)) else none
            | none => none
          | _ => none
        else none
      | none => none
    | _, _ => none
  | some (.slice elem), .slice none 0 0 => match bnd 0 hi, bnd 0 lo, sz? P elem with
    | some 0, some 0, some _ => match mx with
      | none => some (.slice none 0 0)
      | some (.int _ (.ofNat 0)) => match hi with
        | some _ => some (.slice none 0 0)
        | none => none
      | _ => none
    | _, _, _ => none
  | _, _ => none
theorem Jdw {P : Program} (w : World) {k : IntKind} {n y : Nat} (h : n ≤ y) (code : BoundsCode) : (Instr.sliceBound (.int k (n : Int)) y code).run P w = .ok n w := by
  have h1 : ((n : Int) ≤ (y : Int)) := by omega
  simp [Instr.sliceBound, asIntOf, h1]
def ORel (g : Gam) : Option Value → Option Value → Prop
  | none, none => True
  | some a, some b => VRel g a b
  | _, _ => False
theorem ORel.int {g : Gam} {k : IntKind} {n : Int} {v : Option Value} (h : ORel g (some (.int k n)) v) : v = some (.int k n) := by
  cases v with
  | none => exact h.elim
  | some x => have h' : VRel g (.int k n) x := h; cases h'; rfl
theorem ORel.nil {g : Gam} {v : Option Value} (h : ORel g none v) : v = none := by
  cases v with
  | none => rfl
  | some x => exact h.elim
theorem ORel.bnd {g : Gam} {d n : Nat} {v v' : Option Value} (h : bnd d v = some n) (r : ORel g v v') : (v = none ∧ v' = none ∧ n = d) ∨ ∃ k, v = some (.int k (.ofNat n)) ∧ v' = some (.int k (.ofNat n)) := by
  unfold Ev.bnd at h
  split at h
  · cases h; exact .inl ⟨rfl, r.nil, rfl⟩
  · cases h; exact .inr ⟨_, rfl, r.int⟩
  · cases h
theorem Jjq {P : Program} (w : World) {g : Gam} {isS : Bool} {len cap l h : Nat} {lo hi lo' hi' : Option Value} (hh : bnd len hi = some h) (hl : bnd 0 lo = some l) (rh : ORel g hi hi') (rl : ORel g lo lo')
    (h1 : l ≤ h) (h2 : h ≤ cap) : (Instr.sliceBounds isS len cap lo' hi' none).run P w = .ok (l, h, cap) w := by
  rcases ORel.bnd hh rh with ⟨_, e, rfl⟩ | ⟨k, _, e⟩ <;> rcases ORel.bnd hl rl with ⟨_, e2, rfl⟩ | ⟨k2, _, e2⟩ <;> subst e <;> subst e2 <;>
    simp [Instr.sliceBounds, Jdw w h1, Jdw w h2]
theorem Jie {P : Program} (w : World) {g : Gam} {isS : Bool} {len cap l h m : Nat} {k3 : IntKind} {lo hi lo' hi' : Option Value} (hh : bnd len hi = some h) (hne : hi ≠ none) (hl : bnd 0 lo = some l) (rh : ORel g hi hi') (rl : ORel g lo lo')
    (h1 : l ≤ h) (h2 : h ≤ m) (h3 : m ≤ cap) : (Instr.sliceBounds isS len cap lo' hi' (some (.int k3 (.ofNat m)))).run P w = .ok (l, h, m) w := by
  rcases ORel.bnd hh rh with ⟨e0, e, rfl⟩ | ⟨k, _, e⟩
  · exact (hne e0).elim
  · rcases ORel.bnd hl rl with ⟨_, e2, rfl⟩ | ⟨k2, _, e2⟩ <;> subst e <;> subst e2 <;>
      simp [Instr.sliceBounds, Jdw w h1, Jdw w h2, Jdw w h3]
theorem VRel.sub {g : Gam} {A o len k : Nat} {x : CA} {o' c l h m n k' : Nat} (hx : g A = some x) (hl : len ≤ c) (ho : c ≠ 0 → o' = x.base + o) (h0 : k = 0 → c = 0) (hk : o' + c * (k - 1) ≤ x.size)
    (h1 : l ≤ h) (h2 : h ≤ m) (h3 : m ≤ c) (hkn : k = 0 ∨ k = n + 1) (hk' : k' = 0 ∧ m = l ∨ k' = k) :
    VRel g (.slice (some ⟨A, o + l * n, none⟩) (h - l) k') (.slice (some (if m = l then ⟨x.block, o', none⟩ else (⟨x.block, o', none⟩ : Addr).add (l * n))) (h - l) (m - l)) := by
  have e : (if m = l then (⟨x.block, o', none⟩ : Addr) else (⟨x.block, o', none⟩ : Addr).add (l * n)) = ⟨x.block, if m = l then o' else o' + l * n, none⟩ := by
    split
    · rfl
    · rw [Jlp]
  rw [e]
  refine .slice A (o + l * n) (h - l) k' x _ (m - l) hx (by omega) (fun hc => ?_) (fun e => ?_) ?_
  · rw [if_neg (by omega), ho (by omega)]; omega
  · rcases hk' with ⟨_, hm⟩ | rfl
    · omega
    · have := h0 e; omega
  · split
    · subst_vars; simp; omega
    · rename_i hml
      rcases hk' with ⟨_, hm⟩ | rfl
      · exact (hml hm).elim
      · rcases hkn with rfl | rfl
        · have := h0 rfl; omega
        · have e1 : (m - l) * n + l * n ≤ c * n := by rw [← Nat.add_mul]; exact Nat.mul_le_mul_right _ (by omega)
          simp only [Nat.add_sub_cancel] at hk ⊢
          omega
theorem Jqq {P : Program} {t : TypeId} {x x' r : Value} {lo hi mx lo' hi' mx' : Option Value} {g : Gam} (w : World) (h : Jhb P t x lo hi mx = some r) (hx : VRel g x x') (rl : ORel g lo lo') (rh : ORel g hi hi') (rm : ORel g mx mx') :
    ∃ r', (Instr.sliceAt t x' lo' hi' mx').run P w = .ok r' w ∧ VRel g r r' := by
  unfold Jhb at h
  split at h
  · rename_i elem A o len k hu
    cases hx; rename_i y o' c hy ho hl h0 hk
    split at h
    · rename_i hh ll eh el
      split at h
      · rename_i n hn
        split at h
        · rename_i hc
          obtain ⟨c1, c2, c3⟩ := hc
          split at h
          · cases h
            obtain rfl := rm.nil
            refine ⟨_, ?_, VRel.sub hy hl ho h0 hk c1 (by omega : hh ≤ c) (Nat.le_refl c) c3 (.inr rfl)⟩
            have := Jjq (P := P) w (isS := true) (cap := c) eh el rh rl c1 (by omega)
            simp [Instr.sliceAt, Instr.slice, rU w hu, this, rS w hn]
            split <;> rfl
          · rename_i k3 m
            split at h
            · rename_i hv
              split at h
              · rename_i hm
                cases h
                obtain rfl := rm.int
                refine ⟨_, ?_, VRel.sub hy hl ho h0 hk c1 hm.1 (by omega : m ≤ c) c3 (by split; exact .inl ⟨rfl, by assumption⟩; exact .inr rfl)⟩
                have := Jie (P := P) w (isS := true) (cap := c) (k3 := k3) eh (by simp) el rh rl c1 hm.1 (by omega)
                simp only [Int.ofNat_eq_natCast] at this
                simp [Instr.sliceAt, Instr.slice, rU w hu, this, rS w hn]
                split <;> rfl
              · cases h
            · cases h
          · cases h
        · cases h
      · cases h
    · cases h
  · rename_i elem hu
    cases hx
    split at h
    · rename_i n eh el hn
      split at h
      · cases h
        obtain rfl := rm.nil
        have := Jjq (P := P) w (isS := true) (cap := 0) eh el rh rl (Nat.le_refl _) (Nat.le_refl _)
        exact ⟨_, by simp [Instr.sliceAt, Instr.slice, rU w hu, this, rS w hn], .nilSlice⟩
      · rename_i k3
        split at h
        · cases h
          obtain rfl := rm.int
          have := Jie (P := P) w (isS := true) (cap := 0) (k3 := k3) eh (by simp) el rh rl (Nat.le_refl _) (Nat.le_refl _) (Nat.le_refl _)
          have this : (Instr.sliceBounds true 0 0 lo' hi' (some (.int k3 0))).run P w = .ok (0, 0, 0) w := this
          exact ⟨_, by simp [Instr.sliceAt, Instr.slice, rU w hu, this, rS w hn], .nilSlice⟩
        · cases h
      · cases h
    · cases h
  · cases h
def Jny (P : Program) (t : TypeId) : Option (Option Nat) :=
  match P.underlying t with
  | some (.struct _) | some (.array _ _) => (sz? P t).map some
  | some _ => some none
  | none => none
theorem Kcj {P : Program} {t : TypeId} {n : Nat} (w : World) (h : Jny P t = some (some n)) : (isAgg t).run P w = .ok true w ∧ (sizeOf t).run P w = .ok n w := by
  unfold Jny at h
  split at h
  · rename_i hu
    cases e : sz? P t with
    | none => rw [e] at h; cases h
    | some m => rw [e] at h; cases h; exact ⟨by simp [isAgg, rU w hu], rS w e⟩
  · rename_i hu
    cases e : sz? P t with
    | none => rw [e] at h; cases h
    | some m => rw [e] at h; cases h; exact ⟨by simp [isAgg, rU w hu], rS w e⟩
  · cases h
  · cases h
theorem Kci {P : Program} {t : TypeId} (w : World) (h : Jny P t = some none) : (isAgg t).run P w = .ok false w := by
  unfold Jny at h
  split at h
  · cases e : sz? P t <;> rw [e] at h <;> cases h
  · cases e : sz? P t <;> rw [e] at h <;> cases h
  · rename_i d h1 h2 hu
    unfold isAgg
    simp only [Sem.run_bind, rU w hu, Result.andThen_ok]
    cases d <;> first | rfl | (rename_i q; exact (h1 q rfl).elim) | (rename_i q q2; exact (h2 q q2 rfl).elim)
  · cases h
def Jh1 (P : Program) (t : TypeId) (v : Value) (σ : St) : Option Value :=
  match v with
  | .pointer (some ⟨A, o, none⟩) => match Jny P t with
    | some (some n) => match σ.read? A o n with
      | some l => some (.agg l.toArray)
      | none => none
    | some none => match σ.read? A o 1 with
      | some [x] => some x
      | _ => none
    | none => none
  | _ => none
theorem Rel.read1 {g : Gam} {σ : St} {w : World} (h : Rel g σ w) {A o : Nat} {x : CA} (hx : g A = some x) {v : Value} (hr : σ.read? A o 1 = some [v]) :
    ∃ v', w.cell? ⟨x.block, x.base + o, none⟩ = some v' ∧ VRel g v v' := by
  unfold St.read? at hr
  cases hc : σ.cells? A with
  | none => rw [hc] at hr; cases hr
  | some c =>
    rw [hc] at hr
    simp only [Option.bind_some, sub?] at hr
    split at hr
    · rename_i hle
      obtain ⟨cs, el, fr, h1, h2, h3⟩ := h.cells hx hc
      obtain ⟨v', a, b⟩ := h3 o (by omega)
      refine ⟨v', by rw [Jna h1]; exact a, ?_⟩
      have e : (c.drop o).take 1 = [c[o]] := by
        rw [List.drop_eq_getElem_cons (by omega)]; rfl
      rw [e] at hr
      cases hr
      exact b
    · cases hr
theorem Jnp {P : Program} {t : TypeId} {v v' r : Value} {σ : St} {g : Gam} {w : World} (h : Jh1 P t v σ = some r) (hr : Rel g σ w) (hv : VRel g v v') :
    ∃ r', (Instr.loadAt t v').run P w = .ok r' w ∧ VRel g r r' := by
  unfold Jh1 at h
  split at h
  · cases hv; rename_i A o x hx
    split at h
    · rename_i n hn
      obtain ⟨ha, hs⟩ := Kcj w hn
      split at h
      · rename_i l hl
        cases h
        obtain ⟨vs, e1, e2, e3, e4⟩ := hr.read (P := P) hx hl
        refine ⟨.agg vs.toArray, by simp [Instr.loadAt, Instr.sureAddr, loadVar, ha, hs, e3], .agg _ _ (by simp; omega) fun i h1 h2 => ?_⟩
        simpa using e4 i (by simpa using h1) (by simpa using h2)
      · cases h
    · rename_i hn
      split at h
      · rename_i y hl
        cases h
        obtain ⟨v', a, b⟩ := hr.read1 hx hl
        exact ⟨v', by simp [Instr.loadAt, Instr.sureAddr, loadVar, Kci w hn, a], b⟩
      · cases h
    · cases h
  · cases h
def Jha (P : Program) (t : TypeId) (a v : Value) (σ : St) : Option St :=
  match a with
  | .pointer (some ⟨A, o, none⟩) => match sz? P t with
    | some n => if v.cells.size = n then match σ.get A with
        | some (.cells true ver F c) => if o + n ≤ c.length && v.cells.toList.all (·.oneCell') then some (σ.set A (.cells true (ver + 1) F (lay c o v.cells.toList))) else none
        | _ => none
      else none
    | none => none
  | _ => none
theorem Kb0 {P : Program} {t : TypeId} {a a' v v' : Value} {σ σ' : St} {g : Gam} {w : World} (h : Jha P t a v σ = some σ') (hr : Rel g σ w) (ha : VRel g a a') (hv : VRel g v v') :
    ∃ w', (Instr.storeAt t a' v').run P w = .ok () w' ∧ Rel g σ' w' ∧ Ext (fun _ => False) g g σ σ' w w' := by
  unfold Jha at h
  split at h
  · cases ha; rename_i A o x hx
    split at h
    · rename_i n hn
      split at h
      · rename_i hsz
        split at h
        · rename_i ver F c hA
          split at h
          · rename_i hc
            simp only [Bool.and_eq_true, decide_eq_true_eq, List.all_eq_true] at hc
            cases h
            have hcell := hv.cells
            obtain ⟨l1, l2⟩ := hcell.list
            obtain ⟨r1, r2, r3⟩ := hr.store (P := P) (o := o) (c := c) (vs := v.cells.toList) (vs' := v'.cells.toList) hx hA (by rw [Array.length_toList, hsz]; exact hc.1) l1.symm l2 hc.2
            refine ⟨_, ?_, r2, r3⟩
            have e : v'.cells.size = n := by rw [← hcell.1]; exact hsz
            simp [Instr.storeAt, Instr.sureAddr, storeVar, rS w hn, e, r1]
          · cases h
        · cases h
      · cases h
    · cases h
  · cases h
theorem Jck {P : Program} (w : World) (elem : TypeId) (cs : Array Value) : (newRow elem cs).run P w = .ok ⟨w.heap.size, 0, none⟩ (newW w (.cells cs elem)) := by
  simp [newRow, newW]
def ptrTo (id : Nat) : Value := .pointer (some ⟨id, 0, none⟩)
def Jfx (id : Nat) (cs : Array Value) (σ : St) : St := σ.set id (.cells true 0 id cs.toList)
theorem Jm5 {P : Program} {σ : St} {g : Gam} {w : World} (hr : Rel g σ w) {id : Nat} (hid : σ.get id = none) (hlt : id < σ.next) {cs cs' : Array Value} (hc : ARel g cs cs') (elem : TypeId) :
    ∃ g', (newRow elem cs').run P w = .ok ⟨w.heap.size, 0, none⟩ (newW w (.cells cs' elem)) ∧ VRel g' (ptrTo id) (.pointer (some ⟨w.heap.size, 0, none⟩)) ∧ g' id = some ⟨w.heap.size, 0, cs'.size⟩ ∧
      Rel g' (Jfx id cs σ) (newW w (.cells cs' elem)) ∧ Ext (· = id) g g' σ (Jfx id cs σ) w (newW w (.cells cs' elem)) := by
  obtain ⟨a, b⟩ := hr.newCells hid hlt cs.toList cs' elem (by simp [hc.1]) (fun i h1 h2 => by simpa using hc.2 i (by simpa using h1) h2)
  exact ⟨_, Jck w elem cs', VRel.ptr id 0 _ (Gam.add_self g id _), Gam.add_self g id _, a, b⟩
theorem ARel.refl_flat {g : Gam} {v : Value} (h : Ja5 v = true) : ARel g v.cells v.cells := (Jb4 h : VRel g v v).cells
theorem ARel.set {g : Gam} {cs cs' : Array Value} (h : ARel g cs cs') (i : Nat) {v v' : Value} (hv : VRel g v v') : ARel g (cs.setIfInBounds i v) (cs'.setIfInBounds i v') := by
  refine ⟨by simp [h.1], fun j h1 h2 => ?_⟩
  rw [Array.getElem_setIfInBounds (by simpa using h1), Array.getElem_setIfInBounds (by simpa using h2)]
  split
  · exact hv
  · exact h.2 _ _ _
theorem Juf {g : Gam} (off : Nat) : ∀ (l l' : List Value) (k : Nat) (cs cs' : Array Value), l.length = l'.length → (∀ i (h : i < l.length) (h' : i < l'.length), VRel g l[i] l'[i]) → ARel g cs cs' →
    ARel g ((l.zipIdx k).foldl (fun cs (p : Value × Nat) => cs.setIfInBounds (off + p.2) p.1) cs) ((l'.zipIdx k).foldl (fun cs (p : Value × Nat) => cs.setIfInBounds (off + p.2) p.1) cs')
  | [], [], _, _, _, _, _, h => h
  | [], _ :: _, _, _, _, h, _, _ => by simp at h
  | _ :: _, [], _, _, _, h, _, _ => by simp at h
  | v :: l, v' :: l', k, cs, cs', hl, hv, hc => by
    simp only [List.zipIdx_cons, List.foldl_cons]
    exact Juf off l l' (k + 1) _ _ (by simpa using hl) (fun i h1 h2 => hv (i + 1) (Nat.succ_lt_succ h1) (Nat.succ_lt_succ h2)) (hc.set _ (hv 0 (Nat.succ_pos _) (Nat.succ_pos _)))
theorem Jr2 {g : Gam} {place : Nat → Option (Nat × Nat)} : ∀ (ps ps' : List (Nat × Value)) (cs cs' r : Array Value), Instr.fill place cs ps = some r → ARel g cs cs' →
    ps.length = ps'.length → (∀ i (h : i < ps.length) (h' : i < ps'.length), ps[i].1 = ps'[i].1 ∧ VRel g ps[i].2 ps'[i].2) → ∃ r', Instr.fill place cs' ps' = some r' ∧ ARel g r r'
  | [], [], cs, cs', r, h, hc, _, _ => by simp only [Instr.fill] at h ⊢; cases h; exact ⟨_, rfl, hc⟩
  | [], _ :: _, _, _, _, _, _, h, _ => by simp at h
  | _ :: _, [], _, _, _, _, _, h, _ => by simp at h
  | (i, v) :: ps, (i', v') :: ps', cs, cs', r, h, hc, hl, hp => by
    obtain ⟨e, hv⟩ := hp 0 (by simp) (by simp)
    simp only [List.getElem_cons_zero] at e hv
    subst e
    simp only [Instr.fill] at h ⊢
    cases e1 : place i with
    | none => rw [e1] at h; cases h
    | some p =>
      obtain ⟨off, size⟩ := p
      rw [e1] at h
      simp only at h ⊢
      have hcell := hv.cells
      split at h
      · cases h
      · rename_i hn
        rw [← hcell.1, ← hc.1, if_neg hn]
        obtain ⟨l1, l2⟩ := hcell.list
        refine Jr2 ps ps' _ _ r h ?_ (by simpa using hl) (fun j h1 h2 => hp (j + 1) (Nat.succ_lt_succ h1) (Nat.succ_lt_succ h2))
        have := Juf (g := g) off v.cells.toList v'.cells.toList 0 cs cs' l1 l2 hc
        rw [← Array.foldl_toList, ← Array.foldl_toList, Array.toList_zipIdx, Array.toList_zipIdx]
        exact this
def Jf7 (P : Program) (t : TypeId) : Option (Nat → Option (Nat × Nat)) :=
  match P.underlying t with
  | some (.struct fields) => match Jar P (fields.mapM fun f => do pure (f.offset, ← sizeOf f.type)) with
    | some ps => some (ps[·]?)
    | none => none
  | some (.array _ elem) => match sz? P elem with
    | some n => some fun i => some (i * n, n)
    | none => none
  | _ => none
def Jcc (P : Program) (t : TypeId) (parts : Array (Nat × Value)) : Option Value :=
  match Jg4 P t, Jf7 P t with
  | some z, some pl => match Instr.fill pl z.cells parts.toList with
    | some cells => some (.agg cells)
    | none => none
  | _, _ => none
theorem Jqt {P : Program} {t : TypeId} {ps ps' : Array (Nat × Value)} {r : Value} {g : Gam} (w : World) (h : Jcc P t ps = some r) (hs : ps.size = ps'.size)
    (hp : ∀ i (h : i < ps.size) (h' : i < ps'.size), ps[i].1 = ps'[i].1 ∧ VRel g ps[i].2 ps'[i].2) : ∃ r', (Instr.build t ps').run P w = .ok r' w ∧ VRel g r r' := by
  unfold Jcc at h
  split at h
  · rename_i z pl hz hpl
    obtain ⟨hz1, hz2⟩ := Jiw hz
    split at h
    · rename_i cells hf
      cases h
      obtain ⟨r', f', hr'⟩ := Jr2 ps.toList ps'.toList z.cells z.cells cells hf (ARel.refl_flat hz2) (by simpa using hs) (fun i h1 h2 => by simpa using hp i (by simpa using h1) (by simpa using h2))
      refine ⟨.agg r', ?_, .agg _ _ hr'.1 hr'.2⟩
      unfold Jf7 at hpl
      split at hpl
      · rename_i fields hu
        split at hpl
        · rename_i pl2 hpr
          cases hpl
          have := Jg9 hpr w
          simp only [Instr.build, Sem.run_bind, rZ w hz1, rU w hu, Result.andThen_ok]
          rw [this]
          simp [f']
        · cases hpl
      · rename_i n elem hu
        split at hpl
        · rename_i m hm
          cases hpl
          simp [Instr.build, rZ w hz1, rU w hu, rS w hm, f']
        · cases hpl
      · cases hpl
    · cases h
  · cases h
def zrow (z : Array Value) (n : Nat) : Array Value := (Array.range n).map (z[· % z.size]!)
theorem Jen {g : Gam} {z : Array Value} (h : ARel g z z) (n : Nat) (hz : z.size ≠ 0 ∨ n = 0) : ARel g (zrow z n) (zrow z n) := by
  refine ⟨rfl, fun i h1 _ => ?_⟩
  have hn : i < n := by simpa [zrow] using h1
  have hzs : 0 < z.size := by omega
  have hm : i % z.size < z.size := Nat.mod_lt _ hzs
  have e : (zrow z n)[i] = z[i % z.size] := by
    simp [zrow, hm]
  rw [e]
  exact h.2 _ hm hm
def Jcp (P : Program) (t : TypeId) (n : Nat) : Option (Array Value) :=
  match Jg4 P t with
  | some z => if z.cells.size = n then some z.cells else none
  | none => none
theorem Jb0 {P : Program} {t : TypeId} {n : Nat} {z : Array Value} (h : Jcp P t n = some z) : ∃ v, (P.info? t).bind (·.zero) = some v ∧ v.cells = z ∧ z.size = n ∧ ∀ g, ARel g z z := by
  unfold Jcp at h
  split at h
  · rename_i v hv
    obtain ⟨h1, h2⟩ := Jiw hv
    split at h
    · cases h; exact ⟨v, h1, rfl, by assumption, fun g => ARel.refl_flat h2⟩
    · cases h
  · cases h
def sliceTo (id n e : Nat) : Value := .slice (some ⟨id, 0, none⟩) n (e + 1)
theorem Jc7 {g : Gam} {id n e B sz c : Nat} (h : g id = some ⟨B, 0, sz⟩) (hl : n ≤ c) (hs : c * e ≤ sz) : VRel g (sliceTo id n e) (.slice (some ⟨B, 0, none⟩) n c) :=
  .slice id 0 n (e + 1) ⟨B, 0, sz⟩ 0 c h hl (fun _ => rfl) (fun e => by cases e) (by simpa using hs)
def Ja1 (P : Program) (t : TypeId) (len id : Nat) (parts : Array (Nat × Value)) (σ : St) : Option ARes :=
  match P.underlying t with
  | some (.slice elem) => match sz? P elem with
    | some n => if len * n ≤ 16777216 then match (if len * n = 0 then some #[] else Jcp P elem n) with
        | some z => match Instr.fill (fun i => some (i * n, n)) (zrow z (len * n)) parts.toList with
          | some cells => if cells.size = len * n then some (.val (sliceTo id len n) (Jfx id cells σ)) else none
          | none => none
        | none => none
      else none
    | none => none
  | _ => none
theorem Jnq {P : Program} {t : TypeId} {len id : Nat} {ps ps' : Array (Nat × Value)} {r : ARes} {σ : St} {g : Gam} {w : World} (h : Ja1 P t len id ps σ = some r) (hr : Rel g σ w) (hid : σ.get id = none) (hlt : id < σ.next)
    (hs : ps.size = ps'.size) (hp : ∀ i (h : i < ps.size) (h' : i < ps'.size), ps[i].1 = ps'[i].1 ∧ VRel g ps[i].2 ps'[i].2) :
    OpOk P g σ w (· = id) (do pure (.value (← Instr.buildSlice t len ps'))) r := by
  unfold Ja1 at h
  split at h
  · rename_i elem hu
    split at h
    · rename_i n hn
      split at h
      · rename_i hle
        split at h
        · rename_i z hz
          split at h
          · rename_i cells hf
            split at h
            · rename_i hcs
              cases h
              have hzr : ARel g (zrow z (len * n)) (zrow z (len * n)) := by
                split at hz
                · cases hz; exact Jen ⟨rfl, fun i h => by simp at h⟩ _ (.inr (by assumption))
                · rename_i hne
                  obtain ⟨v, h1, h2, h3, h4⟩ := Jb0 hz
                  exact Jen (h4 g) _ (.inl (by rw [h3]; intro e; subst e; simp at hne))
              obtain ⟨r', f', hr'⟩ := Jr2 ps.toList ps'.toList _ _ cells hf hzr (by simpa using hs) (fun i h1 h2 => by simpa using hp i (by simpa using h1) (by simpa using h2))
              obtain ⟨g', e1, e2, e3, e4, e5⟩ := Jm5 (P := P) hr hid hlt hr' elem
              refine ⟨_, _, g', _, ?_, .inl rfl, Jc7 e3 (Nat.le_refl _) (by rw [← hr'.1, hcs]; exact Nat.le_refl _), e4, e5⟩
              have hgt : ¬ len * n > 2 ^ 24 := by omega
              have f'' : Instr.fill (fun i => some (i * n, n)) (Array.map (fun x => z[x % z.size]!) (Array.range (len * n))) ps'.toList = some r' := f'
              by_cases e0 : len * n = 0
              · rw [if_pos e0] at hz
                cases hz
                simp only [Instr.buildSlice, Sem.run_bind, rU w hu, Result.andThen_ok, rS w hn, if_neg hgt, if_pos e0, Sem.run_pure, f'', e1]
              · rw [if_neg e0] at hz
                obtain ⟨v, h1, h2, h3, h4⟩ := Jb0 hz
                simp only [Instr.buildSlice, Sem.run_bind, rU w hu, Result.andThen_ok, rS w hn, if_neg hgt, if_neg e0, rZ w h1, h2, Sem.run_pure, f'', e1]
            · cases h
          · cases h
        · cases h
      · cases h
    · cases h
  · cases h
theorem OpOk.new {P : Program} {g : Gam} {σ : St} {w : World} {s : Sem Next} {v v' : Value} {σ' : St} {w' : World} {g' : Gam} {N : Nat → Prop} (h : s.run P w = .ok (.value v') w') (hv : VRel g' v v') (hr : Rel g' σ' w') (he : Ext N g g' σ σ' w w') :
    OpOk P g σ w N s (.val v σ') := ⟨_, w', g', v', h, .inl rfl, hv, hr, he⟩
def Jcq (P : Program) (t : TypeId) (id : Nat) (l c : Value) (σ : St) : Option ARes :=
  match P.underlying t, l, c with
  | some (.slice elem), .int _ (.ofNat n), .int _ (.ofNat m) => match P.info? elem with
    | some i => if n ≤ m && m ≤ 9223372036854775807 && i.bytes * m ≤ 281474976710656 then match (if m * i.size = 0 then some #[] else Jcp P elem i.size) with
        | some z => some (.val (sliceTo id n i.size) (Jfx id (zrow z (m * i.size)) σ))
        | none => none
      else none
    | none => none
  | _, _, _ => none
theorem Jk1 {n : Nat} (h : n ≤ 9223372036854775807) : IntKind.i64.wrap (n : Int) = n := by
  simp only [IntKind.wrap, IntKind.signed, IntKind.bits]
  simp
  omega
theorem Jpe {P : Program} {t : TypeId} {id : Nat} {l l' c c' : Value} {r : ARes} {σ : St} {g : Gam} {w : World} (h : Jcq P t id l c σ = some r) (hr : Rel g σ w) (hid : σ.get id = none) (hlt : id < σ.next)
    (hl : VRel g l l') (hc : VRel g c c') : OpOk P g σ w (· = id) (do pure (.value (← Instr.makeSlice t l' c'))) r := by
  unfold Jcq at h
  split at h
  · rename_i elem k n k2 m hu
    cases hl; cases hc
    split at h
    · rename_i i hi
      split at h
      · rename_i hc
        simp only [Bool.and_eq_true, decide_eq_true_eq] at hc
        obtain ⟨⟨c1, c2⟩, c3⟩ := hc
        split at h
        · rename_i z hz
          cases h
          have hs : sz? P elem = some i.size := by simp [sz?, hi]
          have hzr : ARel g (zrow z (m * i.size)) (zrow z (m * i.size)) := by
            split at hz
            · cases hz; exact Jen ⟨rfl, fun i h => by simp at h⟩ _ (.inr (by assumption))
            · rename_i hne
              obtain ⟨v, h1, h2, h3, h4⟩ := Jb0 hz
              exact Jen (h4 g) _ (.inl (by rw [h3]; intro e; rw [e] at hne; simp at hne))
          obtain ⟨g', e1, e2, e3, e4, e5⟩ := Jm5 (P := P) hr hid hlt hzr elem
          have hsz : (zrow z (m * i.size)).size = m * i.size := by simp [zrow]
          rw [hsz] at e3
          refine .new ?_ (Jc7 e3 c1 (Nat.le_refl _)) e4 e5
          have w1 := Jk1 c2
          have w2 := Jk1 (n := n) (by omega)
          have t1 : ¬ ((m : Int) < 0) := by omega
          have t2 : ¬ ((i.bytes : Int) * (m : Int) > 2 ^ 48) := by rw [← Int.natCast_mul]; omega
          have t3 : ¬ ((n : Int) > (m : Int)) := by omega
          have t4 : ¬ ((n : Int) < 0) := by omega
          simp only [Int.ofNat_eq_natCast]
          simp only [Instr.makeSlice, Sem.run_bind, rU w hu, Result.andThen_ok, asInt, asIntOf, Sem.run_pure, rT w hi, w1, w2, rS w hs, run_askRoom]
          simp only [t1, t2, t3, t4, decide_false, Bool.or_self, Bool.or_false, Bool.false_eq_true, if_false, Sem.run_pure, Result.andThen_ok, Int.toNat_natCast, Sem.run_bind, run_askRoom, rS w hs]
          have e1' : (newRow elem ((Array.range (m * i.size)).map (z[· % z.size]!))).run P w = .ok ⟨w.heap.size, 0, none⟩ (newW w (.cells (zrow z (m * i.size)) elem)) := e1
          by_cases e0 : m * i.size = 0
          · rw [if_pos e0] at hz
            cases hz
            simp only [if_pos e0, Sem.run_pure, Result.andThen_ok, Sem.run_bind, e1']
          · rw [if_neg e0] at hz
            obtain ⟨v, h1, h2, h3, h4⟩ := Jb0 hz
            simp only [if_neg e0, Sem.run_bind, rZ w h1, Result.andThen_ok, h2, Sem.run_pure, e1']
        · cases h
      · cases h
    · cases h
  · cases h
def Jib (b : UInt8) : Value := .int .u8 b.toNat
def bytesOf (s : ByteArray) : List Value := s.data.toList.map Jib
def bytes? : List Value → Option (List UInt8)
  | [] => some []
  | .int .u8 n :: r => match bytes? r with
    | some l => some (UInt8.ofNat n.toNat :: l)
    | none => none
  | _ => none
theorem Joe {g : Gam} : ∀ (l l' : List Value) (b : List UInt8), bytes? l = some b → l.length = l'.length → (∀ i (h : i < l.length) (h' : i < l'.length), VRel g l[i] l'[i]) →
    ∃ ns : List Int, l' = ns.map (Value.int .u8) ∧ b = ns.map fun n => UInt8.ofNat n.toNat
  | [], [], b, h, _, _ => ⟨[], rfl, by simp only [bytes?] at h; cases h; rfl⟩
  | [], _ :: _, _, _, h, _ => by simp at h
  | _ :: _, [], _, _, h, _ => by simp at h
  | v :: l, v' :: l', b, h, hl, hv => by
    unfold bytes? at h
    split at h
    · rename_i e; cases e
    · rename_i n r e
      cases e
      split at h
      · rename_i l2 hl2
        cases h
        have h0 := hv 0 (Nat.succ_pos _) (Nat.succ_pos _)
        simp only [List.getElem_cons_zero] at h0
        cases h0
        obtain ⟨ns, e1, e2⟩ := Joe l l' l2 hl2 (by simpa using hl) (fun i h1 h2 => hv (i + 1) (Nat.succ_lt_succ h1) (Nat.succ_lt_succ h2))
        exact ⟨n :: ns, by rw [e1]; rfl, by rw [e2]; rfl⟩
      · cases h
    · cases h
def strOf (b : List UInt8) : ByteArray := ⟨b.toArray⟩
theorem Jx9 (ns : List Int) : ∀ (s : ByteArray), ns.foldl (fun r n => r.push (UInt8.ofNat n.toNat)) s = ⟨s.data ++ (ns.map fun n => UInt8.ofNat n.toNat).toArray⟩ := by
  induction ns with
  | nil => intro s; simp
  | cons n r ih =>
    intro s
    rw [List.foldl_cons, ih]
    simp [ByteArray.push]
def Jbi (x : Value) (σ : St) : Option Value :=
  match x with
  | .slice none 0 0 => some (.string ⟨#[]⟩)
  | .slice (some ⟨A, o, none⟩) len _ => if len = 0 then some (.string ⟨#[]⟩) else match σ.read? A o len with
    | some l => match bytes? l with
      | some b => some (.string (strOf b))
      | none => none
    | none => none
  | _ => none
theorem Jh2 {P : Program} {x x' r : Value} {σ : St} {g : Gam} {w : World} (h : Jbi x σ = some r) (hr : Rel g σ w) (hx : VRel g x x') :
    ∃ r', (Conv.bytesToString x').run P w = .ok r' w ∧ VRel g r r' := by
  unfold Jbi at h
  split at h
  · cases hx; cases h
    exact ⟨.string ⟨#[]⟩, by simp [Conv.bytesToString]; rfl, .string _⟩
  · rename_i A o len k
    cases hx; rename_i y o' c hy ho hl h0 hk
    split at h
    · subst_vars; cases h
      have := run_bytesToString (P := P) w ⟨y.block, o', none⟩ 0 c [] (by simp [loadCells, loadCellsFrom])
      exact ⟨_, this, .string _⟩
    · rename_i hne
      have ho := ho (by omega)
      subst ho
      split at h
      · rename_i l hl2
        split at h
        · rename_i b hb
          cases h
          obtain ⟨vs, e1, e2, e3, e4⟩ := hr.read (P := P) hy hl2
          obtain ⟨ns, p, q⟩ := Joe l vs b hb (by omega) e4
          subst p
          have := run_bytesToString (P := P) w _ len c ns e3
          refine ⟨_, this, ?_⟩
          rw [Jx9]
          subst q
          have : (⟨ByteArray.empty.data ++ (ns.map fun n => UInt8.ofNat n.toNat).toArray⟩ : ByteArray) = strOf (ns.map fun n => UInt8.ofNat n.toNat) := by
            show (⟨#[] ++ _⟩ : ByteArray) = _
            simp [strOf]
          rw [this]
          exact .string _
        · cases h
      · cases h
  · cases h
def Jdu (w : World) : World := { w with drawn := w.drawn + 1 }
theorem Jq9 (w : World) (cs : Array Value) (elem : TypeId) : (newW w (.cells cs elem)).freeze ⟨w.heap.size, cs.size, none⟩ 1 = newW w (.cells cs elem (cs.size, cs.size + 1)) := by
  simp only [World.freeze, newW]
  rw [if_neg (by omega)]
  congr 1
  apply Array.ext_getElem?
  intro i
  simp only [Array.getElem?_modify, Array.getElem?_push]
  by_cases e : i = w.heap.size
  · subst e; simp
  · rw [if_neg (fun e2 => e e2.symm), if_neg e, if_neg e]
theorem Jti (w : World) (cs : Array Value) (elem : TypeId) : (newW w (.cells cs elem)).shape? w.heap.size = some (elem, cs.size) := by
  simp only [World.shape?, Jja]
theorem Jmm {P : Program} {elem : TypeId} {s : ByteArray} {σ : St} {g : Gam} {w : World} (hr : Rel g σ w) {id : Nat} (hid : σ.get id = none) (hlt : id < σ.next) :
    ∃ w' g' v', (Conv.stringToBytes elem s).run P w = .ok v' w' ∧ VRel g' (sliceTo id s.size 1) v' ∧ Rel g' (σ.set id (.cells true 0 id (bytesOf s))) w' ∧ Ext (· = id) g g' σ (σ.set id (.cells true 0 id (bytesOf s))) w w' := by
  obtain ⟨cap, ecap⟩ : ∃ c, c = (Question.appendCap s.size 0 elem).cut (w.tape w.drawn (.appendCap s.size 0 elem)) := ⟨_, rfl⟩
  have hcap : s.size ≤ cap := by rw [ecap]; simp only [Question.cut]; omega
  obtain ⟨cs, ecs⟩ : ∃ c : Array Value, c = (s.data.map fun b => Value.int .u8 b.toNat) ++ Array.replicate (cap - s.size) (.int .u8 0) := ⟨_, rfl⟩
  have hds : s.data.size = s.size := rfl
  have hcs : cs.size = cap := by rw [ecs]; simp [hds]; omega
  have hr1 : Rel g σ (Jdu w) := hr.heap rfl
  obtain ⟨ra, rb⟩ := hr1.new hid hlt cs.size (.cells true 0 id (bytesOf s)) (.cells cs elem (cs.size, cs.size + 1)) (fun own v F c' e => by cases e; rfl)
    ⟨cs, elem, _, Jja _ _, rfl, fun _ i hi => by
      have hi' : i < s.data.size := by simpa [bytesOf] using hi
      refine ⟨.int .u8 (s.data[i]).toNat, ?_, ?_⟩
      · rw [ecs]
        rw [Array.getElem?_append_left (by simpa using hi')]
        simp only [Nat.zero_add, Array.getElem?_map, Array.getElem?_eq_getElem hi', Option.map_some]
      · have : (bytesOf s)[i] = .int .u8 (s.data[i]).toNat := by simp [bytesOf, Jib]
        rw [this]; exact .int _ _, fun _ i (hi : i < cs.size) => by simp only; omega⟩
  have hb : (Jdu w).heap.size = w.heap.size := rfl
  rw [hb] at ra rb
  have hxt : Ext (· = id) g (g.add id ⟨w.heap.size, 0, cs.size⟩) σ (σ.set id (.cells true 0 id (bytesOf s))) w (newW (Jdu w) (.cells cs elem (cs.size, cs.size + 1))) :=
    (Ext.heap (N := (· = id)) (g := g) (σ := σ) (w := w) (w' := Jdu w) rfl rfl rfl rfl).trans rb
  refine ⟨_, _, .slice (some ⟨w.heap.size, 0, none⟩) s.size cap, ?_, Jc7 (Gam.add_self g id _) hcap (by rw [hcs]; omega), ra, hxt⟩
  have hq : (Question.appendCap s.size 0 elem).forced = false := rfl
  have hrow := Jck (P := P) (Jdu w) elem cs
  have hfz := Jq9 (Jdu w) cs elem
  have hsh := Jti (Jdu w) cs elem
  rw [hb] at hrow hfz hsh
  have hdraw : ({ w with drawn := w.drawn + 1 } : World) = Jdu w := rfl
  simp only [Conv.stringToBytes, Sem.run_bind, run_choose, hq, Bool.false_eq_true, if_false, Result.andThen_ok, hdraw, ← ecap, ← ecs, hrow]
  simp only [markStringish, Sem.run_bind, run_shape, hsh, run_freeze, hfz, Sem.run_pure, Result.andThen_ok]
def Jbq (P : Program) (src dst : TypeId) (id : Nat) (x : Value) (σ : St) : Option ARes :=
  match P.underlying src, P.underlying dst, x with
  | some .string, some (.slice e), .string s => match P.underlying e with
    | some (.int .u8) => some (.val (sliceTo id s.size 1) (σ.set id (.cells true 0 id (bytesOf s))))
    | _ => none
  | some (.slice e), some .string, .slice _ _ _ => match P.underlying e with
    | some (.int .u8) => match Jbi x σ with
      | some r => some (.val r σ)
      | none => none
    | _ => none
  | _, _, _ => none
theorem Jtu {P : Program} {src dst : TypeId} {id : Nat} {x x' : Value} {r : ARes} {σ : St} {g : Gam} {w : World} (h : Jbq P src dst id x σ = some r) (hr : Rel g σ w) (hid : σ.get id = none) (hlt : id < σ.next) (hx : VRel g x x') :
    OpOk P g σ w (· = id) (do pure (.value (← convert src dst x'))) r := by
  unfold Jbq at h
  split at h
  · rename_i e s hu hu2
    cases hx
    split at h
    · rename_i hue
      cases h
      obtain ⟨w', g', v', e1, e2, e3, e4⟩ := Jmm (P := P) (elem := e) (s := s) hr hid hlt
      refine .new ?_ e2 e3 e4
      simp [convert, rU w hu, rU w hu2, rU w hue, e1]
    · cases h
  · rename_i e a l c hu hu2
    split at h
    · rename_i hue
      split at h
      · rename_i r2 hr2
        cases h
        obtain ⟨r', e1, e2⟩ := Jh2 (P := P) hr2 hr hx
        refine .val0 hr ?_ e2
        cases hx <;> simp [convert, rU w hu, rU w hu2, rU w hue, e1]
      · cases h
    · cases h
  · cases h
def LRel (g : Gam) (l l' : List Value) : Prop := l.length = l'.length ∧ ∀ i (h : i < l.length) (h' : i < l'.length), VRel g l[i] l'[i]
theorem LRel.nil (g : Gam) : LRel g [] [] := ⟨rfl, fun i h => by simp at h⟩
theorem LRel.refl_ints (g : Gam) (l : List Value) (h : ∀ v ∈ l, VRel g v v) : LRel g l l := ⟨rfl, fun i h1 h2 => h _ (List.getElem_mem _)⟩
def len? : Value → Option Nat
  | .slice _ n _ => some n
  | .string s => some s.size
  | _ => none
def src? (e n : Nat) (x : Value) (σ : St) : Option (List Value) :=
  match x with
  | .slice (some ⟨B, o, none⟩) len _ => if n ≤ len then (if n = 0 then some [] else σ.read? B o (n * e)) else none
  | .slice none 0 0 => if n = 0 then some [] else none
  | .string s => if n ≤ s.size ∧ e = 1 then some ((bytesOf s).take n) else none
  | _ => none
theorem Kfc {P : Program} {x x' : Value} {n : Nat} {g : Gam} (w : World) (h : len? x = some n) (hx : VRel g x x') : (Builtin.lenOf x').run P w = .ok n w := by
  unfold len? at h
  split at h
  · cases h; cases hx <;> simp [Builtin.lenOf]
  · cases h; cases hx; simp [Builtin.lenOf]
  · cases h
theorem Keb {P : Program} {x x' : Value} {e n : Nat} {l : List Value} {g : Gam} {σ : St} {w : World} (h : src? e n x σ = some l) (hr : Rel g σ w) (hx : VRel g x x') :
    l.length = n * e ∧ ∃ l' : List Value, LRel g l l' ∧ ∀ w2 : World, w2.heap = w.heap → (Builtin.firstCells e n x').run P w2 = .ok l'.toArray w2 := by
  unfold src? at h
  split at h
  · cases hx; rename_i B o len k y o' c hy ho hl h0 hk
    split at h
    · split at h
      · subst_vars; cases h
        exact ⟨by simp, [], LRel.nil g, fun w2 _ => by simp [Builtin.firstCells, loadCells, loadCellsFrom]⟩
      · rename_i hle hne
        have ho := ho (by omega)
        subst ho
        obtain ⟨vs, e1, e2, e3, e4⟩ := hr.readW (P := P) hy h
        exact ⟨e2, vs, ⟨by omega, e4⟩, fun w2 hw => by simp [Builtin.firstCells, e3 w2 hw]⟩
    · cases h
  · cases hx
    split at h
    · cases h; subst_vars
      exact ⟨by simp, [], LRel.nil g, fun w2 _ => by simp [Builtin.firstCells]⟩
    · cases h
  · rename_i s
    cases hx
    split at h
    · rename_i hc
      obtain ⟨c1, rfl⟩ := hc
      cases h
      have hds : s.data.size = s.size := rfl
      refine ⟨by simp [bytesOf]; omega, _, LRel.refl_ints g _ (fun v hv => ?_), fun w2 _ => ?_⟩
      · have := List.mem_of_mem_take hv
        simp only [bytesOf, List.mem_map] at this
        obtain ⟨b, _, rfl⟩ := this
        exact .int _ _
      · simp only [Builtin.firstCells, Sem.run_pure]
        congr 1
        apply Array.ext'
        simp [bytesOf, ByteArray.data_extract, List.map_take]
        rfl
    · cases h
  · cases h
theorem Kfo (L : Nat) : ∀ (r c : Nat), c ≤ L + (L + 768) / 4 → Builtin.growBy L r c ≤ L + (L + 768) / 4 := by
  intro r
  induction r with
  | zero => intro c h; exact h
  | succ r ih =>
    intro c h
    simp only [Builtin.growBy]
    split
    · exact h
    · exact ih _ (by omega)
theorem Kcb (need old : Nat) (h : old < need) : Builtin.nextslicecap need old ≤ 2 * need + 1000 := by
  unfold Builtin.nextslicecap
  split
  · omega
  · split
    · omega
    · have := Kfo need 4 old (by omega); omega
structure Kbk (P : Program) (w : World) (xT : TypeId) (elem : TypeId) (i : TypeInfo) (x' : Value) (n : Nat) (nc : List Value) : Prop where
  kind : (((∃ e, P.underlying xT = some (.slice e)) ∨ P.underlying xT = some .string) ∧ (Builtin.lenOf x').run P w = .ok n w ∧ ∀ w2 : World, w2.heap = w.heap → (Builtin.firstCells i.size n x').run P w2 = .ok nc.toArray w2) ∨
    ((∃ k, P.underlying xT = some (.int k)) ∧ (∃ k, x' = .int k (n : Int)) ∧ n ≤ 9223372036854775807 ∧ n * i.bytes ≤ 281474976710656 ∧ ∃ z, (P.info? elem).bind (·.zero) = some z ∧ ((n * i.size = 0 ∧ nc = []) ∨ (n * i.size ≠ 0 ∧ nc.toArray = Builtin.zeroCells z.cells n)))
theorem Jlz {P : Program} {w : World} {sT xT ty elem : TypeId} {i : TypeInfo} {base : Option Addr} {sLen sCap : Nat} {x' : Value} {n : Nat} {nc : List Value} {w' : World}
    (hu : P.underlying sT = some (.slice elem)) (hi : P.info? elem = some i) (h : Kbk P w xT elem i x' n nc) (hfit : sLen + n ≤ sCap)
    (hst : match base with | some a => (storeCells (a.add (sLen * i.size)) nc).run P w = .ok () w' | none => w' = w) :
    (Builtin.append_ #[sT, xT] ty #[.slice base sLen sCap, x']).run P w = .ok (.slice base (sLen + n) sCap) w' := by
  have hs : sz? P elem = some i.size := by simp [sz?, hi]
  have fin : Sem.run P (match base with
      | some a => (fun a => Value.slice base (sLen + n) sCap) <$> storeCells (a.add (sLen * i.size)) nc
      | x => pure (Value.slice base (sLen + n) sCap)) w = .ok (.slice base (sLen + n) sCap) w' := by
    cases base with
    | none => subst hst; rfl
    | some a => simp only [Sem.run_map, hst, Result.andThen_ok]
  rcases h.kind with ⟨hux, hl, hf⟩ | ⟨⟨k, hux⟩, ⟨k2, rfl⟩, h63, h48, z, hz, hnc⟩
  · rcases hux with ⟨e, hux⟩ | hux
    all_goals
      simp [Builtin.append_, rU w hu, rS w hs, rU w hux, hl, hfit, hf w rfl]
      exact fin
  · have hw := Jk1 h63
    have h1 : ¬ ((n : Int) < 0) := by omega
    have h2 : ¬ (281474976710656 < (n : Int) * (i.bytes : Int)) := by rw [← Int.natCast_mul]; omega
    rcases hnc with ⟨h0, rfl⟩ | ⟨h0, hnc⟩
    · simp [Builtin.append_, rU w hu, rS w hs, rU w hux, asInt, asIntOf, hw, h1, rT w hi, h2, hfit, h0]
      exact fin
    · have e : Builtin.zeroCells z.cells n = nc.toArray := hnc.symm
      simp [Builtin.append_, rU w hu, rS w hs, rU w hux, asInt, asIntOf, hw, h1, rT w hi, h2, hfit, h0, rZ w hz, e]
      exact fin
theorem Jl0 {P : Program} {w : World} {sT xT ty elem : TypeId} {i : TypeInfo} {base : Option Addr} {sLen sCap : Nat} {x' z : Value} {n : Nat} {nc oc : List Value}
    (hu : P.underlying sT = some (.slice elem)) (hi : P.info? elem = some i) (hz : (P.info? elem).bind (·.zero) = some z) (h : Kbk P w xT elem i x' n nc) (hfit : ¬ sLen + n ≤ sCap)
    (ho : ∀ w2 : World, w2.heap = w.heap → (Builtin.firstCells i.size sLen (.slice base sLen sCap)).run P w2 = .ok oc.toArray w2)
    (hb : sLen + n ≤ 9223372036854775807) (hn : (2 * (sLen + n) + 1000) * i.bytes ≤ 281474976710656) :
    ∃ cap, sLen + n ≤ cap ∧ (Builtin.append_ #[sT, xT] ty #[.slice base sLen sCap, x']).run P w =
      .ok (.slice (some ⟨w.heap.size, 0, none⟩) (sLen + n) cap) (newW (Jdu w) (.cells (oc.toArray ++ (nc.toArray ++ Builtin.zeroCells z.cells (cap - (sLen + n)))) elem)) := by
  have hs : sz? P elem = some i.size := by simp [sz?, hi]
  have hq : (Question.appendCap (sLen + n) sCap elem).forced = false := rfl
  have hb' : ¬ 9223372036854775807 < (sLen : Int) + (n : Int) := by omega
  have hn' : ¬ 281474976710656 < Builtin.nextslicecap (sLen + n) sCap * i.bytes := by
    have h1 := Nat.mul_le_mul_right i.bytes (Kcb (sLen + n) sCap (by omega))
    omega
  have hdr : w.drew = Jdu w := rfl
  have hds : (Jdu w).heap.size = w.heap.size := rfl
  refine ⟨(Question.appendCap (sLen + n) sCap elem).cut (w.tape w.drawn (.appendCap (sLen + n) sCap elem)), by simp only [Question.cut]; omega, ?_⟩
  rcases h.kind with ⟨hux, hl, hf⟩ | ⟨⟨k, hux⟩, ⟨k2, rfl⟩, h63, h48, z2, hz2, hnc⟩
  · rcases hux with ⟨e, hux⟩ | hux
    all_goals
      simp [Builtin.append_, rU w hu, rS w hs, rU w hux, hl, hfit, hb', hn', rT _ hi, hq, ho (Jdu w) rfl, hf (Jdu w) rfl, rZ _ hz, Jck, hdr, hds]
  · have hw := Jk1 h63
    have h1 : ¬ ((n : Int) < 0) := by omega
    have h2 : ¬ (281474976710656 < (n : Int) * (i.bytes : Int)) := by rw [← Int.natCast_mul]; omega
    rw [hz] at hz2
    cases hz2
    rcases hnc with ⟨h0, rfl⟩ | ⟨h0, hnc⟩
    · simp [Builtin.append_, rU w hu, rS w hs, rU w hux, asInt, asIntOf, hw, h1, h2, hfit, hb', hn', rT _ hi, hq, ho (Jdu w) rfl, h0, rZ _ hz, Jck, hdr, hds]
    · have e : Builtin.zeroCells z.cells n = nc.toArray := hnc.symm
      simp [Builtin.append_, rU w hu, rS w hs, rU w hux, asInt, asIntOf, hw, h1, h2, hfit, hb', hn', rT _ hi, hq, ho (Jdu w) rfl, h0, rZ _ hz, Jck, hdr, hds, e]
def Jh6 (P : Program) (xT : TypeId) (i : TypeInfo) (z : Array Value) (x : Value) (σ : St) : Option (Nat × List Value) :=
  match P.underlying xT with
  | some (.slice _) => match len? x with
    | some n => (src? i.size n x σ).map (n, ·)
    | none => none
  | some .string => match len? x with
    | some n => (src? i.size n x σ).map (n, ·)
    | none => none
  | some (.int _) => match x with
    | .int _ (.ofNat n) => if n ≤ 9223372036854775807 ∧ n * i.bytes ≤ 281474976710656 then some (n, if n * i.size = 0 then [] else (zrow z (n * i.size)).toList) else none
    | _ => none
  | _ => none
theorem Kf1 {P : Program} {xT elem : TypeId} {i : TypeInfo} {z : Array Value} {x x' : Value} {σ : St} {n : Nat} {nc : List Value} {g : Gam} {w : World} (h : Jh6 P xT i z x σ = some (n, nc))
    (hz : Jcp P elem i.size = some z) (hr : Rel g σ w) (hx : VRel g x x') : nc.length = n * i.size ∧ ∃ nc', LRel g nc nc' ∧ Kbk P w xT elem i x' n nc' := by
  have plain : ∀ {d : TypeDesc} (_ : P.underlying xT = some d) (_ : (∃ e, P.underlying xT = some (.slice e)) ∨ P.underlying xT = some .string),
      (match len? x with | some n => (src? i.size n x σ).map (n, ·) | none => none) = some (n, nc) → nc.length = n * i.size ∧ ∃ nc', LRel g nc nc' ∧ Kbk P w xT elem i x' n nc' := by
    intro d hu hk h
    split at h
    · rename_i m hm
      cases hs : src? i.size m x σ with
      | none => rw [hs] at h; cases h
      | some l =>
        rw [hs] at h
        simp only [Option.map_some, Option.some.injEq, Prod.mk.injEq] at h
        obtain ⟨rfl, rfl⟩ := h
        obtain ⟨e1, l', e2, e3⟩ := Keb (P := P) hs hr hx
        exact ⟨e1, l', e2, ⟨.inl ⟨hk, Kfc w hm hx, e3⟩⟩⟩
    · cases h
  unfold Jh6 at h
  split at h
  · rename_i e hu
    exact plain hu (.inl ⟨e, hu⟩) h
  · rename_i hu
    exact plain hu (.inr hu) h
  · rename_i k hu
    split at h
    · rename_i k2 m
      split at h
      · rename_i hc
        simp only [Option.some.injEq, Prod.mk.injEq] at h
        obtain ⟨rfl, rfl⟩ := h
        cases hx
        obtain ⟨v, h1, h2, h3, h4⟩ := Jb0 hz
        by_cases h0 : m * i.size = 0
        · rw [if_pos h0]
          exact ⟨by simp [h0], [], LRel.nil g, ⟨.inr ⟨⟨k, hu⟩, ⟨k2, rfl⟩, hc.1, hc.2, v, h1, .inl ⟨h0, rfl⟩⟩⟩⟩
        · rw [if_neg h0]
          have hzr := Jen (h4 g) (m * i.size) (.inl (by rw [h3]; intro e; rw [e] at h0; simp at h0))
          refine ⟨by simp [zrow], (zrow z (m * i.size)).toList, ?_, ⟨.inr ⟨⟨k, hu⟩, ⟨k2, rfl⟩, hc.1, hc.2, v, h1, .inr ⟨h0, ?_⟩⟩⟩⟩
          · exact ⟨rfl, fun j a b => by simpa using hzr.2 j (by simpa using a) (by simpa using a)⟩
          · rw [h2]; simp only [zrow, Builtin.zeroCells, h3, Array.toArray_toList]
      · cases h
    · cases h
  · cases h
def Ji8 (P : Program) (sT xT : TypeId) (id : Nat) (s x : Value) (σ : St) : Option ARes :=
  match P.underlying sT with
  | some (.slice elem) => match P.info? elem with
    | some i => match Jcp P elem i.size with
      | some z => match Jh6 P xT i z x σ with
        | some (n, nc) => match s with
          | .slice base len k =>
            if n = 0 then some (.val s σ)
            else if len + n ≤ 9223372036854775807 ∧ (2 * (len + n) + 1000) * i.bytes ≤ 281474976710656 then
              match k with
              | 0 => if len = 0 then some (.val (sliceTo id n i.size) (σ.set id (.cells true 0 id nc))) else none
              | k' + 1 => match base with
                | some ⟨A, o, none⟩ => if k' = i.size ∧ nc.all (·.oneCell') = true then match σ.get A with
                    | some (.cells true ver F c) => if o + len * i.size ≤ c.length then some (.val (sliceTo id (len + n) i.size) (Jj8 σ A id ver F c o (o + len * i.size) nc)) else none
                    | _ => none
                  else none
                | _ => none
            else none
          | _ => none
        | none => none
      | none => none
    | none => none
  | _ => none
theorem Jjo (z : Array Value) (n : Nat) : (Builtin.zeroCells z n).size = n * z.size := by simp [Builtin.zeroCells]
theorem Jx1 {P : Program} {sT xT ty : TypeId} {id : Nat} {s s' x x' : Value} {r : ARes} {σ : St} {g : Gam} {w : World} (h : Ji8 P sT xT id s x σ = some r) (hr : Rel g σ w) (hid : σ.get id = none) (hlt : id < σ.next)
    (hs : VRel g s s') (hx : VRel g x x') : OpOk P g σ w (· = id) (do pure (.value (← Builtin.append_ #[sT, xT] ty #[s', x']))) r := by
  have gid : g id = none := by
    cases e : g id with
    | none => rfl
    | some x => obtain ⟨o, ho, _⟩ := hr.obj id x e; rw [hid] at ho; cases ho
  unfold Ji8 at h
  split at h
  · rename_i elem hu
    split at h
    · rename_i i hi
      split at h
      · rename_i z hz
        obtain ⟨v, hz1, hz2, hz3, hz4⟩ := Jb0 hz
        split at h
        · rename_i n nc hsrc
          obtain ⟨hlen, nc', hnc, hsrc'⟩ := Kf1 hsrc hz hr hx
          have hlen' : nc'.length = n * i.size := by rw [← hnc.1]; exact hlen
          have fresh : ∀ (c : Nat) (base : Option Addr), (¬ 0 + n ≤ c) → (∀ w2 : World, w2.heap = w.heap → (Builtin.firstCells i.size 0 (.slice base 0 c)).run P w2 = .ok [].toArray w2) → 0 + n ≤ 9223372036854775807 → (2 * (0 + n) + 1000) * i.bytes ≤ 281474976710656 →
              OpOk P g σ w (· = id) (do pure (.value (← Builtin.append_ #[sT, xT] ty #[.slice base 0 c, x']))) (.val (sliceTo id n i.size) (σ.set id (.cells true 0 id nc))) := by
            intro c base hfit ho hb hn
            obtain ⟨cap, hcap, hrun⟩ := Jl0 (ty := ty) hu hi hz1 hsrc' hfit ho hb hn
            obtain ⟨cs, ecs⟩ : ∃ cs : Array Value, cs = ([].toArray ++ (nc'.toArray ++ Builtin.zeroCells v.cells (cap - (0 + n)))) := ⟨_, rfl⟩
            have hcs : cs.size = cap * i.size := by
              rw [ecs]
              simp only [Array.size_append, List.size_toArray, List.length_nil, Jjo, hz2, hz3, hlen']
              rw [Nat.zero_add, ← Nat.add_mul]; congr 1; omega
            obtain ⟨ra, rb⟩ := (hr.heap (w' := Jdu w) rfl).newCells hid hlt nc cs elem (by rw [hcs, hlen]; exact Nat.mul_le_mul_right _ (by omega)) (fun j h1 h2 => by
              have h1' : j < nc'.length := by rw [← hnc.1]; exact h1
              have : cs[j] = nc'[j] := by
                have e : cs[j]? = some nc'[j] := by
                  rw [ecs]
                  simp [List.getElem?_append_left h1', h1']
                  rw [Array.getElem?_append_left (by simpa using h1')]
                  simp [h1']
                rw [Array.getElem?_eq_getElem h2] at e
                exact Option.some.inj e
              rw [this]
              exact hnc.2 j h1 h1')
            have hds : (Jdu w).heap.size = w.heap.size := rfl
            rw [hds] at ra rb
            refine .new (by rw [← ecs, Nat.zero_add] at hrun; simp only [Sem.run_bind, hrun, Result.andThen_ok, Sem.run_pure]; rfl) (Jc7 (Gam.add_self g id _) (by omega) (by rw [hcs]; exact Nat.le_refl _)) ra ?_
            exact (Ext.heap (N := (· = id)) (g := g) (σ := σ) (w := w) (w' := Jdu w) rfl rfl rfl rfl).trans rb
          split at h
          · rename_i base len k
            split at h
            · cases h
              subst_vars
              have hnil : nc' = [] := List.eq_nil_of_length_eq_zero (by rw [hlen']; simp)
              subst hnil
              have key : ∀ (b : Option Addr) (c : Nat), len ≤ c → (Builtin.append_ #[sT, xT] ty #[.slice b len c, x']).run P w = .ok (.slice b len c) w := fun b c hc =>
                Jlz (ty := ty) hu hi hsrc' (by omega) (by cases b <;> rfl)
              cases hs with
              | nilSlice => exact .val0 hr (by simp only [Sem.run_bind, key none 0 (Nat.le_refl _), Result.andThen_ok, Sem.run_pure]) .nilSlice
              | slice A o _ _ y o' c hy hl ho h0 hk => exact .val0 hr (by simp only [Sem.run_bind, key _ c hl, Result.andThen_ok, Sem.run_pure]) (.slice A o _ _ y o' c hy hl ho h0 hk)
            · rename_i hn0
              split at h
              · rename_i hbd
                obtain ⟨hb, hn⟩ := hbd
                split at h
                · split at h
                  · cases h
                    subst_vars
                    cases hs with
                    | nilSlice => exact fresh 0 none (by omega) (fun w2 _ => by simp [Builtin.firstCells]) hb hn
                    | slice A o _ _ y o' c hy hl ho h0 hk =>
                      have := h0 rfl
                      subst this
                      exact fresh 0 _ (by omega) (fun w2 _ => by simp [Builtin.firstCells, loadCells, loadCellsFrom]) hb hn
                  · cases h
                · rename_i k'
                  split at h
                  · rename_i A o
                    split at h
                    · rename_i hk1
                      obtain ⟨rfl, hone⟩ := hk1
                      split at h
                      · rename_i ver F c hA
                        split at h
                        · rename_i hq
                          cases h
                          cases hs; rename_i y o' cc hy ho hl h0 hk
                          have hk : o' + cc * i.size ≤ y.size := hk
                          have hone' : ∀ v ∈ nc', v.oneCell' = true := fun v hv => by
                            obtain ⟨j, hj, rfl⟩ := List.getElem_of_mem hv
                            rw [Jnr (hnc.2 j (by rw [hnc.1]; exact hj) hj)]
                            rw [List.all_eq_true] at hone
                            exact hone _ (List.getElem_mem _)
                          obtain ⟨ob, hob, hsays⟩ := hr.obj A y hy
                          rw [hA] at hob; cases hob
                          obtain ⟨cs, el, fr, hblk, hsz, hcont, hfr⟩ := hsays
                          have hcont := hcont rfl
                          have hfr := hfr rfl
                          by_cases hfit : len + n ≤ cc
                          · -- in place
                            have ho := ho (by omega)
                            subst ho
                            have hroom : y.base + o + len * i.size + nc'.length ≤ cs.size := by
                              rw [hlen', hsz]
                              have : (len + n) * i.size ≤ cc * i.size := Nat.mul_le_mul_right _ hfit
                              rw [Nat.add_mul] at this
                              omega
                            have hst : (storeCells ((⟨y.block, y.base + o, none⟩ : Addr).add (len * i.size)) nc').run P w = .ok () (w.setCells y.block (y.base + o + len * i.size) nc') := by
                              rw [Jlp]
                              have := run_storeCells_cells (P := P) y.block (y.base + o + len * i.size) nc' 0 w (fun j hj => by
                                  rw [Nat.add_zero, Jna hblk, Array.getElem?_eq_getElem (by omega)]; rfl)
                                (fun j hj => by
                                  rw [Nat.add_zero, Jq8 hblk]
                                  have := hfr (y.base + o + len * i.size + j) (by omega)
                                  by_cases e1 : fr.1 ≤ y.base + o + len * i.size + j
                                  · have e2 : ¬ y.base + o + len * i.size + j < fr.2 := fun e => this ⟨e1, e⟩
                                    simp [e2]
                                  · simp [e1]) hone'
                              simpa using this
                            have hrun := Jlz (ty := ty) (base := some ⟨y.block, y.base + o, none⟩) hu hi hsrc' hfit hst
                            obtain ⟨r1, r2, r3, r4⟩ := Jg8 y.block nc' (y.base + o + len * i.size) w
                            obtain ⟨ra, rb⟩ := hr.appCore (w' := w.setCells y.block (y.base + o + len * i.size) nc') (nc := nc) hid hlt hy hA hq (Nat.le_add_right _ _) ⟨y.block, y.base + o, y.size⟩ (by rw [r1]; exact Nat.le_refl _) (by rw [r1]; exact hr.blk A y hy)
                              ⟨_, el, fr, Jdx _ _ _ _ _ _ _ hblk, by rw [Jkk]; exact hsz, fun j hj => by
                                have hdl : ((c.take (o + len * i.size)).drop o).length = len * i.size := by simp; omega
                                by_cases hj2 : j < len * i.size
                                · obtain ⟨v', a, b⟩ := hcont (o + j) (by omega)
                                  refine ⟨v', ?_, ?_⟩
                                  · show (layA cs (y.base + o + len * i.size) nc')[y.base + o + j]? = some v'
                                    rw [Jkl _ _ _ _ (.inl (by omega)), Nat.add_assoc]; exact a
                                  · rw [List.getElem_append_left (by omega)]
                                    simpa using b
                                · have hj3 : j - len * i.size < nc'.length := by
                                    rw [List.length_append, hdl] at hj; rw [← hnc.1]; omega
                                  refine ⟨nc'[j - len * i.size], ?_, ?_⟩
                                  · show (layA cs (y.base + o + len * i.size) nc')[y.base + o + j]? = some _
                                    have := Kfe nc' cs (y.base + o + len * i.size) (j - len * i.size) hj3 hroom
                                    rw [show y.base + o + j = y.base + o + len * i.size + (j - len * i.size) by omega]; exact this
                                  · rw [List.getElem_append_right (by omega)]
                                    simp only [hdl]
                                    exact hnc.2 _ _ _, hfr⟩
                              (fun b _ hb2 => Jdk _ _ _ _ _ hb2)
                              (fun cs2 el2 fr2 h2 => ⟨_, Jdx _ _ _ _ _ _ _ h2, Jkk _ _ _, fun j hj => Jkl _ _ _ _ (.inl (by omega))⟩)
                              (.inl ⟨rfl, rfl⟩) ⟨r2, r3, r4⟩
                            refine .new (by simp only [Sem.run_bind, hrun, Result.andThen_ok, Sem.run_pure]; rfl) ?_ ra rb
                            exact .slice id 0 (len + n) (i.size + 1) ⟨y.block, y.base + o, y.size⟩ _ cc (Gam.add_self g id _) hfit (fun _ => rfl) (fun e => by cases e) (by simpa using hk)
                          · -- a new block
                            have hold : ∃ oc : List Value, oc.length = len * i.size ∧ (∀ j (hj : j < len * i.size) (hj' : j < oc.length), ∃ hc : o + j < c.length, VRel g c[o + j] oc[j]) ∧
                                ∀ w2 : World, w2.heap = w.heap → (Builtin.firstCells i.size len (.slice (some ⟨y.block, o', none⟩) len cc)).run P w2 = .ok oc.toArray w2 := by
                              by_cases hl0 : len = 0
                              · subst hl0
                                exact ⟨[], by simp, fun j hj => by simp at hj, fun w2 _ => by simp [Builtin.firstCells, loadCells, loadCellsFrom]⟩
                              · have ho := ho (by omega)
                                subst ho
                                have hrd : σ.read? A o (len * i.size) = some ((c.drop o).take (len * i.size)) := by
                                  simp [St.read?, St.cells?, hA, St.rd_own, sub?, hq]
                                obtain ⟨vs, e1, e2, e3, e4⟩ := hr.readW (P := P) hy hrd
                                refine ⟨vs, e1, fun j hj hj' => ⟨by omega, ?_⟩, fun w2 hw => by simp [Builtin.firstCells, e3 w2 hw]⟩
                                have := e4 j (by omega) hj'
                                simpa using this
                            obtain ⟨oc, ho1, ho2, ho3⟩ := hold
                            obtain ⟨cap, hcap, hrun⟩ := Jl0 (ty := ty) hu hi hz1 hsrc' hfit ho3 hb hn
                            obtain ⟨ncs, encs⟩ : ∃ ncs : Array Value, ncs = (oc.toArray ++ (nc'.toArray ++ Builtin.zeroCells v.cells (cap - (len + n)))) := ⟨_, rfl⟩
                            have hncs : ncs.size = cap * i.size := by
                              rw [encs]
                              simp only [Array.size_append, List.size_toArray, Jjo, hz2, hz3, hlen', ho1]
                              rw [← Nat.add_mul, ← Nat.add_mul]; congr 1; omega
                            rw [← encs] at hrun
                            have hds : (Jdu w).heap = w.heap := rfl
                            have hnew := Jja (Jdu w) (.cells ncs elem)
                            rw [show (Jdu w).heap.size = w.heap.size from rfl] at hnew
                            obtain ⟨ra, rb⟩ := hr.appCore (w' := newW (Jdu w) (.cells ncs elem)) (nc := nc) hid hlt hy hA hq (Nat.le_add_right _ _) ⟨w.heap.size, 0, ncs.size⟩ (by rw [Jgk, hds]; omega) (show w.heap.size < _ by rw [Jgk, hds]; omega)
                              ⟨ncs, elem, (0, 0), hnew, rfl, fun j hj => by
                                have hdl : ((c.take (o + len * i.size)).drop o).length = len * i.size := by simp; omega
                                simp only [Nat.zero_add]
                                by_cases hj2 : j < len * i.size
                                · have hj3 : j < oc.length := by omega
                                  obtain ⟨hc1, hc2⟩ := ho2 j hj2 hj3
                                  refine ⟨oc[j], ?_, ?_⟩
                                  · rw [encs, Array.getElem?_append_left (by simpa using hj3)]; simp [hj3]
                                  · rw [List.getElem_append_left (by omega)]
                                    simpa using hc2
                                · have hj3 : j - len * i.size < nc'.length := by
                                    rw [List.length_append, hdl] at hj; rw [← hnc.1]; omega
                                  refine ⟨nc'[j - len * i.size], ?_, ?_⟩
                                  · rw [encs, Array.getElem?_append_right (by simp; omega), Array.getElem?_append_left (by simp [ho1]; omega)]
                                    simp [ho1, hj3]
                                  · rw [List.getElem_append_right (by omega)]
                                    simp only [hdl]
                                    exact hnc.2 _ _ _, fun j _ => by simp⟩
                              (fun b hb1 _ => Jfz (Jdu w) _ b hb1)
                              (fun cs2 el2 fr2 h2 => ⟨cs2, by rw [Jfz (Jdu w) _ _ (hr.blk A y hy)]; exact h2, rfl, fun j _ => rfl⟩)
                              (.inr (Nat.le_refl _)) ⟨rfl, rfl, rfl⟩
                            exact .new (by simp only [Sem.run_bind, hrun, Result.andThen_ok, Sem.run_pure]) (Jc7 (Gam.add_self g id _) hcap (by rw [hncs]; exact Nat.le_refl _)) ra rb
                        · cases h
                      · cases h
                    · cases h
                  · cases h
              · cases h
          · cases h
        · cases h
      · cases h
    · cases h
  · cases h
def Jnz (A o : Nat) (nc : List Value) (σ : St) : Option St :=
  match σ.get A with
  | some (.cells true ver F c) => if o + nc.length ≤ c.length ∧ nc.all (·.oneCell') = true then some (σ.set A (.cells true (ver + 1) F (lay c o nc))) else none
  | _ => none
theorem Jq1 {P : Program} {A o : Nat} {nc nc' : List Value} {σ σ' : St} {g : Gam} {w : World} {x : CA} (h : Jnz A o nc σ = some σ') (hr : Rel g σ w) (hx : g A = some x) (hn : LRel g nc nc') :
    ∃ w', (storeCells ⟨x.block, x.base + o, none⟩ nc').run P w = .ok () w' ∧ Rel g σ' w' ∧ Ext (fun _ => False) g g σ σ' w w' := by
  unfold Jnz at h
  split at h
  · rename_i ver F c hA
    split at h
    · rename_i hc
      cases h
      obtain ⟨r1, r2, r3⟩ := hr.store (P := P) (o := o) (c := c) hx hA hc.1 hn.1.symm hn.2 (fun v hv => by have := hc.2; rw [List.all_eq_true] at this; exact this v hv)
      exact ⟨_, r1, r2, r3⟩
    · cases h
  · cases h
def Kau (P : Program) (dT : TypeId) (d s : Value) (σ : St) : Option ARes :=
  match P.underlying dT with
  | some (.slice elem) => match sz? P elem, len? s with
    | some e, some m => match d with
      | .slice none 0 0 => some (.val (.int .i64 0) σ)
      | .slice (some ⟨A, o, none⟩) len _ => if Nat.min m len = 0 then some (.val (.int .i64 0) σ) else match src? e (Nat.min m len) s σ with
        | some nc => match Jnz A o nc σ with
          | some σ' => some (.val (.int .i64 (Nat.min m len : Nat)) σ')
          | none => none
        | none => none
      | _ => none
    | _, _ => none
  | _ => none
theorem Kaj {P : Program} {s s' : Value} {m e : Nat} {g : Gam} {w : World} (h : len? s = some m) (hs : VRel g s s') : (Builtin.firstCells e 0 s').run P w = .ok #[] w := by
  unfold len? at h
  split at h
  · cases h; cases hs <;> simp [Builtin.firstCells, loadCells, loadCellsFrom]
  · cases h; cases hs
    simp only [Builtin.firstCells, Sem.run_pure]
    congr 1
    apply Array.ext'
    simp [ByteArray.data_extract]
  · cases h
theorem Kex {P : Program} {dT sT ty : TypeId} {d d' s s' : Value} {r : ARes} {σ : St} {g : Gam} {w : World} {id : Nat} (h : Kau P dT d s σ = some r) (hr : Rel g σ w) (hd : VRel g d d') (hs : VRel g s s') :
    OpOk P g σ w (· = id) (do pure (.value (← Builtin.copy_ #[dT, sT] ty #[d', s']))) r := by
  unfold Kau at h
  split at h
  · rename_i elem hu
    split at h
    · rename_i e m he hm
      have hl := Kfc (P := P) w hm hs
      split at h
      · cases h
        cases hd
        refine .val0 hr ?_ (.int _ _)
        have := Kaj (P := P) (e := e) (w := w) hm hs
        simp [Builtin.copy_, rU w hu, hl, rS w he, this, goInt]
      · rename_i A o len k
        cases hd; rename_i y o' c hy ho hle h0 hk
        split at h
        · rename_i hmin
          cases h
          refine .val0 hr ?_ (.int _ _)
          have := Kaj (P := P) (e := e) (w := w) hm hs
          have hmin' : Nat.min m len = 0 := hmin
          have hmin2 : m.min len = 0 := hmin
          simp [Builtin.copy_, rU w hu, hl, rS w he, hmin2, this, goInt, storeCells]
        · rename_i hmin
          split at h
          · rename_i nc hnc
            split at h
            · rename_i σ' hlay
              cases h
              have ho := ho (by have : Nat.min m len ≤ len := Nat.min_le_right _ _; omega)
              subst ho
              obtain ⟨e1, nc', e2, e3⟩ := Keb (P := P) hnc hr hs
              obtain ⟨w', r1, r2, r3⟩ := Jq1 (P := P) hlay hr hy e2
              refine .new ?_ (.int _ _) r2 (r3.mono fun _ h => h.elim)
              simp [Builtin.copy_, rU w hu, hl, rS w he, e3 w rfl, r1, goInt]
            · cases h
          · cases h
      · cases h
    · cases h
  · cases h
def Jj0 (P : Program) (t : TypeId) (x : Value) (σ : St) : Option ARes :=
  match P.underlying t with
  | some (.slice elem) => match x with
    | .slice _ 0 _ => some (.val (.tuple #[]) σ)
    | .slice (some ⟨A, o, none⟩) (n + 1) _ => match sz? P elem with
      | some e => match Jcp P elem e with
        | some z => if z.size = 0 then none else match Jnz A o (zrow z ((n + 1) * z.size)).toList σ with
          | some σ' => some (.val (.tuple #[]) σ')
          | none => none
        | none => none
      | none => none
    | _ => none
  | _ => none
theorem Kb3 {P : Program} {t ty : TypeId} {x x' : Value} {r : ARes} {σ : St} {g : Gam} {w : World} {id : Nat} (h : Jj0 P t x σ = some r) (hr : Rel g σ w) (hx : VRel g x x') :
    OpOk P g σ w (· = id) (do pure (.value (← Builtin.clear_ #[t] ty #[x']))) r := by
  have tup : ∀ g, VRel g (.tuple #[]) (.tuple #[]) := fun g => .tuple _ _ rfl fun i h => by simp at h
  unfold Jj0 at h
  split at h
  · rename_i elem hu
    split at h
    · cases h
      cases hx with
      | nilSlice => exact .val0 hr (by simp [Builtin.clear_, rU w hu]) (tup g)
      | slice A o _ k y o' c hy hl ho h0 hk => exact .val0 hr (by simp [Builtin.clear_, rU w hu]) (tup g)
    · rename_i A o n k
      cases hx; rename_i y o' c hy ho hl h0 hk
      have ho := ho (by omega)
      subst ho
      split at h
      · rename_i e he
        split at h
        · rename_i z hz
          obtain ⟨v, h1, h2, h3, h4⟩ := Jb0 hz
          split at h
          · cases h
          · rename_i hz0
            split at h
            · rename_i σ' hlay
              cases h
              have hzr := Jen (h4 g) ((n + 1) * z.size) (.inl hz0)
              obtain ⟨w', r1, r2, r3⟩ := Jq1 (P := P) hlay hr hy (nc' := (zrow z ((n + 1) * z.size)).toList) ⟨rfl, fun j a b => by simpa using hzr.2 j (by simpa using a) (by simpa using a)⟩
              refine .new ?_ (tup g) r2 (r3.mono fun _ h => h.elim)
              have e2 : Builtin.zeroCells v.cells (n + 1) = zrow z ((n + 1) * z.size) := by rw [h2]; rfl
              simp only [Builtin.clear_, Sem.run_bind]
              simp [rU w hu, rZ w h1, e2, r1]
            · cases h
        · cases h
      · cases h
    · cases h
  · cases h
def Kb2 : Value → Option Value
  | .slice _ n _ => some (.int .i64 n)
  | _ => none
def Kql : Value → Option Value
  | .slice _ _ 0 => some (.int .i64 0)
  | _ => none
theorem Kat {P : Program} {t ty : TypeId} {x x' r : Value} {g : Gam} (w : World) (hu : ∃ e, P.underlying t = some (.slice e)) (h : Kb2 x = some r) (hx : VRel g x x') : ∃ r', (Builtin.len_ #[t] ty #[x']).run P w = .ok r' w ∧ VRel g r r' := by
  obtain ⟨e, hu⟩ := hu
  unfold Kb2 at h
  split at h
  · cases h
    cases hx with
    | nilSlice => exact ⟨_, by simp [Builtin.len_, rU w hu, goInt], .int _ _⟩
    | slice A o _ k y o' c hy hl ho h0 hk => exact ⟨_, by simp [Builtin.len_, rU w hu, goInt], .int _ _⟩
  · cases h
theorem Kav {P : Program} {t ty : TypeId} {x x' r : Value} {g : Gam} (w : World) (hu : ∃ e, P.underlying t = some (.slice e)) (h : Kql x = some r) (hx : VRel g x x') : ∃ r', (Builtin.cap_ #[t] ty #[x']).run P w = .ok r' w ∧ VRel g r r' := by
  obtain ⟨e, hu⟩ := hu
  unfold Kql at h
  split at h
  · cases h
    cases hx with
    | nilSlice => exact ⟨_, by simp [Builtin.cap_, rU w hu, goInt], .int _ _⟩
    | slice A o _ k y o' c hy hl ho h0 hk =>
      have := h0 rfl
      subst this
      exact ⟨_, by simp [Builtin.cap_, rU w hu, goInt], .int _ _⟩
  · cases h
def opEq (P : Program) (t : TypeId) (x y : Value) : Option Bool :=
  match P.underlying t with
  | some (.pointer e) => match x, y with
    | .pointer none, .pointer b => some b.isNone
    | .pointer (some _), .pointer none => some false
    | .pointer (some ⟨A, o, none⟩), .pointer (some ⟨B, o', none⟩) => match sz? P e with
      | some (_ + 1) => if A = B then some (o == o') else none
      | _ => none
    | _, _ => none
  | some (.slice _) => match x, y with
    | .slice none _ _, .slice b _ _ => some b.isNone
    | .slice (some _) _ _, .slice none _ _ => some false
    | _, _ => none
  | some (.map _ _) => match x, y with
    | .map none, .map b => some b.isNone
    | .map (some _), .map none => some false
    | _, _ => none
  | some (.func _ _ _) => match x, y with
    | .nilFunc, .func _ _ _ => some false
    | .func _ _ _, .nilFunc => some false
    | _, _ => none
  | some (.interface _) => match x, y with
    | .nilIface, .iface _ _ => some false
    | .iface _ _, .nilIface => some false
    | _, _ => none
  | _ => none
theorem Jc8 {P : Program} {t : TypeId} {x y : Value} {d : TypeDesc} (w : World) (hu : P.underlying t = some d) : (Op.equal t x y).run P w = (Op.equalIn 10000 t x y).run P w := rfl
theorem Jrv {P : Program} {t : TypeId} {x x' y y' : Value} {b : Bool} {g : Gam} (w : World) (h : opEq P t x y = some b) (hx : VRel g x x') (hy : VRel g y y') :
    (Op.equal t x' y').run P w = .ok b w ∧ ∀ (op : BinOp) (p q : Operand), (eqGuard op t p q x' y').run P w = .ok () w := by
  have guard : (∀ op (p q : Operand), (eqGuard op t p q x' y').run P w = .ok () w) ∨ (x' = .nilIface ∧ y' = .nilIface) ∨ ∃ a c, x' = .agg a ∧ y' = .agg c := by
    by_cases h1 : x' = .nilIface ∧ y' = .nilIface
    · exact .inr (.inl h1)
    · by_cases h2 : ∃ a c, x' = .agg a ∧ y' = .agg c
      · exact .inr (.inr h2)
      · left
        intro op p q
        unfold eqGuard
        by_cases ho : op = .eql ∨ op = .neq
        · rcases ho with rfl | rfl <;> (simp; cases x' <;> cases y' <;> simp_all)
        · cases op <;> simp_all
  unfold opEq at h
  split at h
  · rename_i e hu
    split at h
    · cases h
      cases hx
      rename_i b
      refine ⟨?_, ?_⟩
      · cases hy <;> (rw [Jc8 w hu, Op.equalIn]; simp only [Sem.run_bind, rU w hu, Result.andThen_ok]; rfl)
      · rcases guard with k | ⟨k, _⟩ | ⟨a, c, k, _⟩
        · exact k
        · cases k
        · cases k
    · cases h
      cases hx; cases hy
      refine ⟨by (rw [Jc8 w hu, Op.equalIn]; simp only [Sem.run_bind, rU w hu, Result.andThen_ok]; rfl), ?_⟩
      rcases guard with k | ⟨k, _⟩ | ⟨a, c, k, _⟩
      · exact k
      · cases k
      · cases k
    · rename_i A o B o'
      split at h
      · rename_i n hn
        split at h
        · subst_vars
          cases h
          cases hx; rename_i z hz
          cases hy; rename_i z2 hz2
          rw [hz] at hz2; cases hz2
          refine ⟨?_, ?_⟩
          · have : ((⟨z.block, z.base + o, none⟩ : Addr) == ⟨z.block, z.base + o', none⟩) = (o == o') := by
              rw [Bool.eq_iff_iff]; simp
            (rw [Jc8 w hu, Op.equalIn]; simp only [Sem.run_bind, rU w hu, Result.andThen_ok, rS w hn]; simp [sameAddr, this])
          · rcases guard with k | ⟨k, _⟩ | ⟨a, c, k, _⟩
            · exact k
            · cases k
            · cases k
        · cases h
      · cases h
    · cases h
  · rename_i e hu
    split at h
    · cases h
      cases hx
      refine ⟨?_, ?_⟩
      · cases hy <;> (rw [Jc8 w hu, Op.equalIn]; simp only [Sem.run_bind, rU w hu, Result.andThen_ok]; rfl)
      · rcases guard with k | ⟨k, _⟩ | ⟨a, c, k, _⟩
        · exact k
        · cases k
        · cases k
    · cases h
      cases hx; cases hy
      refine ⟨by (rw [Jc8 w hu, Op.equalIn]; simp only [Sem.run_bind, rU w hu, Result.andThen_ok]; rfl), ?_⟩
      rcases guard with k | ⟨k, _⟩ | ⟨a, c, k, _⟩
      · exact k
      · cases k
      · cases k
    · cases h
  · rename_i k e hu
    split at h
    · cases h
      cases hx
      refine ⟨?_, ?_⟩
      · cases hy <;> (rw [Jc8 w hu, Op.equalIn]; simp only [Sem.run_bind, rU w hu, Result.andThen_ok]; rfl)
      · rcases guard with k | ⟨k, _⟩ | ⟨a, c, k, _⟩
        · exact k
        · cases k
        · cases k
    · cases h
      cases hx; cases hy
      refine ⟨by (rw [Jc8 w hu, Op.equalIn]; simp only [Sem.run_bind, rU w hu, Result.andThen_ok]; rfl), ?_⟩
      rcases guard with k | ⟨k, _⟩ | ⟨a, c, k, _⟩
      · exact k
      · cases k
      · cases k
    · cases h
  · rename_i k e q hu
    split at h
    · cases h
      cases hx <;> cases hy
      all_goals
        refine ⟨by (rw [Jc8 w hu, Op.equalIn]; simp only [Sem.run_bind, rU w hu, Result.andThen_ok]; rfl), ?_⟩
        rcases guard with k | ⟨k, _⟩ | ⟨a, c, k, _⟩
        · exact k
        · cases k
        · cases k
    · cases h
      cases hx <;> cases hy
      all_goals
        refine ⟨by (rw [Jc8 w hu, Op.equalIn]; simp only [Sem.run_bind, rU w hu, Result.andThen_ok]; rfl), ?_⟩
        rcases guard with k | ⟨k, _⟩ | ⟨a, c, k, _⟩
        · exact k
        · cases k
        · cases k
    · cases h
  · rename_i ms hu
    split at h
    · cases h
      cases hx; cases hy
      refine ⟨by (rw [Jc8 w hu, Op.equalIn]; simp only [Sem.run_bind, rU w hu, Result.andThen_ok]; rfl), ?_⟩
      rcases guard with k | ⟨_, k⟩ | ⟨a, c, k, _⟩
      · exact k
      · cases k
      · cases k
    · cases h
      cases hx; cases hy
      refine ⟨by (rw [Jc8 w hu, Op.equalIn]; simp only [Sem.run_bind, rU w hu, Result.andThen_ok]; rfl), ?_⟩
      rcases guard with k | ⟨k, _⟩ | ⟨a, c, k, _⟩
      · exact k
      · cases k
      · cases k
    · cases h
  · cases h
def AObj.plain : AObj → Bool
  | .cells .. => false
  | _ => true
def setW (w : World) (b : Nat) (o : Obj) : World := { w with heap := w.heap.setIfInBounds b o }
theorem Ked {w : World} {b : Nat} {o : Obj} (h : b < w.heap.size) : (setW w b o).heap[b]? = some o := by simp [setW, h]
theorem Jk3 {w : World} {b b' : Nat} {o : Obj} (h : b' ≠ b) : (setW w b o).heap[b']? = w.heap[b']? := by
  simp only [setW, Array.getElem?_setIfInBounds]; rw [if_neg (fun e => h e.symm)]
theorem St.rd_plain {σ : St} {A : Nat} {ao ao' : AObj} (h : σ.get A = some ao) (hp : ao.plain = true) (hp' : ao'.plain = true) (own : Bool) (ver F : Nat) : (σ.set A ao').rd own ver F = σ.rd own ver F := by
  unfold St.rd
  simp only [St.famO_set]
  cases σ.famO F with
  | none => rfl
  | some O =>
    simp only [St.get_set]
    by_cases e : A = O
    · subst e
      rw [if_pos rfl, h]
      cases ao <;> first | (cases hp; done) | (cases ao' <;> first | (cases hp'; done) | rfl)
    · rw [if_neg e]
theorem Rel.setPlain {g : Gam} {σ : St} {w : World} (h : Rel g σ w) {A : Nat} {x : CA} {ao ao' : AObj} {o : Obj} (hx : g A = some x) (hA : σ.get A = some ao) (hp : ao.plain = true) (hp' : ao'.plain = true)
    (hs : Jg3 g (σ.set A ao') (setW w x.block o) x ao') : Rel g (σ.set A ao') (setW w x.block o) ∧ Ext (fun _ => False) g g σ (σ.set A ao') w (setW w x.block o) := by
  have nc : ∀ {own v F c}, ao ≠ .cells own v F c := fun e => by subst e; cases hp
  have nc' : ∀ {own v F c}, ao' ≠ .cells own v F c := fun e => by subst e; cases hp'
  have hfam : ∀ B, (σ.set A ao').fam B = σ.fam B := fun B => by
    unfold St.fam; simp only [St.get_set]
    by_cases e : A = B
    · subst e; rw [if_pos rfl, hA]
      cases ao <;> first | (cases hp; done) | (cases ao' <;> first | (cases hp'; done) | rfl)
    · rw [if_neg e]
  have cellsIff : ∀ B own v F c, (σ.set A ao').get B = some (.cells own v F c) ↔ σ.get B = some (.cells own v F c) := fun B own v F c => by
    simp only [St.get_set]
    by_cases e : A = B
    · subst e; rw [if_pos rfl, hA]
      exact ⟨fun e => (nc' (Option.some.inj e)).elim, fun e => (nc (Option.some.inj e)).elim⟩
    · rw [if_neg e]
  have sz : (setW w x.block o).heap.size = w.heap.size := by simp [setW]
  have famA : σ.fam A = none := by
    unfold St.fam; rw [hA]
    cases ao <;> first | (cases hp; done) | rfl
  constructor
  · refine ⟨⟨?_, ?_, ?_, ?_, ?_, ?_⟩, fun B y e => by rw [sz]; exact h.blk B y e, ?_, ?_, ?_, h.tab.step (fun b hb hne => Jk3 (fun e => hne A x hx e.symm)) fun A y h => .inr ⟨A, y, h, rfl⟩⟩
    · intro B ob e
      simp only [St.get_set] at e
      split at e
      · subst_vars; exact h.wf.lt _ _ hA
      · exact h.wf.lt B ob e
    · intro B own v F c e
      rw [cellsIff] at e
      obtain ⟨ob, hob⟩ := h.wf.founder B own v F c e
      simp only [St.get_set]
      by_cases e2 : A = F
      · exact ⟨_, if_pos e2⟩
      · exact ⟨ob, by rw [if_neg e2]; exact hob⟩
    · intro B v F c e
      rw [cellsIff] at e
      rcases h.wf.owner B v F c e with k | ⟨k1, k2⟩
      · exact .inl k
      · exact .inr ⟨k1, fun X own v' c' eX => k2 X own v' c' ((cellsIff _ _ _ _ _).1 eX)⟩
    · intro F O e
      obtain ⟨own, v, c, hO⟩ := h.wf.named F O e
      exact ⟨own, v, c, (cellsIff _ _ _ _ _).2 hO⟩
    · intro F O X own v c own' v' c' e hO hX
      exact h.wf.stamp F O X own v c own' v' c' e ((cellsIff _ _ _ _ _).1 hO) ((cellsIff _ _ _ _ _).1 hX)
    · intro B n e
      obtain ⟨own, v, F, c, h1, h2⟩ := h.wf.hint B n e
      exact ⟨own, v, F, c, (cellsIff _ _ _ _ _).2 h1, h2⟩
    · intro B y e
      by_cases hB : B = A
      · subst hB
        rw [hx] at e; cases e
        exact ⟨ao', by simp, hs⟩
      · obtain ⟨ob, hob, hsays⟩ := h.obj B y e
        refine ⟨ob, by simp only [St.get_set]; rw [if_neg (fun e => hB e.symm)]; exact hob, Jg3.mono (Gam.le_refl g) ?_ ?_ hsays⟩
        · by_cases hb : y.block = x.block
          · rcases h.share B y A x e hx hb with k | ⟨F, _, k⟩
            · exact (hB k).elim
            · rw [famA] at k; cases k
          · exact Jk3 hb
        · intro own ver fam c _ hr
          rwa [St.rd_plain hA hp hp'] at hr
    · intro B y B' y' e e' eb
      rcases h.share B y B' y' e e' eb with k | ⟨F, k1, k2⟩
      · exact .inl k
      · exact .inr ⟨F, by rw [hfam]; exact k1, by rw [hfam]; exact k2⟩
    · intro X y O z F v c own c' eX eO eb hne hfo hX hO
      exact h.order X y O z F v c own c' eX eO eb hne hfo ((cellsIff _ _ _ _ _).1 hX) ((cellsIff _ _ _ _ _).1 hO)
  · refine ⟨Gam.le_refl g, fun B y e e0 => (by rw [e] at e0; cases e0), fun B y e e0 => (by rw [e] at e0; cases e0), by rw [sz]; exact Nat.le_refl _, ?_, ?_, ?_, Nat.le_refl _, rfl, rfl, rfl⟩
    · intro b _ hall
      refine Jk3 (fun e => ?_)
      obtain ⟨v, f, c, k, _⟩ := hall A x hx e.symm
      rw [hA] at k; exact nc (Option.some.inj k)
    · intro B e _
      simp only [St.get_set]
      rw [if_neg (fun e2 => by subst e2; rw [hx] at e; cases e)]
    · rintro B ⟨v, f, c, k, kf⟩
      have : A ≠ B := fun e => by subst e; rw [hA] at k; exact nc (Option.some.inj k)
      exact ⟨by simp [this], v, f, c, by simp [this, k], kf⟩
def Jii (P : Program) (t : TypeId) (id : Nat) (x : Value) (σ : St) : Option ARes :=
  match P.underlying t, x with
  | some .string, .string s => some (.val (ptrTo id) (σ.set id (.iter s 0)))
  | _, _ => none
theorem Kb1 {P : Program} {t : TypeId} {id : Nat} {x x' : Value} {r : ARes} {σ : St} {g : Gam} {w : World} (h : Jii P t id x σ = some r) (hr : Rel g σ w) (hid : σ.get id = none) (hlt : id < σ.next) (hx : VRel g x x') :
    OpOk P g σ w (· = id) (do pure (.value (← Instr.range t x'))) r := by
  unfold Jii at h
  split at h
  · rename_i s hu
    cases hx
    cases h
    obtain ⟨ra, rb⟩ := hr.new hid hlt 0 (.iter s 0) (.stringIter s 0) (fun _ _ _ _ e => by cases e) ⟨rfl, Jja _ _⟩
    refine .new (g' := g.add id ⟨w.heap.size, 0, 0⟩) (v' := .pointer (some ⟨w.heap.size, 0, none⟩)) (w' := newW w (.stringIter s 0)) ?_ (.ptr id 0 _ (Gam.add_self g id _)) ra rb
    simp [Instr.range, rU w hu, newW]
  · cases h
def Jqr (isString : Bool) (x : Value) (σ : St) : Option ARes :=
  match x, isString with
  | .pointer (some ⟨A, 0, none⟩), true => match σ.get A with
    | some (.iter s pos) => if pos < s.size then
        some (.val (.tuple #[.bool true, .int .i64 (pos : Nat), .int .i32 ((Utf8.decode s pos).1 : Nat)]) (σ.set A (.iter s (pos + (Utf8.decode s pos).2))))
      else some (.val (.tuple #[.bool false]) σ)
    | _ => none
  | _, _ => none
theorem Jra {g : Gam} {l : Array Value} (h : l.toList.all flat0 = true) : VRel g (.tuple l) (.tuple l) := Jb4 (v := .tuple l) h
theorem Kev {P : Program} {isS : Bool} {ty : TypeId} {id : Nat} {x x' : Value} {r : ARes} {σ : St} {g : Gam} {w : World} (h : Jqr isS x σ = some r) (hr : Rel g σ w) (hx : VRel g x x') :
    OpOk P g σ w (· = id) (do pure (.value (← Instr.next x' isS ty))) r := by
  unfold Jqr at h
  split at h
  · rename_i A
    cases hx; rename_i y hy
    split at h
    · rename_i s pos hA
      obtain ⟨ob, hob, hs⟩ := hr.obj A y hy
      rw [hA] at hob; cases hob
      obtain ⟨hb, hheap⟩ := hs
      have hget : ∀ {β} (f : Obj → Sem β), (getObj y.block >>= f).run P w = (f (.stringIter s pos)).run P w := fun f => by
        show (Sem.bind (.getObj y.block .pure) f).run P w = _
        simp only [Sem.bind, Sem.run, hheap]
      split at h
      · rename_i hlt
        cases h
        obtain ⟨ra, rb⟩ := hr.setPlain (ao' := .iter s (pos + (Utf8.decode s pos).2)) (o := .stringIter s (pos + (Utf8.decode s pos).2)) hy hA rfl rfl ⟨hb, Ked (hr.blk A y hy)⟩
        refine .new (w' := setW w y.block (.stringIter s (pos + (Utf8.decode s pos).2))) ?_ (Jra rfl) ra (rb.mono fun _ h => h.elim)
        have hset : ∀ (o : Obj), (setObj y.block o).run P w = .ok () (setW w y.block o) := fun o => by
          simp only [setObj, Sem.run, hheap]; rfl
        simp only [hb, Nat.zero_add, Instr.next, Sem.run_bind]
        rw [show (getObj y.block).run P w = .ok (.stringIter s pos) w by simp only [getObj, Sem.run, hheap]]
        simp [hlt, hset, goInt]
      · rename_i hlt
        cases h
        refine .val0 hr ?_ (Jra (l := #[.bool false]) rfl)
        simp only [hb, Nat.zero_add, Instr.next, Sem.run_bind]
        rw [show (getObj y.block).run P w = .ok (.stringIter s pos) w by simp only [getObj, Sem.run, hheap]]
        simp [hlt]
    · cases h
  · cases h
theorem Jm6 {P : Program} {t : TypeId} {x x' y y' : Value} {b : Bool} {g : Gam} (h : opEq P t x y = some b) (hx : VRel g x x') (hy : VRel g y y') :
    binOp .eql t x' y' = (do pure (.bool (← Op.equal t x' y'))) ∧ binOp .neq t x' y' = (do pure (.bool (!(← Op.equal t x' y')))) := by
  unfold opEq at h
  split at h <;> (try (cases h; done)) <;> (split at h <;> (try (cases h; done)) <;> (cases hx <;> cases hy <;> exact ⟨rfl, rfl⟩))
def Jb6 (P : Program) (f : FuncId) (args : Array Value) (σ : St) : Option ARes :=
  match P.funcs[f]? with
  | some fn => if (fn.name == "runtime.NumGoroutine") = true then none
    else if fn.body.isNone then
      if args.toList.all Ja5 then match Jar P (callFunc f args) with
        | some (.value v) => if Ja5 v then some (.val v σ) else none
        | _ => none
      else none
    else some (.enter f args)
  | none => none
theorem Key {P : Program} {f : FuncId} {args args' : Array Value} {r : ARes} {σ : St} {g : Gam} {w : World} {N : Nat → Prop} (h : Jb6 P f args σ = some r) (hr : Rel g σ w) (ha : ARel g args args') :
    OpOk P g σ w N (callFunc f args') r := by
  unfold Jb6 at h
  split at h
  · rename_i fn hf
    split at h
    · cases h
    · rename_i hn
      split at h
      · rename_i hb
        split at h
        · rename_i hall
          have e : args' = args := (Array.ext ha.1 fun i h1 h2 => (Je5 (Jj9 (p := Ja5) hall i h1) (ha.2 i h1 h2)).symm).symm
          subst e
          split at h
          · rename_i v hv
            split at h
            · rename_i hfl
              cases h
              exact .val0 hr (Jg9 hv w) (Jb4 hfl)
            · cases h
          · cases h
        · cases h
      · rename_i hb
        cases h
        refine ⟨args', ?_, ha⟩
        unfold callFunc
        simp only [Sem.run_bind, run_program, Result.andThen_ok, hf]
        rw [if_neg hn, if_neg hb]
        rfl
  · cases h
def Ji6 (P : Program) (x : Value) (args : Array Value) (σ : St) : Option ARes :=
  match x with
  | .func (.func f) first captured => Jb6 P f (first ++ args ++ captured) σ
  | _ => none
theorem ARel.append {g : Gam} {a b c d : Array Value} (h : ARel g a b) (k : ARel g c d) : ARel g (a ++ c) (b ++ d) := by
  refine ⟨by simp [h.1, k.1], fun i h1 h2 => ?_⟩
  simp only [Array.getElem_append]
  by_cases e : i < a.size
  · rw [dif_pos e, dif_pos (by rw [← h.1]; exact e)]; exact h.2 _ _ _
  · rw [dif_neg e, dif_neg (by rw [← h.1]; exact e)]
    have : i - b.size = i - a.size := by rw [h.1]
    simp only [this]
    exact k.2 _ _ _
theorem ARel.map {g : Gam} {ρ ρ' : Operand → Value} (a : Array Operand) (h : ∀ x ∈ a, VRel g (ρ x) (ρ' x)) : ARel g (a.map ρ) (a.map ρ') :=
  ⟨by simp, fun i h1 h2 => by simp only [Array.getElem_map]; exact h _ (Array.getElem_mem _)⟩
theorem Jx0 {P : Program} {x x' : Value} {args args' : Array Value} {r : ARes} {σ : St} {g : Gam} {w : World} {N : Nat → Prop} (h : Ji6 P x args σ = some r) (hr : Rel g σ w) (hx : VRel g x x') (ha : ARel g args args') :
    OpOk P g σ w N (do let d ← Deferred.ofValue x' args'; invoke d.target d.args) r := by
  unfold Ji6 at h
  split at h
  · rename_i f first captured
    cases hx; rename_i b d h1 h2 h3 h4
    have := Key (N := N) h hr ((ARel.append (ARel.append ⟨h1, h2⟩ ha) ⟨h3, h4⟩))
    cases r with
    | val v σ' =>
      obtain ⟨n, w', g', v', e, rest⟩ := this
      exact ⟨n, w', g', v', by simpa [Deferred.ofValue, invoke] using e, rest⟩
    | enter f' a' =>
      obtain ⟨args2, e, rest⟩ := this
      exact ⟨args2, by simpa [Deferred.ofValue, invoke] using e, rest⟩
  · cases h
def valOf (σ : St) : Option Value → Option ARes
  | some v => some (.val v σ)
  | none => none
def Jal (P : Program) (ρ : Operand → Value) (id : Nat) (o : Oper) (σ : St) : Option ARes :=
  match o.op with
  | .move x => some (.val (ρ x) σ)
  | .assign x => some (.val (ρ x) σ)
  | .pick c a b => match ρ c with
    | .bool t => some (.val (if t then ρ a else ρ b) σ)
    | _ => none
  | .alloc elem => match Jg4 P elem with
    | some z => some (.val (ptrTo id) (Jfx id z.cells σ))
    | none => none
  | .box elem x => some (.val (ptrTo id) (Jfx id (ρ x).cells σ))
  | .build t parts => valOf σ (Jcc P t (parts.map fun (i, x) => (i, ρ x)))
  | .buildSlice t len parts => Ja1 P t len id (parts.map fun (i, x) => (i, ρ x)) σ
  | .load t a => valOf σ (Jh1 P t (ρ a) σ)
  | .store t a x => match Jha P t (ρ a) (ρ x) σ with
    | some σ' => some (.val undef σ')
    | none => none
  | .nilCheck x => match ρ x with
    | .pointer (some a) => some (.val (.pointer (some a)) σ)
    | .iface t v => some (.val (.iface t v) σ)
    | .func (.func f) a c => some (.val (.func (.func f) a c) σ)
    | _ => none
  | .binOp op t x y _ => match Ja7 P ρ o σ with
    | some r => some r
    | none => match op with
      | .eql => match opEq P t (ρ x) (ρ y) with
        | some b => some (.val (.bool b) σ)
        | none => none
      | .neq => match opEq P t (ρ x) (ρ y) with
        | some b => some (.val (.bool !b) σ)
        | none => none
      | _ => none
  | .convert src dst x => match Jbq P src dst id (ρ x) σ with
    | some r => some r
    | none => Ja7 P ρ o σ
  | .makeInterface t x => match P.underlying t with
    | some (.interface _) => none
    | some _ => some (.val (.iface t (ρ x)) σ)
    | none => none
  | .makeFunc (.func f) first captured => some (.val (.func (.func f) (first.map ρ) (captured.map ρ)) σ)
  | .makeSlice t l c => Jcq P t id (ρ l) (ρ c) σ
  | .slice t x lo hi mx => match Ja7 P ρ o σ with
    | some r => some r
    | none => valOf σ (Jhb P t (ρ x) (lo.map ρ) (hi.map ρ) (mx.map ρ))
  | .fieldAddr s x f => valOf σ (Jee P s f (ρ x))
  | .field t x f => valOf σ (Jru P t f (ρ x))
  | .indexAddr t x ix => valOf σ (Jed P t (ρ x) (ρ ix))
  | .index t x ix => match Ja7 P ρ o σ with
    | some r => some r
    | none => valOf σ (Ji7 P t (ρ x) (ρ ix))
  | .extract x ix => valOf σ (Jes ix (ρ x))
  | .range t x => Jii P t id (ρ x) σ
  | .next it isS => Jqr isS (ρ it) σ
  | .call c => match c.callee with
    | .value f => Ji6 P (ρ f) (c.args.map ρ) σ
    | .builtin .append => match c.argTypes.toList, c.args.toList with
      | [sT, xT], [s, x] => Ji8 P sT xT id (ρ s) (ρ x) σ
      | _, _ => none
    | .builtin .copy => match c.argTypes.toList, c.args.toList with
      | [dT, _], [d, s] => Kau P dT (ρ d) (ρ s) σ
      | _, _ => none
    | .builtin .clear => match c.argTypes.toList, c.args.toList with
      | [t], [x] => Jj0 P t (ρ x) σ
      | _, _ => none
    | .builtin .len => match c.argTypes.toList, c.args.toList with
      | [t], [x] => match P.underlying t with
        | some (.slice _) => valOf σ (Kb2 (ρ x))
        | _ => Ja7 P ρ o σ
      | _, _ => none
    | .builtin .cap => match c.argTypes.toList, c.args.toList with
      | [t], [x] => match P.underlying t with
        | some (.slice _) => valOf σ (Kql (ρ x))
        | _ => none
      | _, _ => none
    | _ => Ja7 P ρ o σ
  | _ => Ja7 P ρ o σ
theorem Jeo {P : Program} {g : Gam} {σ : St} {w : World} {N : Nat → Prop} {s : Sem Value} {r : Option Value} {a : ARes} (h : valOf σ r = some a) (hr : Rel g σ w)
    (k : ∀ v, r = some v → ∃ v', s.run P w = .ok v' w ∧ VRel g v v') : OpOk P g σ w N (do pure (.value (← s))) a := by
  unfold valOf at h
  split at h
  · cases h
    obtain ⟨v', e, hv⟩ := k _ rfl
    exact .val0 hr (by simp only [Sem.run_bind, e, Result.andThen_ok, Sem.run_pure]) hv
  · cases h
theorem ORel.map {g : Gam} {ρ ρ' : Operand → Value} (x : Option Operand) (h : ∀ y, x = some y → VRel g (ρ y) (ρ' y)) : ORel g (x.map ρ) (x.map ρ') := by
  cases x with
  | none => trivial
  | some y => exact h y rfl
theorem Jip {P : Program} {ρ ρ' : Operand → Value} {id : Nat} {o : Oper} {σ : St} {g : Gam} {w : World} {r : ARes} (h : Jal P ρ id o σ = some r) (hr : Rel g σ w) (hid : σ.get id = none) (hlt : id < σ.next)
    (hρ : ∀ x ∈ o.op.operands, VRel g (ρ x) (ρ' x)) : OpOk P g σ w (· = id) (execOp ρ' o) r := by
  have flat : Ja7 P ρ o σ = some r → OpOk P g σ w (· = id) (execOp ρ' o) r := fun e => Jyc e hr hρ
  unfold Jal at h
  cases ho : o.op with
  | move x =>
    rw [ho] at h hρ
    cases h
    exact .val0 hr (by simp only [execOp, ho, Sem.run_pure]) (hρ x (by simp [Op.operands]))
  | assign x =>
    rw [ho] at h hρ
    cases h
    exact .val0 hr (by simp only [execOp, ho, Sem.run_pure]) (hρ x (by simp [Op.operands]))
  | pick c a b =>
    rw [ho] at h hρ
    have hc := hρ c (by simp [Op.operands])
    simp only at h
    split at h
    · rename_i t ht
      cases h
      rw [ht] at hc
      cases hc' : ρ' c <;> rw [hc'] at hc <;> cases hc
      refine .val0 (v' := if t then ρ' a else ρ' b) hr (by simp [execOp, ho, hc', asBool]) ?_
      cases t
      · exact hρ b (by simp [Op.operands])
      · exact hρ a (by simp [Op.operands])
    · cases h
  | alloc elem =>
    rw [ho] at h hρ
    simp only at h
    split at h
    · rename_i z hz
      cases h
      obtain ⟨z1, z2⟩ := Jiw hz
      obtain ⟨g', e1, e2, e3, e4, e5⟩ := Jm5 (P := P) hr hid hlt (ARel.refl_flat z2) elem
      refine .new (v' := .pointer (some ⟨w.heap.size, 0, none⟩)) ?_ e2 e4 e5
      simp [execOp, ho, Instr.alloc, rZ w z1, newVar, e1]
    · cases h
  | box elem x =>
    rw [ho] at h hρ
    cases h
    obtain ⟨g', e1, e2, e3, e4, e5⟩ := Jm5 (P := P) hr hid hlt (hρ x (by simp [Op.operands])).cells elem
    refine .new (v' := .pointer (some ⟨w.heap.size, 0, none⟩)) ?_ e2 e4 e5
    simp [execOp, ho, Instr.box, newVar, e1]
  | build t parts =>
    rw [ho] at h hρ
    have hp : ∀ i (h : i < (parts.map fun (p : Nat × Operand) => (p.1, ρ p.2)).size) (h' : i < (parts.map fun (p : Nat × Operand) => (p.1, ρ' p.2)).size), (parts.map fun (p : Nat × Operand) => (p.1, ρ p.2))[i].1 = (parts.map fun (p : Nat × Operand) => (p.1, ρ' p.2))[i].1 ∧ VRel g (parts.map fun (p : Nat × Operand) => (p.1, ρ p.2))[i].2 (parts.map fun (p : Nat × Operand) => (p.1, ρ' p.2))[i].2 := fun i h1 h2 => by
      simp only [Array.getElem_map]
      refine ⟨trivial, hρ _ ?_⟩
      simp only [Op.operands, List.mem_toArray, List.mem_map]
      exact ⟨parts[i]'(by simpa using h1), by simp, rfl⟩
    have := Jeo (N := (· = id)) (s := Instr.build t (parts.map fun (i, x) => (i, ρ' x))) h hr (fun v hv => Jqt w hv (by simp) hp)
    simpa [execOp, ho] using this
  | buildSlice t len parts =>
    rw [ho] at h hρ
    have hp : ∀ i (h : i < (parts.map fun (p : Nat × Operand) => (p.1, ρ p.2)).size) (h' : i < (parts.map fun (p : Nat × Operand) => (p.1, ρ' p.2)).size), (parts.map fun (p : Nat × Operand) => (p.1, ρ p.2))[i].1 = (parts.map fun (p : Nat × Operand) => (p.1, ρ' p.2))[i].1 ∧ VRel g (parts.map fun (p : Nat × Operand) => (p.1, ρ p.2))[i].2 (parts.map fun (p : Nat × Operand) => (p.1, ρ' p.2))[i].2 := fun i h1 h2 => by
      simp only [Array.getElem_map]
      refine ⟨trivial, hρ _ ?_⟩
      simp only [Op.operands, List.mem_toArray, List.mem_map]
      exact ⟨parts[i]'(by simpa using h1), by simp, rfl⟩
    have := Jnq (ps' := parts.map fun (i, x) => (i, ρ' x)) h hr hid hlt (by simp) hp
    simpa [execOp, ho] using this
  | load t a =>
    rw [ho] at h hρ
    have := Jeo (N := (· = id)) (s := Instr.loadAt t (ρ' a)) h hr (fun v hv => Jnp hv hr (hρ a (by simp [Op.operands])))
    simpa [execOp, ho] using this
  | store t a x =>
    rw [ho] at h hρ
    simp only at h
    split at h
    · rename_i σ' hs
      cases h
      obtain ⟨w', e1, e2, e3⟩ := Kb0 (P := P) hs hr (hρ a (by simp [Op.operands])) (hρ x (by simp [Op.operands]))
      exact ⟨.skip, w', g, undef, by simp [execOp, ho, e1], .inr ⟨rfl, rfl⟩, .tuple _ _ rfl fun i h => by simp at h, e2, e3.mono fun _ h => h.elim⟩
    · cases h
  | nilCheck x =>
    rw [ho] at h hρ
    have hx := hρ x (by simp [Op.operands])
    simp only at h
    split at h
    · rename_i a ha
      cases h
      rw [ha] at hx
      obtain ⟨y, hy⟩ : ∃ y, y = ρ' x := ⟨_, rfl⟩
      rw [← hy] at hx
      cases hx with
      | ptr A o z hz => exact .val0 hr (by simp [execOp, ho, ← hy]) (.ptr A o z hz)
    · rename_i t v ha
      cases h
      rw [ha] at hx
      obtain ⟨y, hy⟩ : ∃ y, y = ρ' x := ⟨_, rfl⟩
      rw [← hy] at hx
      cases hx with
      | iface _ _ _ hv => exact .val0 hr (by simp [execOp, ho, ← hy]) (.iface _ _ _ hv)
    · rename_i f a c ha
      cases h
      rw [ha] at hx
      obtain ⟨y, hy⟩ : ∃ y, y = ρ' x := ⟨_, rfl⟩
      rw [← hy] at hx
      cases hx with
      | func _ _ b _ d h1 h2 h3 h4 => exact .val0 hr (by simp [execOp, ho, ← hy]) (.func _ _ _ _ _ h1 h2 h3 h4)
    · cases h
  | binOp op t x y yt =>
    rw [ho] at h hρ
    simp only at h
    split at h
    · cases h; exact flat (by assumption)
    · split at h
      · split at h
        · rename_i b hb
          cases h
          obtain ⟨e1, e2⟩ := Jrv (P := P) w hb (hρ x (by simp [Op.operands])) (hρ y (by simp [Op.operands]))
          refine .val0 (v' := .bool b) hr ?_ (.bool _)
          have hbin : (binOp .eql t (ρ' x) (ρ' y)).run P w = .ok (.bool b) w := by
            rw [(Jm6 hb (hρ x (by simp [Op.operands])) (hρ y (by simp [Op.operands]))).1]; simp [e1]
          simp only [execOp, ho, Sem.run_bind, e2, Result.andThen_ok, hbin, Sem.run_pure]
        · cases h
      · split at h
        · rename_i b hb
          cases h
          obtain ⟨e1, e2⟩ := Jrv (P := P) w hb (hρ x (by simp [Op.operands])) (hρ y (by simp [Op.operands]))
          refine .val0 (v' := .bool !b) hr ?_ (.bool _)
          have hbin : (binOp .neq t (ρ' x) (ρ' y)).run P w = .ok (.bool !b) w := by
            rw [(Jm6 hb (hρ x (by simp [Op.operands])) (hρ y (by simp [Op.operands]))).2]; simp [e1]
          simp only [execOp, ho, Sem.run_bind, e2, Result.andThen_ok, hbin, Sem.run_pure]
        · cases h
      · cases h
  | convert src dst x =>
    rw [ho] at h hρ
    simp only at h
    split at h
    · cases h
      have := Jtu (P := P) (by assumption) hr hid hlt (hρ x (by simp [Op.operands]))
      simpa [execOp, ho] using this
    · exact flat h
  | makeInterface t x =>
    rw [ho] at h hρ
    simp only at h
    split at h
    · cases h
    · rename_i d hd hu
      cases h
      refine .val0 (v' := .iface t (ρ' x)) hr ?_ (.iface _ _ _ (hρ x (by simp [Op.operands])))
      have : (Instr.makeInterface t (ρ' x)).run P w = .ok (.iface t (ρ' x)) w := by
        simp only [Instr.makeInterface, Sem.run_bind, rU w hu, Result.andThen_ok]
        cases d <;> first | rfl | (rename_i q; exact (hd q rfl).elim)
      simp only [execOp, ho, Sem.run_bind, this, Result.andThen_ok, Sem.run_pure]
    · cases h
  | makeFunc fn first captured =>
    rw [ho] at h hρ
    cases fn with
    | func f =>
      cases h
      have h1 := ARel.map (g := g) (ρ := ρ) (ρ' := ρ') first (fun x hx => hρ x (by simp [Op.operands, hx]))
      have h2 := ARel.map (g := g) (ρ := ρ) (ρ' := ρ') captured (fun x hx => hρ x (by simp [Op.operands, hx]))
      exact .val0 hr (by simp [execOp, ho, Instr.makeFunc]) (.func _ _ _ _ _ h1.1 h1.2 h2.1 h2.2)
    | _ => exact flat h
  | makeSlice t l c =>
    rw [ho] at h hρ
    have := Jpe (P := P) h hr hid hlt (hρ l (by simp [Op.operands])) (hρ c (by simp [Op.operands]))
    simpa [execOp, ho] using this
  | slice t x lo hi mx =>
    rw [ho] at h hρ
    simp only at h
    split at h
    · cases h; exact flat (by assumption)
    · have := Jeo (N := (· = id)) (s := Instr.sliceAt t (ρ' x) (lo.map ρ') (hi.map ρ') (mx.map ρ')) h hr (fun v hv => Jqq w hv (hρ x (by simp [Op.operands]))
        (ORel.map lo fun y e => hρ y (by simp [Op.operands, e])) (ORel.map hi fun y e => hρ y (by simp [Op.operands, e])) (ORel.map mx fun y e => hρ y (by simp [Op.operands, e])))
      simpa [execOp, ho] using this
  | fieldAddr s x f =>
    rw [ho] at h hρ
    have := Jeo (N := (· = id)) (s := Instr.fieldAt s (ρ' x) f) h hr (fun v hv => Jjt w hv (hρ x (by simp [Op.operands])))
    simpa [execOp, ho] using this
  | field t x f =>
    rw [ho] at h hρ
    have := Jeo (N := (· = id)) (s := Instr.field t (ρ' x) f) h hr (fun v hv => Jqs w hv (hρ x (by simp [Op.operands])))
    simpa [execOp, ho] using this
  | indexAddr t x ix =>
    rw [ho] at h hρ
    have := Jeo (N := (· = id)) (s := Instr.indexAt t (ρ' x) (ρ' ix)) h hr (fun v hv => Jjs w hv (hρ x (by simp [Op.operands])) (hρ ix (by simp [Op.operands])))
    simpa [execOp, ho] using this
  | index t x ix =>
    rw [ho] at h hρ
    simp only at h
    split at h
    · cases h; exact flat (by assumption)
    · have := Jeo (N := (· = id)) (s := Instr.index t (ρ' x) (ρ' ix)) h hr (fun v hv => Jkh w hv (hρ x (by simp [Op.operands])) (hρ ix (by simp [Op.operands])))
      simpa [execOp, ho] using this
  | extract x ix =>
    rw [ho] at h hρ
    have := Jeo (P := P) (N := (· = id)) (s := Instr.extract (ρ' x) ix) h hr (fun v hv => Jl3 w hv (hρ x (by simp [Op.operands])))
    simpa [execOp, ho] using this
  | range t x =>
    rw [ho] at h hρ
    have := Kb1 (P := P) h hr hid hlt (hρ x (by simp [Op.operands]))
    simpa [execOp, ho] using this
  | next it isS =>
    rw [ho] at h hρ
    have := Kev (P := P) (ty := o.type) (id := id) h hr (hρ it (by simp [Op.operands]))
    simpa [execOp, ho] using this
  | call c =>
    rw [ho] at h hρ
    simp only at h
    have harg : ∀ x ∈ c.args, VRel g (ρ x) (ρ' x) := fun x hx => hρ x (by simp [Op.operands, Call.operands, hx])
    split at h
    · rename_i f hf
      have := Jx0 (P := P) (N := (· = id)) h hr (hρ f (by simp [Op.operands, Call.operands, hf])) (ARel.map c.args harg)
      simpa [execOp, ho, resolve, hf] using this
    · rename_i hb
      split at h
      · rename_i sT xT s x h1 h2
        have := Jx1 (P := P) (ty := o.type) h hr hid hlt (harg s (by rw [← Array.mem_toList_iff, h2]; simp)) (harg x (by rw [← Array.mem_toList_iff, h2]; simp))
        have e1 : c.argTypes = #[sT, xT] := by rw [← Array.toArray_toList (xs := c.argTypes), h1]
        have e2 : c.args = #[s, x] := by rw [← Array.toArray_toList (xs := c.args), h2]
        simpa [execOp, ho, resolve, hb, invoke, builtin, e1, e2] using this
      · cases h
    · rename_i hb
      split at h
      · rename_i sT xT s x h1 h2
        have := Kex (P := P) (sT := xT) (ty := o.type) (id := id) h hr (harg s (by rw [← Array.mem_toList_iff, h2]; simp)) (harg x (by rw [← Array.mem_toList_iff, h2]; simp))
        have e1 : c.argTypes = #[sT, xT] := by rw [← Array.toArray_toList (xs := c.argTypes), h1]
        have e2 : c.args = #[s, x] := by rw [← Array.toArray_toList (xs := c.args), h2]
        simpa [execOp, ho, resolve, hb, invoke, builtin, e1, e2] using this
      · cases h
    · rename_i hb
      split at h
      · rename_i sT x h1 h2
        have := Kb3 (P := P) (ty := o.type) (id := id) h hr (harg x (by rw [← Array.mem_toList_iff, h2]; simp))
        have e1 : c.argTypes = #[sT] := by rw [← Array.toArray_toList (xs := c.argTypes), h1]
        have e2 : c.args = #[x] := by rw [← Array.toArray_toList (xs := c.args), h2]
        simpa [execOp, ho, resolve, hb, invoke, builtin, e1, e2] using this
      · cases h
    · rename_i hb
      split at h
      · rename_i sT x h1 h2
        have e1 : c.argTypes = #[sT] := by rw [← Array.toArray_toList (xs := c.argTypes), h1]
        have e2 : c.args = #[x] := by rw [← Array.toArray_toList (xs := c.args), h2]
        split at h
        · rename_i e hu
          have := Jeo (N := (· = id)) (s := Builtin.len_ #[sT] o.type #[ρ' x]) h hr (fun v hv => Kat w ⟨e, hu⟩ hv (harg x (by rw [← Array.mem_toList_iff, h2]; simp)))
          simpa [execOp, ho, resolve, hb, invoke, builtin, e1, e2] using this
        · exact flat h
      · cases h
    · rename_i hb
      split at h
      · rename_i sT x h1 h2
        have e1 : c.argTypes = #[sT] := by rw [← Array.toArray_toList (xs := c.argTypes), h1]
        have e2 : c.args = #[x] := by rw [← Array.toArray_toList (xs := c.args), h2]
        split at h
        · rename_i e hu
          have := Jeo (N := (· = id)) (s := Builtin.cap_ #[sT] o.type #[ρ' x]) h hr (fun v hv => Kav w ⟨e, hu⟩ hv (harg x (by rw [← Array.mem_toList_iff, h2]; simp)))
          simpa [execOp, ho, resolve, hb, invoke, builtin, e1, e2] using this
        · cases h
      · cases h
    · exact flat h
  | _ => rw [ho] at h; exact flat h
variable {Ds : List Deferred}
abbrev Env := Tr Value
def eget (env : Env) (t : Nat) : Value := (env.get (path t)).getD undef
def eput (env : Env) (d : Nat) (v : Value) : Env := env.set (path d) v
def Jcw (env : Env) (d : Option Nat) (v : Value) : Env := match d with | some d => eput env d v | none => env
theorem Jab (env : Env) (d t : Nat) (v : Value) : eget (eput env d v) t = if d = t then v else eget env t := by
  unfold eget eput
  rw [Tr.get_set]
  by_cases h : d = t
  · simp [h]
  · rw [if_neg h, if_neg (fun e => h (Ji3 e))]
def rho (env : Env) : Operand → Value
  | .tmp t => eget env t
  | .const v => v
  | .global g => .pointer (some ⟨g, 0, none⟩)
  | .func f => .func (.func f) #[] #[]
def Jki (gl : List Nat) : Operand → Bool
  | .const v => Ja5 v
  | .global g => gl.contains g
  | _ => true
def Jfj (gl : List Nat) (N : Nat) (o : Oper) : Bool :=
  o.op.operands.toList.all (Jki gl) && (match o.dst with | some d => d < N | none => true)
def Glob (gl : List Nat) (g : Gam) : Prop := ∀ b, gl.contains b = true → ∃ n, g b = some ⟨b, 0, n⟩
theorem Glob.mono {gl : List Nat} {g g' : Gam} (h : Glob gl g) (hg : Gam.le g g') : Glob gl g' := fun b hb => let ⟨n, e⟩ := h b hb; ⟨n, hg _ _ e⟩
structure Jco (Ds : List Deferred) (g : Gam) (N : Nat) (env : Env) (a : Act) : Prop where
  defers : a.defers = Ds
  size : a.tmps.size = N
  slot : ∀ t, VRel g (eget env t) (a.tmps.getD t undef)
theorem Jco.mono {g g' : Gam} {N : Nat} {env : Env} {a : Act} (h : Jco Ds g N env a) (hg : Gam.le g g') : Jco Ds g' N env a := ⟨h.defers, h.size, fun t => (h.slot t).mono hg⟩
theorem Jco.rho {g : Gam} {gl : List Nat} {N : Nat} {env : Env} {a : Act} (h : Jco Ds g N env a) (hg : Glob gl g) {x : Operand} (hx : Jki gl x = true) : VRel g (rho env x) (a.eval x) := by
  cases x with
  | tmp t => exact h.slot t
  | const v => exact Jb4 hx
  | global b =>
    obtain ⟨n, e⟩ := hg b hx
    exact .ptr b 0 _ e
  | func f => exact .func _ _ _ _ _ rfl (fun i h => by simp at h) rfl (fun i h => by simp at h)
theorem Jco.put {g : Gam} {N : Nat} {env : Env} {a : Act} (h : Jco Ds g N env a) {d : Option Nat} (hd : (match d with | some d => decide (d < N) | none => true) = true) {v v' : Value} (hv : VRel g v v') :
    Jco Ds g N (Jcw env d v) (a.put d v') := by
  cases d with
  | none => exact h
  | some d =>
    have hd : d < N := by simpa using hd
    refine ⟨h.defers, by simp [Act.put, h.size], fun t => ?_⟩
    simp only [Jcw, Jab, Act.put]
    by_cases e : d = t
    · subst e
      rw [if_pos rfl]
      have : d < a.tmps.size := by rw [h.size]; exact hd
      simp [this]; exact hv
    · rw [if_neg e]
      have := h.slot t
      have e2 : (a.tmps.setIfInBounds d v').getD t undef = a.tmps.getD t undef := by
        simp only [Array.getD_eq_getD_getElem?, Array.getElem?_setIfInBounds, if_neg e]
      rw [e2]; exact this
def Jg5 (ops : Array Oper) (env : Env) (j : Nat) : Option Bool :=
  match (ops[j]?).bind (·.dst) with
  | some d => match eget env d with
    | .bool b => some b
    | _ => none
  | none => none
def Jbg (ops : Array Oper) (env : Env) (o : Oper) : Bool :=
  match o.guard with
  | none => true
  | some (j, want) => Jg5 ops env j == some want
def Jef (ops : Array Oper) (N : Nat) (o : Oper) : Bool :=
  match o.guard with
  | none => true
  | some (j, _) => match (ops[j]?).bind (·.dst) with
    | some d => d < N
    | none => true
theorem Jtd {g : Gam} {N : Nat} {ops : Array Oper} {env : Env} {a : Act} (h : Jco Ds g N env a) (o : Oper) (hg : Jef ops N o = true) : Region.wanted o (yielded ops a.tmps) = Jbg ops env o := by
  unfold Region.wanted Jbg
  unfold Jef at hg
  cases ho : o.guard with
  | none => rfl
  | some p =>
    obtain ⟨j, want⟩ := p
    rw [ho] at hg
    simp only at hg ⊢
    have : yielded ops a.tmps j = Jg5 ops env j := by
      unfold yielded Jg5
      cases hd : (ops[j]?).bind (·.dst) with
      | none => rfl
      | some d =>
        rw [hd] at hg
        have hlt : d < a.tmps.size := by rw [h.size]; simpa using hg
        have hs := h.slot d
        simp only [Option.bind_some, Array.getElem?_eq_getElem hlt]
        have e : a.tmps.getD d undef = a.tmps[d] := by simp [hlt]
        rw [e] at hs
        generalize a.tmps[d] = v' at hs
        generalize eget env d = v at hs
        cases hs <;> rfl
    rw [this]
abbrev Jd9 := FuncId → Array Value → St → Option (Value × St)
def Kea (P : Program) (call : Jd9) (env : Env) (id : Nat) (o : Oper) (σ : St) : Option (Value × St) :=
  match Jal P (rho env) id o σ with
  | some (.val v σ') => some (v, σ')
  | some (.enter f args) => call f args σ
  | none => none
def Jj5 (P : Program) (call : Jd9) (ops : Array Oper) (base : Nat) : List Oper → Nat → Env → St → Option (Env × St)
  | [], _, env, σ => some (env, σ)
  | o :: r, i, env, σ =>
    if Jbg ops env o then
      match Kea P call env (base + i) o σ with
      | some (v, σ') => Jj5 P call ops base r (i + 1) (Jcw env o.dst v) σ'
      | none => none
    else Jj5 P call ops base r (i + 1) (Jcw env o.dst undef) σ
def SimF (P : Program) (gl : List Nat) (f : FuncId) (args : Array Value) (σ : St) (v : Value) (σ' : St) : Prop :=
  ∀ g w args', Glob gl g → Rel g σ w → ARel g args args' → Calls P f args' w fun e w' => ∃ v' g', e = .returned v' ∧ VRel g' v v' ∧ Rel g' σ' w' ∧ Ext (fun A => σ.next ≤ A) g g' σ σ' w w'
def Jd9.ok (P : Program) (gl : List Nat) (call : Jd9) : Prop := ∀ f args σ v σ', call f args σ = some (v, σ') → SimF P gl f args σ v σ'
theorem Kd9 {P : Program} {gl : List Nat} {call : Jd9} (hc : call.ok P gl) {env : Env} {id : Nat} {o : Oper} {σ σ' : St} {v : Value} (h : Kea P call env id o σ = some (v, σ'))
    {g : Gam} {w : World} {a : Act} (hg : Glob gl g) (hr : Rel g σ w) (hid : σ.get id = none) (hlt : id < σ.next) (hρ : ∀ x ∈ o.op.operands, VRel g (rho env x) (a.eval x))
    {K : Act → World → Prop} {Q : Exit → Act → World → Prop} (k : ∀ v' w' g', VRel g' v v' → Rel g' σ' w' → Ext (fun A => A = id ∨ σ.next ≤ A) g g' σ σ' w w' → K (a.put o.dst v') w') : o.wp P a w K Q := by
  unfold Kea at h
  unfold Oper.wp
  split at h
  · rename_i v2 σ2 he
    simp only [Option.some.injEq, Prod.mk.injEq] at h
    obtain ⟨rfl, rfl⟩ := h
    obtain ⟨n, w', g', v', e, hn, hv, hr', hx⟩ := Jip he hr hid hlt hρ
    rw [e]
    have := k v' w' g' hv hr' (hx.mono fun _ h => .inl h)
    rcases hn with rfl | ⟨rfl, rfl⟩
    · exact this
    · exact this
  · rename_i f args he
    obtain ⟨args', e, ha⟩ := Jip he hr hid hlt hρ
    rw [e]
    refine (hc _ _ _ _ _ h g w args' hg hr ha).mono ?_
    rintro e w' ⟨v', g', rfl, hv, hr', hx⟩
    exact k v' w' g' hv hr' (hx.mono fun _ h => .inr h)
  · cases h
theorem Jrb {P : Program} {gl : List Nat} {call : Jd9} (hc : call.ok P gl) {ops : Array Oper} {N base : Nat} {Q : Exit → Act → World → Prop} {env' : Env} {σ' : St} : ∀ (l : List Oper) (i : Nat) (env : Env) (σ : St) (g : Gam) (w : World) (a : Act),
    Jj5 P call ops base l i env σ = some (env', σ') → (∀ o ∈ l, Jfj gl N o = true ∧ Jef ops N o = true) → (∀ j o, l[j]? = some o → ops[i + j]? = some o) → i + l.length = ops.size → base + ops.size ≤ σ.next → (∀ j, i ≤ j → j < ops.size → σ.get (base + j) = none) →
    Glob gl g → Rel g σ w → Jco Ds g N env a →
    (∀ a' w' g', Rel g' σ' w' → Jco Ds g' N env' a' → Ext (fun A => base ≤ A) g g' σ σ' w w' → Q .normal a' w') → wpOps P ops Q (List.range' i l.length) a w
  | [], i, env, σ, g, w, a, h, _, _, _, _, _, hg, hr, he, k => by
    simp only [Jj5, Option.some.injEq, Prod.mk.injEq] at h
    obtain ⟨rfl, rfl⟩ := h
    exact k a w g hr he (Ext.refl _ _ _ _)
  | o :: r, i, env, σ, g, w, a, h, hok, hops, hlen, hnext, hfree, hg, hr, he, k => by
    obtain ⟨ok1, ok2⟩ := hok o (by simp)
    simp only [Jfj, Bool.and_eq_true, List.all_eq_true] at ok1
    have hρ : ∀ x ∈ o.op.operands, VRel g (rho env x) (a.eval x) := fun x hx => he.rho hg (ok1.1 x (by simpa using hx))
    have hoi : ops[i]? = some o := by have := hops 0 o rfl; simpa using this
    have hi : i < ops.size := by simp at hlen; omega
    have hw := Jtd he o ok2
    simp only [List.length_cons, List.range'_succ, wpOps, hoi, hw]
    simp only [Jj5] at h
    have rest := fun (env2 : Env) (σ2 : St) (g2 : Gam) (w2 : World) (a2 : Act) (h2 : Jj5 P call ops base r (i + 1) env2 σ2 = some (env', σ')) (hn2 : base + ops.size ≤ σ2.next) (hf2 : ∀ j, i + 1 ≤ j → j < ops.size → σ2.get (base + j) = none)
        (hg2 : Glob gl g2) (hr2 : Rel g2 σ2 w2) (he2 : Jco Ds g2 N env2 a2) (k2 : ∀ a' w' g', Rel g' σ' w' → Jco Ds g' N env' a' → Ext (fun A => base ≤ A) g2 g' σ2 σ' w2 w' → Q .normal a' w') =>
      Jrb hc r (i + 1) env2 σ2 g2 w2 a2 h2 (fun o' ho' => hok o' (by simp [ho'])) (fun j o' hj => by have := hops (j + 1) o' (by simpa using hj); rwa [show i + 1 + j = i + (j + 1) by omega]) (by simp at hlen; omega) hn2 hf2 hg2 hr2 he2 k2
    split at h
    · rename_i hwant
      rw [if_pos hwant]
      split at h
      · rename_i v σ1 hs
        left
        refine Kd9 hc hs hg hr (hfree i (Nat.le_refl _) hi) (by omega) hρ fun v' w' g' hv hr' hx => ?_
        have hx' : Ext (fun A => base ≤ A) g g' σ σ1 w w' := hx.mono fun A hA => by rcases hA with rfl | hA <;> omega
        refine rest _ σ1 g' w' _ h (Nat.le_trans hnext hx.next) (fun j h1 h2 => ?_) (hg.mono hx.le) hr' ((he.mono hx.le).put ok1.2 hv) fun a'' w'' g'' r1 r2 r3 => k a'' w'' g'' r1 r2 (hx'.trans r3)
        have hnone := hfree j (by omega) h2
        have gnone : g (base + j) = none := by
          cases e : g (base + j) with
          | none => rfl
          | some x => obtain ⟨ob, hob, _⟩ := hr.obj _ x e; rw [hnone] at hob; cases hob
        rw [hx.frame (base + j) gnone (by omega)]
        exact hnone
      · cases h
    · rename_i hwant
      rw [if_neg hwant]
      exact rest _ σ g w _ h hnext (fun j h1 h2 => hfree j (by omega) h2) hg hr (he.put ok1.2 (.tuple _ _ rfl fun i h => by simp at h)) k
inductive Ex where
  | normal
  | exit (id : Nat)
  | ret
def Ex.to : Ex → Exit
  | .normal => .normal
  | .exit id => .exit id
  | .ret => .ret
def SimC (P : Program) (gl : List Nat) (N : Nat) (c : Code) (env : Env) (σ : St) (ex : Ex) (env' : Env) (σ' : St) : Prop :=
  ∀ (Ds : List Deferred) g w a, Glob gl g → Rel g σ w → Jco Ds g N env a → c.wp P (fun e a' w' => e = ex.to ∧ ∃ g', Rel g' σ' w' ∧ Jco Ds g' N env' a' ∧ Ext (fun A => σ.next ≤ A) g g' σ σ' w w') a w
theorem SimC.region {P : Program} {gl : List Nat} {N : Nat} {call : Jd9} (hc : call.ok P gl) {id : Nat} {ops : Array Oper} {env env' : Env} {σ σ' : St} (hok : ∀ o ∈ ops.toList, Jfj gl N o = true ∧ Jef ops N o = true)
    (h : Jj5 P call ops σ.next ops.toList 0 env (σ.bump ops.size) = some (env', σ')) : SimC P gl N (.region id ops false) env σ .normal env' σ' := by
  intro Ds g w a hg hr he
  refine wp_region ?_
  have hrange : List.range ops.size = List.range' 0 ops.toList.length := by rw [List.range_eq_range']; simp
  rw [hrange]
  have hb := Ext.bump (N := fun A => σ.next ≤ A) g σ w ops.size
  refine Jrb hc ops.toList 0 env (σ.bump ops.size) g w a h hok (fun j o hj => by simpa using hj) (by simp) (Nat.le_refl _) (fun j _ _ => ?_) hg (hr.bump _) he fun a' w' g' r1 r2 r3 => ⟨rfl, g', r1, r2, hb.trans r3⟩
  cases e : (σ.bump ops.size).get (σ.next + j) with
  | none => rfl
  | some o => have := hr.wf.lt _ o e; omega
theorem SimC.seq {P : Program} {gl : List Nat} {N : Nat} {a b : Code} {env env1 env2 : Env} {σ σ1 σ2 : St} {ex : Ex} (h1 : SimC P gl N a env σ .normal env1 σ1) (h2 : SimC P gl N b env1 σ1 ex env2 σ2) : SimC P gl N (.seq a b) env σ ex env2 σ2 := by
  intro Ds g w x hg hr he
  refine wp_seq (wp_mono (h1 Ds g w x hg hr he) ?_)
  rintro e a' w' ⟨rfl, g', r1, r2, r3⟩
  refine wp_mono (h2 Ds g' w' a' (hg.mono r3.le) r1 r2) ?_
  rintro e a'' w'' ⟨rfl, g'', s1, s2, s3⟩
  exact ⟨rfl, g'', s1, s2, r3.trans (s3.mono fun A hA => Nat.le_trans r3.next hA)⟩
theorem SimC.seq_out {P : Program} {gl : List Nat} {N : Nat} {a b : Code} {env env1 : Env} {σ σ1 : St} {ex : Ex} (h1 : SimC P gl N a env σ ex env1 σ1) (hex : ex ≠ .normal) : SimC P gl N (.seq a b) env σ ex env1 σ1 := by
  intro Ds g w x hg hr he
  refine wp_seq (wp_mono (h1 Ds g w x hg hr he) ?_)
  rintro e a' w' ⟨rfl, rest⟩
  cases ex with
  | normal => exact (hex rfl).elim
  | exit id => exact ⟨rfl, rest⟩
  | ret => exact ⟨rfl, rest⟩
theorem SimC.cond {P : Program} {gl : List Nat} {N : Nat} {c : Operand} {a b : Code} {env env1 : Env} {σ σ1 : St} {ex : Ex} {t : Bool} (hok : Jki gl c = true) (hc : Ev.rho env c = .bool t) (h : SimC P gl N (if t then a else b) env σ ex env1 σ1) : SimC P gl N (.cond c a b) env σ ex env1 σ1 := by
  intro Ds g w x hg hr he
  have hv := he.rho hg hok
  rw [hc] at hv
  have hx : x.eval c = .bool t := by
    generalize x.eval c = v at hv
    cases hv; rfl
  exact wp_cond hx (h Ds g w x hg hr he)
theorem SimC.block {P : Program} {gl : List Nat} {N : Nat} {id : Nat} {c : Code} {env env1 : Env} {σ σ1 : St} {ex : Ex} (h : SimC P gl N c env σ ex env1 σ1) :
    SimC P gl N (.block id c) env σ (match ex with | .exit id' => if id' = id then .normal else .exit id' | e => e) env1 σ1 := by
  intro Ds g w x hg hr he
  refine wp_block (wp_mono (h Ds g w x hg hr he) ?_)
  rintro e a' w' ⟨rfl, rest⟩
  cases ex with
  | normal => exact ⟨rfl, rest⟩
  | ret => exact ⟨rfl, rest⟩
  | exit id' =>
    simp only [Ex.to, Exit.inBlock]
    split
    · exact ⟨rfl, rest⟩
    · exact ⟨rfl, rest⟩
theorem SimC.scope {P : Program} {gl : List Nat} {N : Nat} {c : Code} {env env1 : Env} {σ σ1 : St} {ex : Ex} (h : SimC P gl N c env σ ex env1 σ1) : SimC P gl N (.scope c) env σ ex env1 σ1 := by
  intro Ds g w x hg hr he
  refine wp_scope_straight (wp_mono (h Ds g w x hg hr he) ?_)
  rintro e a' w' ⟨rfl, rest⟩
  cases ex <;> exact ⟨rfl, rest⟩
def SimR (P : Program) (gl : List Nat) (N : Nat) (c : Code) (n : Nat) (env : Env) (σ : St) (ex : Ex) (env' : Env) (σ' : St) : Prop :=
  ∀ (Ds : List Deferred) g w a, Glob gl g → Rel g σ w → Jco Ds g N env a → Code.rounds P c (fun e a' w' => e = ex.to ∧ ∃ g', Rel g' σ' w' ∧ Jco Ds g' N env' a' ∧ Ext (fun A => σ.next ≤ A) g g' σ σ' w w') n a w
theorem Jnm {P : Program} {c : Code} {Q Q' : Exit → Act → World → Prop} (h : ∀ e a w, Q e a w → Q' e a w) : ∀ (n : Nat) (a : Act) (w : World), Code.rounds P c Q n a w → Code.rounds P c Q' n a w
  | 0, _, _, k => k
  | n + 1, a, w, k => by
    simp only [Code.rounds] at k ⊢
    refine wp_mono k fun e a' w' hq => ?_
    cases e with
    | normal => exact Jnm h n a' w' hq
    | _ => exact h _ _ _ hq
theorem SimC.loop {P : Program} {gl : List Nat} {N : Nat} {c : Code} {n : Nat} {env env1 : Env} {σ σ1 : St} {ex : Ex} (h : SimR P gl N c n env σ ex env1 σ1) : SimC P gl N (.loop c) env σ ex env1 σ1 :=
  fun Ds g w a hg hr he => wp_loop_rounds n (h Ds g w a hg hr he)
theorem SimR.last {P : Program} {gl : List Nat} {N : Nat} {c : Code} {n : Nat} {env env1 : Env} {σ σ1 : St} {ex : Ex} (h : SimC P gl N c env σ ex env1 σ1) (hex : ex ≠ .normal) : SimR P gl N c (n + 1) env σ ex env1 σ1 := by
  intro Ds g w a hg hr he
  rw [rounds_succ]
  refine wp_mono (h Ds g w a hg hr he) ?_
  rintro e a' w' ⟨rfl, rest⟩
  cases ex with
  | normal => exact (hex rfl).elim
  | exit id => exact ⟨rfl, rest⟩
  | ret => exact ⟨rfl, rest⟩
theorem SimR.more {P : Program} {gl : List Nat} {N : Nat} {c : Code} {n : Nat} {env env1 env2 : Env} {σ σ1 σ2 : St} {ex : Ex} (h : SimC P gl N c env σ .normal env1 σ1) (h2 : SimR P gl N c n env1 σ1 ex env2 σ2) : SimR P gl N c (n + 1) env σ ex env2 σ2 := by
  intro Ds g w a hg hr he
  rw [rounds_succ]
  refine wp_mono (h Ds g w a hg hr he) ?_
  rintro e a' w' ⟨rfl, g', r1, r2, r3⟩
  refine Jnm ?_ n a' w' (h2 Ds g' w' a' (hg.mono r3.le) r1 r2)
  rintro e a'' w'' ⟨rfl, g'', s1, s2, s3⟩
  exact ⟨rfl, g'', s1, s2, r3.trans (s3.mono fun A hA => Nat.le_trans r3.next hA)⟩
def Ja2 (P : Program) (env : Env) (σ : St) : List ResultVar → Option (List Value)
  | [] => some []
  | .tmp t :: r => match Ja2 P env σ r with
    | some l => some (eget env t :: l)
    | none => none
  | .cell a t :: r => match Jh1 P t (eget env a) σ, Ja2 P env σ r with
    | some v, some l => some (v :: l)
    | _, _ => none
def packed : List Value → Value
  | [v] => v
  | l => .tuple l.toArray
def Jfl : List Value → Nat → Env → Env
  | [], _, env => env
  | v :: r, i, env => Jfl r (i + 1) (eput env i v)
theorem Juj : ∀ (l : List Value) (i : Nat) (env : Env) (t : Nat), eget (Jfl l i env) t = if i ≤ t ∧ t < i + l.length then l.getD (t - i) undef else eget env t
  | [], i, env, t => by simp [Jfl]; omega
  | v :: r, i, env, t => by
    simp only [Jfl, Juj r (i + 1), Jab, List.length_cons]
    by_cases h : i = t
    · subst h
      rw [if_neg (by omega), if_pos rfl, if_pos (by omega)]
      simp
    · rw [if_neg h]
      by_cases h2 : i + 1 ≤ t ∧ t < i + 1 + r.length
      · rw [if_pos h2, if_pos (by omega)]
        rw [show t - i = (t - (i + 1)) + 1 by omega]
        simp
      · rw [if_neg h2, if_neg (by omega)]
theorem Jla {P : Program} {g : Gam} {N : Nat} {env : Env} {σ : St} {a : Act} {w : World} (he : Jco Ds g N env a) (hr : Rel g σ w) : ∀ (l : List ResultVar) (vs : List Value), Ja2 P env σ l = some vs →
    ∃ vs' : List Value, (l.mapM fun (x : ResultVar) => (match x with | .tmp t => pure (a.tmps.getD t undef) | .cell a' t => do loadVar t (← asAddr (a.tmps.getD a' undef)) : Sem Value)).run P w = .ok vs' w ∧ LRel g vs vs'
  | [], vs, h => by simp only [Ja2] at h; cases h; exact ⟨[], by simp, LRel.nil g⟩
  | .tmp t :: r, vs, h => by
    simp only [Ja2] at h
    split at h
    · rename_i l hl
      cases h
      obtain ⟨vs', e, hv⟩ := Jla he hr r l hl
      refine ⟨a.tmps.getD t undef :: vs', by simp only [List.mapM_cons, Sem.run_bind, Sem.run_pure, Result.andThen_ok, e], by simp [hv.1], fun i h1 h2 => ?_⟩
      cases i with
      | zero => exact he.slot t
      | succ i => exact hv.2 i (Nat.lt_of_succ_lt_succ h1) (Nat.lt_of_succ_lt_succ h2)
    · cases h
  | .cell c t :: r, vs, h => by
    simp only [Ja2] at h
    split at h
    · rename_i v l hv1 hl
      cases h
      obtain ⟨vs', e, hv⟩ := Jla he hr r l hl
      obtain ⟨v', e1, e2⟩ := Jnp (P := P) hv1 hr (he.slot c)
      have hld : (do loadVar t (← asAddr (a.tmps.getD c undef)) : Sem Value).run P w = .ok v' w := by
        have hs := he.slot c
        generalize a.tmps.getD c undef = q at hs e1
        generalize eget env c = q0 at hs hv1
        unfold Jh1 at hv1
        split at hv1
        · cases hs
          simpa [Instr.loadAt, Instr.sureAddr, asAddr] using e1
        · cases hv1
      refine ⟨v' :: vs', by simp only [List.mapM_cons, Sem.run_bind] at hld ⊢; simp only [hld, Result.andThen_ok, e, Sem.run_pure], by simp [hv.1], fun i h1 h2 => ?_⟩
      cases i with
      | zero => exact e2
      | succ i => exact hv.2 i (Nat.lt_of_succ_lt_succ h1) (Nat.lt_of_succ_lt_succ h2)
    · cases h
inductive Cls where
  | pure | alloc | read | loud
  deriving DecidableEq
def Jj7 (P : Program) (src dst : TypeId) : Cls :=
  match P.underlying src with
  | some .string => match P.underlying dst with
    | some (.slice e) => match P.underlying e with
      | some (.int .u8) => .alloc
      | _ => .loud
    | _ => .loud
  | some (.slice _) => match P.underlying dst with
    | some .string => .read
    | _ => .loud
  | _ => .pure
def Jac (P : Program) : Op → Cls
  | .move _ | .assign _ | .pick .. | .build .. | .nilCheck _ | .binOp .. | .unOp .. | .makeInterface .. | .makeFunc (.func _) .. | .slice .. | .fieldAddr .. | .field .. | .indexAddr .. | .index .. | .extract .. => .pure
  | .alloc _ | .box .. | .buildSlice .. | .makeSlice .. | .range .. => .alloc
  | .convert src dst _ => Jj7 P src dst
  | .load .. => .read
  | .call c => match c.callee with
    | .builtin .len => match c.argTypes.toList with
      | [t] => match P.underlying t with
        | some (.slice _) => .pure
        | some .string => .pure
        | _ => .loud
      | _ => .loud
    | .builtin .cap => .pure
    | .builtin .min => .pure
    | .builtin .max => .pure
    | _ => .loud
  | _ => .loud
def Kbj (P : Program) (ρ : Operand → Value) (o : Oper) (v : Value) : Prop :=
  (∀ id σ, Jal P ρ id o σ = some (.val v σ)) ∧
  ∀ (g : Gam) (ρ' : Operand → Value) (w : World), (∀ x ∈ o.op.operands, VRel g (ρ x) (ρ' x)) → ∃ v', (execOp ρ' o).run P w = .ok (.value v') w ∧ VRel g v v'
theorem Jcr {P : Program} {ρ : Operand → Value} {o : Oper} {σ : St} {r : ARes} (h : Ja7 P ρ o σ = some r) :
    ∃ v, r = .val v σ ∧ (∀ σ', Ja7 P ρ o σ' = some (.val v σ')) ∧ ∀ (g : Gam) (ρ' : Operand → Value) (w : World), (∀ x ∈ o.op.operands, VRel g (ρ x) (ρ' x)) → ∃ v', (execOp ρ' o).run P w = .ok (.value v') w ∧ VRel g v v' := by
  unfold Ja7 at h
  split at h
  · rename_i hc
    split at h
    · rename_i v hv
      split at h
      · rename_i hf
        cases h
        refine ⟨v, rfl, fun σ' => ?_, fun g ρ' w hρ => ?_⟩
        · unfold Ja7; rw [if_pos hc, hv]; simp [hf]
        · simp only [Bool.and_eq_true, Jdh, List.all_eq_true] at hc
          have e : execOp ρ' o = execOp ρ o := execOp_congr o (fun cs b e => by rw [e] at hc; simp [Je1] at hc) fun x hx => Je5 (hc.1 x (by simpa using hx)) (hρ x hx)
          exact ⟨v, by rw [e]; exact Jg9 hv w, Jb4 hf⟩
      · cases h
    · cases h
  · cases h
theorem Jhf {P : Program} {ρ : Operand → Value} {o : Oper} {σ : St} (h : Ja7 P ρ o σ = none) (σ' : St) : Ja7 P ρ o σ' = none := by
  cases e : Ja7 P ρ o σ' with
  | none => rfl
  | some r =>
    obtain ⟨v, _, k, _⟩ := Jcr e
    rw [k σ] at h; cases h
theorem Jqj {σ : St} {r : Option Value} {a : ARes} (h : valOf σ r = some a) : ∃ v, r = some v ∧ a = .val v σ := by
  unfold valOf at h
  split at h
  · cases h; exact ⟨_, rfl, rfl⟩
  · cases h
theorem Jn8 {P : Program} {ρ : Operand → Value} {id : Nat} {o : Oper} {σ : St} {r : ARes} (hcl : Jac P o.op = .pure) (h : Jal P ρ id o σ = some r) : ∃ v, r = .val v σ ∧ Kbj P ρ o v := by
  have flat : (∀ σ', Jal P ρ id o σ' = Ja7 P ρ o σ') → (∀ id' σ', Jal P ρ id' o σ' = Ja7 P ρ o σ') → Ja7 P ρ o σ = some r → ∃ v, r = .val v σ ∧ Kbj P ρ o v := by
    intro _ e2 e
    obtain ⟨v, k1, k2, k3⟩ := Jcr e
    exact ⟨v, k1, fun id' σ' => by rw [e2]; exact k2 σ', k3⟩
  have fromVal : ∀ {s : Option Value} {m : (Operand → Value) → Sem Value}, valOf σ s = some r → (∀ id' σ', Jal P ρ id' o σ' = valOf σ' s) →
      (∀ ρ', execOp ρ' o = (do pure (.value (← m ρ')))) → (∀ v, s = some v → ∀ (g : Gam) (ρ' : Operand → Value) (w : World), (∀ x ∈ o.op.operands, VRel g (ρ x) (ρ' x)) → ∃ v', (m ρ').run P w = .ok v' w ∧ VRel g v v') →
      ∃ v, r = .val v σ ∧ Kbj P ρ o v := by
    intro s m hv he hx hk
    obtain ⟨v, rfl, rfl⟩ := Jqj hv
    refine ⟨v, rfl, fun id' σ' => by rw [he]; rfl, fun g ρ' w hρ => ?_⟩
    obtain ⟨v', a, b⟩ := hk v rfl g ρ' w hρ
    exact ⟨v', by rw [hx]; simp only [Sem.run_bind, a, Result.andThen_ok, Sem.run_pure], b⟩
  cases ho : o.op with
  | move x =>
    unfold Jal at h; rw [ho] at h
    cases h
    refine ⟨_, rfl, fun id' σ' => by unfold Jal; rw [ho], fun g ρ' w hρ => ?_⟩
    rw [ho] at hρ
    exact ⟨_, by simp only [execOp, ho, Sem.run_pure], hρ x (by simp [Op.operands])⟩
  | assign x =>
    unfold Jal at h; rw [ho] at h
    cases h
    refine ⟨_, rfl, fun id' σ' => by unfold Jal; rw [ho], fun g ρ' w hρ => ?_⟩
    rw [ho] at hρ
    exact ⟨_, by simp only [execOp, ho, Sem.run_pure], hρ x (by simp [Op.operands])⟩
  | pick c a b =>
    unfold Jal at h; rw [ho] at h
    simp only at h
    split at h
    · rename_i t ht
      cases h
      refine ⟨_, rfl, fun id' σ' => by unfold Jal; rw [ho]; simp only [ht], fun g ρ' w hρ => ?_⟩
      rw [ho] at hρ
      have hc := hρ c (by simp [Op.operands])
      rw [ht] at hc
      obtain ⟨y, hy⟩ : ∃ y, y = ρ' c := ⟨_, rfl⟩
      rw [← hy] at hc
      cases hc
      refine ⟨if t then ρ' a else ρ' b, by simp [execOp, ho, ← hy, asBool], ?_⟩
      cases t
      · exact hρ b (by simp [Op.operands])
      · exact hρ a (by simp [Op.operands])
    · cases h
  | build t parts =>
    unfold Jal at h; rw [ho] at h
    refine fromVal (m := fun ρ' => Instr.build t (parts.map fun (i, x) => (i, ρ' x))) h (fun id' σ' => by unfold Jal; rw [ho]) (fun ρ' => by simp [execOp, ho]) (fun v hv g ρ' w hρ => ?_)
    rw [ho] at hρ
    refine Jqt w hv (by simp) (fun i h1 h2 => ?_)
    simp only [Array.getElem_map]
    refine ⟨trivial, hρ _ ?_⟩
    simp only [Op.operands, List.mem_toArray, List.mem_map]
    exact ⟨parts[i]'(by simpa using h1), by simp, rfl⟩
  | nilCheck x =>
    unfold Jal at h; rw [ho] at h
    simp only at h
    have hop : x ∈ (Op.nilCheck x).operands := by simp [Op.operands]
    split at h
    · rename_i a ha
      cases h
      refine ⟨_, rfl, fun id' σ' => by unfold Jal; rw [ho]; simp only [ha], fun g ρ' w hρ => ?_⟩
      rw [ho] at hρ
      have hx := hρ x hop
      rw [ha] at hx
      obtain ⟨y, hy⟩ : ∃ y, y = ρ' x := ⟨_, rfl⟩
      rw [← hy] at hx
      cases hx with
      | ptr A o z hz => exact ⟨_, by simp [execOp, ho, ← hy], .ptr A o z hz⟩
    · rename_i t v ha
      cases h
      refine ⟨_, rfl, fun id' σ' => by unfold Jal; rw [ho]; simp only [ha], fun g ρ' w hρ => ?_⟩
      rw [ho] at hρ
      have hx := hρ x hop
      rw [ha] at hx
      obtain ⟨y, hy⟩ : ∃ y, y = ρ' x := ⟨_, rfl⟩
      rw [← hy] at hx
      cases hx with
      | iface _ _ _ hv => exact ⟨_, by simp [execOp, ho, ← hy], .iface _ _ _ hv⟩
    · rename_i f a c ha
      cases h
      refine ⟨_, rfl, fun id' σ' => by unfold Jal; rw [ho]; simp only [ha], fun g ρ' w hρ => ?_⟩
      rw [ho] at hρ
      have hx := hρ x hop
      rw [ha] at hx
      obtain ⟨y, hy⟩ : ∃ y, y = ρ' x := ⟨_, rfl⟩
      rw [← hy] at hx
      cases hx with
      | func _ _ b _ d h1 h2 h3 h4 => exact ⟨_, by simp [execOp, ho, ← hy], .func _ _ _ _ _ h1 h2 h3 h4⟩
    · cases h
  | binOp op t x y yt =>
    unfold Jal at h; rw [ho] at h
    simp only at h
    split at h
    · rename_i r2 hr2
      cases h
      obtain ⟨v, k1, k2, k3⟩ := Jcr hr2
      exact ⟨v, k1, fun id' σ' => by unfold Jal; rw [ho]; simp only [k2 σ'], k3⟩
    · rename_i hfl
      have hfl' := Jhf hfl
      split at h
      · split at h
        · rename_i b hb
          cases h
          refine ⟨_, rfl, fun id' σ' => by unfold Jal; rw [ho]; simp only [hfl' σ', hb], fun g ρ' w hρ => ?_⟩
          rw [ho] at hρ
          obtain ⟨e1, e2⟩ := Jrv (P := P) w hb (hρ x (by simp [Op.operands])) (hρ y (by simp [Op.operands]))
          refine ⟨.bool b, ?_, .bool _⟩
          have hbin : (binOp .eql t (ρ' x) (ρ' y)).run P w = .ok (.bool b) w := by
            rw [(Jm6 hb (hρ x (by simp [Op.operands])) (hρ y (by simp [Op.operands]))).1]; simp [e1]
          simp only [execOp, ho, Sem.run_bind, e2, Result.andThen_ok, hbin, Sem.run_pure]
        · cases h
      · split at h
        · rename_i b hb
          cases h
          refine ⟨_, rfl, fun id' σ' => by unfold Jal; rw [ho]; simp only [hfl' σ', hb], fun g ρ' w hρ => ?_⟩
          rw [ho] at hρ
          obtain ⟨e1, e2⟩ := Jrv (P := P) w hb (hρ x (by simp [Op.operands])) (hρ y (by simp [Op.operands]))
          refine ⟨.bool !b, ?_, .bool _⟩
          have hbin : (binOp .neq t (ρ' x) (ρ' y)).run P w = .ok (.bool !b) w := by
            rw [(Jm6 hb (hρ x (by simp [Op.operands])) (hρ y (by simp [Op.operands]))).2]; simp [e1]
          simp only [execOp, ho, Sem.run_bind, e2, Result.andThen_ok, hbin, Sem.run_pure]
        · cases h
      · cases h
  | unOp op t x =>
    have e : ∀ id' σ', Jal P ρ id' o σ' = Ja7 P ρ o σ' := fun id' σ' => by unfold Jal; rw [ho]
    exact flat (e id) e (by rw [← e id σ]; exact h)
  | makeInterface t x =>
    unfold Jal at h; rw [ho] at h
    simp only at h
    split at h
    · cases h
    · rename_i d hd hu
      cases h
      refine ⟨_, rfl, fun id' σ' => ?_, fun g ρ' w hρ => ?_⟩
      · unfold Jal; rw [ho]; simp only [hu]
      · rw [ho] at hρ
        refine ⟨.iface t (ρ' x), ?_, .iface _ _ _ (hρ x (by simp [Op.operands]))⟩
        have : (Instr.makeInterface t (ρ' x)).run P w = .ok (.iface t (ρ' x)) w := by
          simp only [Instr.makeInterface, Sem.run_bind, rU w hu, Result.andThen_ok]
          cases d <;> first | rfl | (rename_i q; exact (hd q rfl).elim)
        simp only [execOp, ho, Sem.run_bind, this, Result.andThen_ok, Sem.run_pure]
    · cases h
  | makeFunc fn first captured =>
    cases fn with
    | func f =>
      unfold Jal at h; rw [ho] at h
      cases h
      refine ⟨_, rfl, fun id' σ' => by unfold Jal; rw [ho], fun g ρ' w hρ => ?_⟩
      rw [ho] at hρ
      have h1 := ARel.map (g := g) (ρ := ρ) (ρ' := ρ') first (fun x hx => hρ x (by simp [Op.operands, hx]))
      have h2 := ARel.map (g := g) (ρ := ρ) (ρ' := ρ') captured (fun x hx => hρ x (by simp [Op.operands, hx]))
      exact ⟨_, by simp [execOp, ho, Instr.makeFunc], .func _ _ _ _ _ h1.1 h1.2 h2.1 h2.2⟩
    | _ => rw [ho] at hcl; simp [Jac] at hcl
  | slice t x lo hi mx =>
    unfold Jal at h; rw [ho] at h
    simp only at h
    split at h
    · rename_i r2 hr2
      cases h
      obtain ⟨v, k1, k2, k3⟩ := Jcr hr2
      exact ⟨v, k1, fun id' σ' => by unfold Jal; rw [ho]; simp only [k2 σ'], k3⟩
    · rename_i hfl
      have hfl' := Jhf hfl
      refine fromVal (m := fun ρ' => Instr.sliceAt t (ρ' x) (lo.map ρ') (hi.map ρ') (mx.map ρ')) h (fun id' σ' => by unfold Jal; rw [ho]; simp only [hfl' σ']) (fun ρ' => by simp [execOp, ho]) (fun v hv g ρ' w hρ => ?_)
      rw [ho] at hρ
      exact Jqq w hv (hρ x (by simp [Op.operands])) (ORel.map lo fun y e => hρ y (by simp [Op.operands, e])) (ORel.map hi fun y e => hρ y (by simp [Op.operands, e])) (ORel.map mx fun y e => hρ y (by simp [Op.operands, e]))
  | fieldAddr s x f =>
    unfold Jal at h; rw [ho] at h
    refine fromVal (m := fun ρ' => Instr.fieldAt s (ρ' x) f) h (fun id' σ' => by unfold Jal; rw [ho]) (fun ρ' => by simp [execOp, ho]) (fun v hv g ρ' w hρ => ?_)
    rw [ho] at hρ
    exact Jjt w hv (hρ x (by simp [Op.operands]))
  | field t x f =>
    unfold Jal at h; rw [ho] at h
    refine fromVal (m := fun ρ' => Instr.field t (ρ' x) f) h (fun id' σ' => by unfold Jal; rw [ho]) (fun ρ' => by simp [execOp, ho]) (fun v hv g ρ' w hρ => ?_)
    rw [ho] at hρ
    exact Jqs w hv (hρ x (by simp [Op.operands]))
  | indexAddr t x ix =>
    unfold Jal at h; rw [ho] at h
    refine fromVal (m := fun ρ' => Instr.indexAt t (ρ' x) (ρ' ix)) h (fun id' σ' => by unfold Jal; rw [ho]) (fun ρ' => by simp [execOp, ho]) (fun v hv g ρ' w hρ => ?_)
    rw [ho] at hρ
    exact Jjs w hv (hρ x (by simp [Op.operands])) (hρ ix (by simp [Op.operands]))
  | index t x ix =>
    unfold Jal at h; rw [ho] at h
    simp only at h
    split at h
    · rename_i r2 hr2
      cases h
      obtain ⟨v, k1, k2, k3⟩ := Jcr hr2
      exact ⟨v, k1, fun id' σ' => by unfold Jal; rw [ho]; simp only [k2 σ'], k3⟩
    · rename_i hfl
      have hfl' := Jhf hfl
      refine fromVal (m := fun ρ' => Instr.index t (ρ' x) (ρ' ix)) h (fun id' σ' => by unfold Jal; rw [ho]; simp only [hfl' σ']) (fun ρ' => by simp [execOp, ho]) (fun v hv g ρ' w hρ => ?_)
      rw [ho] at hρ
      exact Jkh w hv (hρ x (by simp [Op.operands])) (hρ ix (by simp [Op.operands]))
  | extract x ix =>
    unfold Jal at h; rw [ho] at h
    refine fromVal (m := fun ρ' => Instr.extract (ρ' x) ix) h (fun id' σ' => by unfold Jal; rw [ho]) (fun ρ' => by simp [execOp, ho]) (fun v hv g ρ' w hρ => ?_)
    rw [ho] at hρ
    exact Jl3 w hv (hρ x (by simp [Op.operands]))
  | convert src dst x =>
    rw [ho] at hcl
    have hnone : ∀ id' σ', Jbq P src dst id' (ρ x) σ' = none := by
      intro id' σ'
      unfold Jbq
      split
      · rename_i e s h1 h2 h3
        simp only [Jac, Jj7, h1, h2] at hcl
        split at hcl <;> cases hcl
      · rename_i e a l c h1 h2 h3
        simp only [Jac, Jj7, h1, h2] at hcl
        cases hcl
      · rfl
    have e : ∀ id' σ', Jal P ρ id' o σ' = Ja7 P ρ o σ' := fun id' σ' => by unfold Jal; rw [ho]; simp only [hnone id' σ']
    exact flat (e id) e (by rw [← e id σ]; exact h)
  | call c =>
    rw [ho] at hcl
    have hb : (c.callee = .builtin .len ∧ ∃ t, c.argTypes.toList = [t] ∧ ((∃ e, P.underlying t = some (.slice e)) ∨ P.underlying t = some .string)) ∨ c.callee = .builtin .cap ∨ c.callee = .builtin .min ∨ c.callee = .builtin .max := by
      unfold Jac at hcl
      simp only at hcl
      split at hcl
      · rename_i hc
        left
        refine ⟨hc, ?_⟩
        split at hcl
        · rename_i t ht
          refine ⟨t, ht, ?_⟩
          split at hcl
          · rename_i e he; exact .inl ⟨e, he⟩
          · rename_i he; exact .inr he
          · cases hcl
        · cases hcl
      · rename_i hc; exact .inr (.inl hc)
      · rename_i hc; exact .inr (.inr (.inl hc))
      · rename_i hc; exact .inr (.inr (.inr hc))
      · cases hcl
    rcases hb with ⟨hc, t, ht, hu⟩ | hc | hc | hc
    · have h' := h
      unfold Jal at h'; rw [ho] at h'
      simp only [hc, ht] at h'
      split at h'
      · rename_i sT x e1 e2
        cases e1
        rcases hu with ⟨e, hu⟩ | hu
        · simp only [hu] at h'
          have e1 : c.argTypes = #[t] := by rw [← Array.toArray_toList (xs := c.argTypes), ht]
          have e3 : c.args = #[x] := by rw [← Array.toArray_toList (xs := c.args), e2]
          refine fromVal (m := fun ρ' => Builtin.len_ #[t] o.type #[ρ' x]) h' (fun id' σ' => by unfold Jal; rw [ho]; simp only [hc, ht, e2, hu]) (fun ρ' => by simp [execOp, ho, resolve, hc, invoke, builtin, e1, e3]) (fun v hv g ρ' w hρ => ?_)
          rw [ho] at hρ
          exact Kat w ⟨e, hu⟩ hv (hρ x (by simp [Op.operands, Call.operands, e3]))
        · have e : ∀ id' σ', Jal P ρ id' o σ' = Ja7 P ρ o σ' := fun id' σ' => by unfold Jal; rw [ho]; simp only [hc, ht, e2, hu]
          exact flat (e id) e (by rw [← e id σ]; exact h)
      · cases h'
    · have h' := h
      unfold Jal at h'; rw [ho] at h'
      simp only [hc] at h'
      split at h'
      · rename_i t x e1 e2
        split at h'
        · rename_i e hu
          have e3 : c.argTypes = #[t] := by rw [← Array.toArray_toList (xs := c.argTypes), e1]
          have e4 : c.args = #[x] := by rw [← Array.toArray_toList (xs := c.args), e2]
          refine fromVal (m := fun ρ' => Builtin.cap_ #[t] o.type #[ρ' x]) h' (fun id' σ' => by unfold Jal; rw [ho]; simp only [hc, e1, e2, hu]) (fun ρ' => by simp [execOp, ho, resolve, hc, invoke, builtin, e3, e4]) (fun v hv g ρ' w hρ => ?_)
          rw [ho] at hρ
          exact Kav w ⟨e, hu⟩ hv (hρ x (by simp [Op.operands, Call.operands, e4]))
        · cases h'
      · cases h'
    · have e : ∀ id' σ', Jal P ρ id' o σ' = Ja7 P ρ o σ' := fun id' σ' => by unfold Jal; rw [ho]; simp only [hc]
      exact flat (e id) e (by rw [← e id σ]; exact h)
    · have e : ∀ id' σ', Jal P ρ id' o σ' = Ja7 P ρ o σ' := fun id' σ' => by unfold Jal; rw [ho]; simp only [hc]
      exact flat (e id) e (by rw [← e id σ]; exact h)
  | _ => rw [ho] at hcl; simp [Jac] at hcl
def Jfw (g : Gam) (n : Nat) : AObj → Obj → Prop
  | .cells own ver fam c, ob => own = true ∧ ∃ cs el fr, ob = .cells cs el fr ∧ cs.size = n ∧ (∀ i (h : i < c.length), ∃ v', cs[i]? = some v' ∧ VRel g c[i] v') ∧ ∀ i, i < n → ¬ (fr.1 ≤ i ∧ i < fr.2)
  | .iter s pos, ob => ob = .stringIter s pos
  | .map es clock, ob => ∃ es', ob = .map es' clock ∧ MRel g es es'
theorem Jfw.mono {g g' : Gam} (hg : Gam.le g g') {n : Nat} {ao : AObj} {ob : Obj} (h : Jfw g n ao ob) : Jfw g' n ao ob := by
  cases ao with
  | cells own ver fam c =>
    obtain ⟨h1, cs, el, fr, h2, h3, h4, h5⟩ := h
    exact ⟨h1, cs, el, fr, h2, h3, fun i hi => let ⟨v', a, b⟩ := h4 i hi; ⟨v', a, b.mono hg⟩, h5⟩
  | iter s pos => exact h
  | map es clock => obtain ⟨es', h1, h2⟩ := h; exact ⟨es', h1, h2.mono hg⟩
theorem Jfw.says {g : Gam} {n b : Nat} {ao : AObj} {ob : Obj} (h : Jfw g n ao ob) (σ : St) {w : World} (hb : w.heap[b]? = some ob) : Jg3 g σ w ⟨b, 0, n⟩ ao := by
  cases ao with
  | cells own ver fam c =>
    obtain ⟨h1, cs, el, fr, rfl, h3, h4, h5⟩ := h
    exact ⟨cs, el, fr, hb, h3, fun _ i hi => by simpa using h4 i hi, fun _ => h5⟩
  | iter s pos => subst h; exact ⟨rfl, hb⟩
  | map es clock => obtain ⟨es', rfl, h2⟩ := h; exact ⟨es', hb, h2⟩
def Kln (P : Program) (ρ : Operand → Value) (o : Oper) (id : Nat) (v : Value) (ao : AObj) : Prop :=
  (∀ σ, Jal P ρ id o σ = some (.val v (σ.set id ao))) ∧ (∀ own ver F c, ao = .cells own ver F c → F = id) ∧
  ∀ (g : Gam) (ρ' : Operand → Value) (w : World), (∀ x ∈ o.op.operands, VRel g (ρ x) (ρ' x)) → ∃ (ob : Obj) (n : Nat) (v' : Value) (w1 : World), w1.heap = w.heap ∧ w1.os = w.os ∧ w1.output = w.output ∧ w1.tape = w.tape ∧
    (execOp ρ' o).run P w = .ok (.value v') (newW w1 ob) ∧ (∀ g' : Gam, Gam.le g g' → g' id = some ⟨w.heap.size, 0, n⟩ → VRel g' v v') ∧ Jfw g n ao ob
theorem Je0 {g : Gam} {id : Nat} {cs cs' : Array Value} {el : TypeId} (h : ARel g cs cs') : Jfw g cs'.size (.cells true 0 id cs.toList) (.cells cs' el) := by
  refine ⟨rfl, cs', el, (0, 0), rfl, rfl, fun i hi => ?_, fun i _ => by simp⟩
  have h1 : i < cs.size := by simpa using hi
  have h2 : i < cs'.size := by rw [← h.1]; exact h1
  exact ⟨cs'[i], by simp [h2], by simpa using h.2 i h1 h2⟩
theorem Jno {g : Gam} {id b n : Nat} (h : g id = some ⟨b, 0, n⟩) : VRel g (ptrTo id) (.pointer (some ⟨b, 0, none⟩)) := by
  have := VRel.ptr id 0 _ h; simpa [ptrTo] using this
theorem Jkm {P : Program} {ρ : Operand → Value} {o : Oper} {σ : St} {r : ARes} (h : Ja7 P ρ o σ = some r) (x : Operand) (hx : x ∈ o.op.operands) : Ja5 (ρ x) = true := by
  unfold Ja7 at h
  split at h
  · rename_i hc
    simp only [Bool.and_eq_true, Jdh, List.all_eq_true] at hc
    exact hc.1 x (by simpa using hx)
  · cases h
theorem Jl9 {P : Program} {ρ : Operand → Value} {id : Nat} {o : Oper} {σ : St} {r : ARes} (hcl : Jac P o.op = .alloc) (h : Jal P ρ id o σ = some r) : ∃ v ao, r = .val v (σ.set id ao) ∧ Kln P ρ o id v ao := by
  cases ho : o.op with
  | alloc elem =>
    unfold Jal at h; rw [ho] at h
    simp only at h
    split at h
    · rename_i z hz
      cases h
      obtain ⟨z1, z2⟩ := Jiw hz
      refine ⟨_, _, rfl, fun σ' => by unfold Jal; rw [ho]; simp only [hz]; rfl, fun _ _ _ _ e => by cases e; rfl, fun g ρ' w hρ => ?_⟩
      exact ⟨.cells z.cells elem, z.cells.size, .pointer (some ⟨w.heap.size, 0, none⟩), w, rfl, rfl, rfl, rfl, by simp [execOp, ho, Instr.alloc, rZ w z1, newVar, Jck], fun g' _ hg => Jno hg, Je0 (ARel.refl_flat z2)⟩
    · cases h
  | box elem x =>
    unfold Jal at h; rw [ho] at h
    cases h
    refine ⟨_, _, rfl, fun σ' => by unfold Jal; rw [ho]; rfl, fun _ _ _ _ e => by cases e; rfl, fun g ρ' w hρ => ?_⟩
    rw [ho] at hρ
    exact ⟨.cells (ρ' x).cells elem, (ρ' x).cells.size, .pointer (some ⟨w.heap.size, 0, none⟩), w, rfl, rfl, rfl, rfl, by simp [execOp, ho, Instr.box, newVar, Jck], fun g' _ hg => Jno hg, Je0 (hρ x (by simp [Op.operands])).cells⟩
  | buildSlice t len parts =>
    unfold Jal at h; rw [ho] at h
    have h0 := h
    simp only [Ja1] at h
    split at h
    · rename_i elem hu
      split at h
      · rename_i n hn
        split at h
        · rename_i hle
          split at h
          · rename_i z hz
            split at h
            · rename_i cells hf
              split at h
              · rename_i hcs
                cases h
                refine ⟨_, _, rfl, fun σ' => ?_, fun _ _ _ _ e => by cases e; rfl, fun g ρ' w hρ => ?_⟩
                · unfold Jal; rw [ho]; simp only [Ja1, hu, hn, if_pos hle, hz, hf, if_pos hcs]; rfl
                · rw [ho] at hρ
                  have hzr : ARel g (zrow z (len * n)) (zrow z (len * n)) := by
                    split at hz
                    · cases hz; exact Jen ⟨rfl, fun i h => by simp at h⟩ _ (.inr (by assumption))
                    · rename_i hne
                      obtain ⟨v, h1, h2, h3, h4⟩ := Jb0 hz
                      exact Jen (h4 g) _ (.inl (by rw [h3]; intro e; subst e; simp at hne))
                  obtain ⟨r', f', hr'⟩ := Jr2 (parts.map fun (p : Nat × Operand) => (p.1, ρ p.2)).toList (parts.map fun (p : Nat × Operand) => (p.1, ρ' p.2)).toList _ _ cells hf hzr (by simp) (fun i h1 h2 => by
                    have hi : i < parts.size := by simpa using h1
                    simp only [Array.toList_map, List.getElem_map]
                    refine ⟨trivial, hρ _ ?_⟩
                    simp only [Op.operands, List.mem_toArray, List.mem_map]
                    exact ⟨parts[i], by simp, by simp⟩)
                  refine ⟨.cells r' elem, r'.size, .slice (some ⟨w.heap.size, 0, none⟩) len len, w, rfl, rfl, rfl, rfl, ?_, fun g' hg hg2 => Jc7 hg2 (Nat.le_refl _) (by rw [← hr'.1, hcs]; exact Nat.le_refl _), Je0 hr'⟩
                  have hgt : ¬ len * n > 2 ^ 24 := by omega
                  have f'' : Instr.fill (fun i => some (i * n, n)) (Array.map (fun x => z[x % z.size]!) (Array.range (len * n))) (parts.map fun (p : Nat × Operand) => (p.1, ρ' p.2)).toList = some r' := f'
                  simp only [execOp, ho]
                  by_cases e0 : len * n = 0
                  · rw [if_pos e0] at hz
                    cases hz
                    simp only [Instr.buildSlice, Sem.run_bind, rU w hu, Result.andThen_ok, rS w hn, if_neg hgt, if_pos e0, Sem.run_pure, f'', Jck]
                  · rw [if_neg e0] at hz
                    obtain ⟨v, h1, h2, h3, h4⟩ := Jb0 hz
                    simp only [Instr.buildSlice, Sem.run_bind, rU w hu, Result.andThen_ok, rS w hn, if_neg hgt, if_neg e0, rZ w h1, h2, Sem.run_pure, f'', Jck]
              · cases h
            · cases h
          · cases h
        · cases h
      · cases h
    · cases h
  | makeSlice t l c =>
    unfold Jal at h; rw [ho] at h
    simp only [Jcq] at h
    split at h
    · rename_i elem k n k2 m hu hl hc
      split at h
      · rename_i i hi
        split at h
        · rename_i hcc
          split at h
          · rename_i z hz
            cases h
            refine ⟨_, _, rfl, fun σ' => ?_, fun _ _ _ _ e => by cases e; rfl, fun g ρ' w hρ => ?_⟩
            · unfold Jal; rw [ho]; simp only [Jcq, hl, hc, hu, hi, if_pos hcc, hz]; rfl
            · rw [ho] at hρ
              have hl' := hρ l (by simp [Op.operands])
              have hc' := hρ c (by simp [Op.operands])
              rw [hl] at hl'; rw [hc] at hc'
              obtain ⟨y1, hy1⟩ : ∃ y, y = ρ' l := ⟨_, rfl⟩
              obtain ⟨y2, hy2⟩ : ∃ y, y = ρ' c := ⟨_, rfl⟩
              rw [← hy1] at hl'; rw [← hy2] at hc'
              cases hl'; cases hc'
              simp only [Bool.and_eq_true, decide_eq_true_eq] at hcc
              obtain ⟨⟨c1, c2⟩, c3⟩ := hcc
              have hs : sz? P elem = some i.size := by simp [sz?, hi]
              have hzr : ARel g (zrow z (m * i.size)) (zrow z (m * i.size)) := by
                split at hz
                · cases hz; exact Jen ⟨rfl, fun i h => by simp at h⟩ _ (.inr (by assumption))
                · rename_i hne
                  obtain ⟨v, h1, h2, h3, h4⟩ := Jb0 hz
                  exact Jen (h4 g) _ (.inl (by rw [h3]; intro e; rw [e] at hne; simp at hne))
              have hsz : (zrow z (m * i.size)).size = m * i.size := by simp [zrow]
              refine ⟨.cells (zrow z (m * i.size)) elem, (zrow z (m * i.size)).size, .slice (some ⟨w.heap.size, 0, none⟩) n m, w, rfl, rfl, rfl, rfl, ?_, fun g' hg hg2 => Jc7 hg2 c1 (by rw [hsz]; exact Nat.le_refl _), Je0 hzr⟩
              have w1 := Jk1 c2
              have w2 := Jk1 (n := n) (by omega)
              have t1 : ¬ ((m : Int) < 0) := by omega
              have t2 : ¬ ((i.bytes : Int) * (m : Int) > 2 ^ 48) := by rw [← Int.natCast_mul]; omega
              have t3 : ¬ ((n : Int) > (m : Int)) := by omega
              have t4 : ¬ ((n : Int) < 0) := by omega
              simp only [execOp, ho, ← hy1, ← hy2, Int.ofNat_eq_natCast]
              simp only [Instr.makeSlice, Sem.run_bind, rU w hu, Result.andThen_ok, asInt, asIntOf, Sem.run_pure, rT w hi, w1, w2, rS w hs, run_askRoom]
              simp only [t1, t2, t3, t4, decide_false, Bool.or_self, Bool.or_false, Bool.false_eq_true, if_false, Sem.run_pure, Result.andThen_ok, Int.toNat_natCast, Sem.run_bind, run_askRoom, rS w hs]
              have e1' : (newRow elem ((Array.range (m * i.size)).map (z[· % z.size]!))).run P w = .ok ⟨w.heap.size, 0, none⟩ (newW w (.cells (zrow z (m * i.size)) elem)) := Jck w elem _
              by_cases e0 : m * i.size = 0
              · rw [if_pos e0] at hz
                cases hz
                simp only [if_pos e0, Sem.run_pure, Result.andThen_ok, Sem.run_bind, e1']
              · rw [if_neg e0] at hz
                obtain ⟨v, h1, h2, h3, h4⟩ := Jb0 hz
                simp only [if_neg e0, Sem.run_bind, rZ w h1, Result.andThen_ok, h2, Sem.run_pure, e1']
          · cases h
        · cases h
      · cases h
    · cases h
  | range t x =>
    unfold Jal at h; rw [ho] at h
    simp only [Jii] at h
    split at h
    · rename_i s hu hx
      cases h
      refine ⟨_, _, rfl, fun σ' => by unfold Jal; rw [ho]; simp only [Jii, hu, hx], fun _ _ _ _ e => (by cases e), fun g ρ' w hρ => ?_⟩
      rw [ho] at hρ
      have hx' := hρ x (by simp [Op.operands])
      rw [hx] at hx'
      obtain ⟨y, hy⟩ : ∃ y, y = ρ' x := ⟨_, rfl⟩
      rw [← hy] at hx'
      cases hx'
      exact ⟨.stringIter s 0, 0, .pointer (some ⟨w.heap.size, 0, none⟩), w, rfl, rfl, rfl, rfl, by simp [execOp, ho, ← hy, Instr.range, rU w hu, newW], fun g' _ hg => Jno hg, rfl⟩
    · cases h
  | convert src dst x =>
    rw [ho] at hcl
    have hk : P.underlying src = some .string ∧ ∃ e, P.underlying dst = some (.slice e) ∧ P.underlying e = some (.int .u8) := by
      unfold Jac Jj7 at hcl
      simp only at hcl
      split at hcl
      · rename_i h1
        split at hcl
        · rename_i e h2
          split at hcl
          · rename_i h3; exact ⟨h1, e, h2, h3⟩
          · cases hcl
        · cases hcl
      · split at hcl <;> cases hcl
      · cases hcl
    obtain ⟨h1, e, h2, h3⟩ := hk
    have h0 := h
    unfold Jal at h; rw [ho] at h
    simp only at h
    cases hx : ρ x with
    | string s =>
      have hcv : ∀ σ', Jbq P src dst id (ρ x) σ' = some (.val (sliceTo id s.size 1) (σ'.set id (.cells true 0 id (bytesOf s)))) := fun σ' => by
        simp only [Jbq, h1, h2, hx, h3]
      rw [hcv σ] at h
      cases h
      refine ⟨_, _, rfl, fun σ' => by unfold Jal; rw [ho]; simp only [hcv σ'], fun _ _ _ _ e => by cases e; rfl, fun g ρ' w hρ => ?_⟩
      rw [ho] at hρ
      have hx' := hρ x (by simp [Op.operands])
      rw [hx] at hx'
      obtain ⟨y, hy⟩ : ∃ y, y = ρ' x := ⟨_, rfl⟩
      rw [← hy] at hx'
      cases hx'
      obtain ⟨cap, ecap⟩ : ∃ c, c = (Question.appendCap s.size 0 e).cut (w.tape w.drawn (.appendCap s.size 0 e)) := ⟨_, rfl⟩
      have hcap : s.size ≤ cap := by rw [ecap]; simp only [Question.cut]; omega
      obtain ⟨cs, ecs⟩ : ∃ c : Array Value, c = (s.data.map fun b => Value.int .u8 b.toNat) ++ Array.replicate (cap - s.size) (.int .u8 0) := ⟨_, rfl⟩
      have hds : s.data.size = s.size := rfl
      have hcs : cs.size = cap := by rw [ecs]; simp [hds]; omega
      refine ⟨.cells cs e (cs.size, cs.size + 1), cs.size, .slice (some ⟨w.heap.size, 0, none⟩) s.size cap, Jdu w, rfl, rfl, rfl, rfl, ?_, fun g' _ hg => Jc7 hg hcap (by rw [hcs]; omega), rfl, cs, e, _, rfl, rfl, fun i hi => ?_, fun i hi => by simp only; omega⟩
      · have hb : (Jdu w).heap.size = w.heap.size := rfl
        have hq : (Question.appendCap s.size 0 e).forced = false := rfl
        have hrow := Jck (P := P) (Jdu w) e cs
        have hfz := Jq9 (Jdu w) cs e
        have hsh := Jti (Jdu w) cs e
        rw [hb] at hrow hfz hsh
        have hdraw : ({ w with drawn := w.drawn + 1 } : World) = Jdu w := rfl
        simp only [execOp, ho, ← hy, convert, Sem.run_bind, rU w h1, rU w h2, rU w h3, Result.andThen_ok, Conv.stringToBytes, run_choose, hq, Bool.false_eq_true, if_false, hdraw, ← ecap, ← ecs, hrow]
        simp only [markStringish, Sem.run_bind, run_shape, hsh, run_freeze, hfz, Sem.run_pure, Result.andThen_ok]
      · have hi' : i < s.data.size := by simpa [bytesOf] using hi
        refine ⟨.int .u8 (s.data[i]).toNat, ?_, ?_⟩
        · rw [ecs, Array.getElem?_append_left (by simpa using hi')]
          simp only [Array.getElem?_map, Array.getElem?_eq_getElem hi', Option.map_some]
        · have : (bytesOf s)[i] = .int .u8 (s.data[i]).toNat := by simp [bytesOf, Jib]
          rw [this]; exact .int _ _
    | _ =>
      exfalso
      have hcv : Jbq P src dst id (ρ x) σ = none := by simp only [Jbq, h1, h2, hx]
      rw [hcv] at h
      obtain ⟨v, _, _, k3⟩ := Jcr h
      obtain ⟨v', e1, _⟩ := k3 (fun _ => none) ρ default (fun y hy => Jb4 (Jkm h y hy))
      simp [execOp, ho, convert, rU _ h1, rU _ h2, hx] at e1
  | makeFunc fn a b => rw [ho] at hcl; cases fn <;> simp [Jac] at hcl
  | call c =>
    rw [ho] at hcl
    unfold Jac at hcl
    simp only at hcl
    repeat (split at hcl)
    all_goals cases hcl
  | _ => rw [ho] at hcl; simp [Jac] at hcl
theorem VRel.back {G g : Gam} {A o : Nat} {v' : Value} (h : VRel G (.pointer (some ⟨A, o, none⟩)) v') (hg : ∀ x, G A = some x → g A = some x) : VRel g (.pointer (some ⟨A, o, none⟩)) v' := by
  cases h with
  | ptr _ _ x hx => exact .ptr _ _ x (hg x hx)
theorem VRel.backS {G g : Gam} {A o n k : Nat} {v' : Value} (h : VRel G (.slice (some ⟨A, o, none⟩) n k) v') (hg : ∀ x, G A = some x → g A = some x) : VRel g (.slice (some ⟨A, o, none⟩) n k) v' := by
  cases h with
  | slice _ _ _ _ x o' c hx h1 h2 h3 h4 => exact .slice _ _ _ _ x o' c (hg x hx) h1 h2 h3 h4
theorem Jlc {σ : St} {A o n : Nat} {l : List Value} (h : σ.read? A o n = some l) : σ.get A ≠ none := fun e => by
  unfold St.read? St.cells? at h
  rw [e] at h
  cases h
theorem Kcv {P : Program} {src dst e : TypeId} {id : Nat} {v : Value} {σ : St} {r : ARes} (h1 : P.underlying src = some (.slice e)) (h2 : P.underlying dst = some .string) (h : Jbq P src dst id v σ = some r) :
    ∃ r3, r = .val r3 σ ∧ Jbi v σ = some r3 ∧ P.underlying e = some (.int .u8) ∧ ∃ a l c, v = .slice a l c := by
  unfold Jbq at h
  rw [h1, h2] at h
  cases v with
  | slice a l c =>
    simp only at h
    split at h
    · rename_i hu
      split at h
      · rename_i r3 hr3
        cases h
        exact ⟨r3, rfl, hr3, hu, a, l, c, rfl⟩
      · cases h
    · cases h
  | _ => cases h
theorem Jj6 {P : Program} {ρ : Operand → Value} {id : Nat} {o : Oper} {σ : St} {r : ARes} (hcl : Jac P o.op = .read) (h : Jal P ρ id o σ = some r) :
    ∃ v, r = .val v σ ∧ ∀ (g G : Gam) (ρ' : Operand → Value) (w : World), Rel g σ w → (∀ A x, G A = some x → σ.get A ≠ none → g A = some x) → (∀ x ∈ o.op.operands, VRel G (ρ x) (ρ' x)) →
      ∃ v', (execOp ρ' o).run P w = .ok (.value v') w ∧ VRel g v v' := by
  cases ho : o.op with
  | load t a =>
    unfold Jal at h; rw [ho] at h
    obtain ⟨v, hv, rfl⟩ := Jqj h
    refine ⟨v, rfl, fun g G ρ' w hr hG hρ => ?_⟩
    have ha := hρ a (by simp [Op.operands])
    have hb : VRel g (ρ a) (ρ' a) := by
      have hv2 := hv
      unfold Jh1 at hv2
      split at hv2
      · rename_i A o2 he
        rw [he] at ha ⊢
        refine ha.back fun x hx => hG A x hx ?_
        split at hv2
        · split at hv2
          · rename_i l hl; exact Jlc hl
          · cases hv2
        · split at hv2
          · rename_i l hl; exact Jlc hl
          · cases hv2
        · cases hv2
      · cases hv2
    obtain ⟨v', e, hv'⟩ := Jnp (P := P) hv hr hb
    exact ⟨v', by simp only [execOp, ho, Sem.run_bind, e, Result.andThen_ok, Sem.run_pure], hv'⟩
  | convert src dst x =>
    rw [ho] at hcl
    have hk : (∃ e, P.underlying src = some (.slice e)) ∧ P.underlying dst = some .string := by
      unfold Jac Jj7 at hcl
      simp only at hcl
      split at hcl
      · split at hcl
        · split at hcl <;> cases hcl
        · cases hcl
      · rename_i e h1
        split at hcl
        · rename_i h2; exact ⟨⟨e, h1⟩, h2⟩
        · cases hcl
      · cases hcl
    obtain ⟨⟨e, h1⟩, h2⟩ := hk
    unfold Jal at h; rw [ho] at h
    simp only at h
    split at h
    · rename_i r2 hr2
      cases h
      obtain ⟨r3, rfl, hr3, hu8, a, l, c, hx⟩ := Kcv h1 h2 hr2
      refine ⟨_, rfl, fun g G ρ' w hr hG hρ => ?_⟩
      have ha := hρ x (by simp [Op.operands])
      have hrun : ∀ v', (Conv.bytesToString (ρ' x)).run P w = .ok v' w → (execOp ρ' o).run P w = .ok (.value v') w := by
        intro v' e1
        rw [hx] at ha
        obtain ⟨y, hy⟩ : ∃ y, y = ρ' x := ⟨_, rfl⟩
        rw [← hy] at ha e1
        cases ha <;> simp [execOp, ho, ← hy, convert, rU w h1, rU w h2, rU w hu8, e1]
      by_cases hl : l = 0 ∨ a = none
      · have hs : r3 = .string ⟨#[]⟩ ∧ ∃ v', (Conv.bytesToString (ρ' x)).run P w = .ok v' w ∧ v' = .string ⟨#[]⟩ := by
          rw [hx] at ha hr3
          obtain ⟨y, hy⟩ : ∃ y, y = ρ' x := ⟨_, rfl⟩
          rw [← hy] at ha ⊢
          unfold Jbi at hr3
          split at hr3
          · rename_i heq
            cases heq
            cases hr3
            cases ha
            exact ⟨rfl, .string ⟨#[]⟩, by simp [Conv.bytesToString]; rfl, rfl⟩
          · rename_i A o2 l2 c2 heq
            cases heq
            cases ha; rename_i x2 o' c3 q1 q2 q3 q4 q5
            have hl0 : l = 0 := by rcases hl with hl | hl; exact hl; cases hl
            subst hl0
            rw [if_pos rfl] at hr3
            cases hr3
            have := run_bytesToString (P := P) w ⟨x2.block, o', none⟩ 0 c3 [] (by simp [loadCells, loadCellsFrom])
            exact ⟨rfl, _, this, rfl⟩
          · cases hr3
        obtain ⟨rfl, v', e1, rfl⟩ := hs
        exact ⟨_, hrun _ e1, .string _⟩
      · have hb : VRel g (ρ x) (ρ' x) := by
          rw [hx] at ha hr3 ⊢
          unfold Jbi at hr3
          split at hr3
          · rename_i heq; cases heq; exact (hl (.inr rfl)).elim
          · rename_i A o2 l2 c2 heq
            cases heq
            rw [if_neg (fun e => hl (.inl e))] at hr3
            refine ha.backS fun x2 hx2 => hG A x2 hx2 ?_
            split at hr3
            · rename_i l3 hl3; exact Jlc hl3
            · cases hr3
          · cases hr3
        obtain ⟨v', e1, e2⟩ := Jh2 (P := P) hr3 hr hb
        exact ⟨v', hrun _ e1, e2⟩
    · obtain ⟨v, k1, k2, k3⟩ := Jcr h
      refine ⟨v, k1, fun g G ρ' w hr hG hρ => ?_⟩
      exact k3 g ρ' w fun y hy => by
        have hf := Jkm h y hy
        have := Je5 hf (hρ y (by rw [ho] at hy; exact hy))
        rw [this]; exact Jb4 hf
  | makeFunc fn a b => rw [ho] at hcl; cases fn <;> simp [Jac] at hcl
  | call c =>
    rw [ho] at hcl
    unfold Jac at hcl
    simp only at hcl
    repeat (split at hcl)
    all_goals cases hcl
  | _ => rw [ho] at hcl; simp [Jac] at hcl
theorem Rel.more {g : Gam} {σ : St} {w : World} (h : Rel g σ w) {w1 : World} (hw : w1.heap = w.heap) (ob : Obj) : Rel g σ (newW w1 ob) := by
  have hold : ∀ b, b < w.heap.size → (newW w1 ob).heap[b]? = w.heap[b]? := fun b hb => by rw [Jfz w1 ob b (by rw [hw]; exact hb), hw]
  refine ⟨h.wf, fun A x a => by rw [Jgk, hw]; exact Nat.lt_succ_of_lt (h.blk A x a), fun A x a => ?_, h.share, h.order, h.tab.step (fun b hb _ => hold b hb) fun A y h => .inr ⟨A, y, h, rfl⟩⟩
  obtain ⟨o, b, c⟩ := h.obj A x a
  exact ⟨o, b, Jg3.mono (Gam.le_refl g) (hold _ (h.blk A x a)) (fun _ _ _ _ _ h => h) c⟩
theorem Ext.more (N : Nat → Prop) (g : Gam) (σ : St) {w w1 : World} (hw : w1.heap = w.heap) (h1 : w1.os = w.os) (h2 : w1.output = w.output) (h3 : w1.tape = w.tape) (ob : Obj) : Ext N g g σ σ w (newW w1 ob) :=
  ⟨Gam.le_refl g, fun A x h h' => (by rw [h] at h'; cases h'), fun A x h h' => (by rw [h] at h'; cases h'), by rw [Jgk, hw]; omega, fun b hb _ => by rw [Jfz w1 ob b (by rw [hw]; exact hb), hw], fun _ _ _ => rfl, fun _ h => ⟨rfl, h⟩, Nat.le_refl _, h1, h2, h3⟩
theorem Rel.install {g : Gam} {σ : St} {w : World} (h : Rel g σ w) {id b n : Nat} {ao : AObj} {ob : Obj} (hid : σ.get id = none) (hlt : id < σ.next) (hb : w.heap[b]? = some ob) (hfree : ∀ A x, g A = some x → x.block ≠ b) (hnt : ∀ x ∈ tabW, b ≠ x.1)
    (hf : ∀ own v F c, ao = .cells own v F c → F = id) (hs : Jfw g n ao ob) : Rel (g.add id ⟨b, 0, n⟩) (σ.set id ao) w := by
  have gid : g id = none := by
    cases e : g id with
    | none => rfl
    | some x => obtain ⟨o, ho, _⟩ := h.obj id x e; rw [hid] at ho; cases ho
  have hle := Gam.le_add (x := ⟨b, 0, n⟩) gid
  have old : ∀ A x, (g.add id ⟨b, 0, n⟩) A = some x → A ≠ id → g A = some x := fun A x e hA => by simpa [Gam.add, hA] using e
  refine ⟨h.wf.new hid hlt ao hf, ?_, ?_, ?_, ?_, fun x hx => ⟨(h.tab x hx).1, fun A y e => by
    by_cases hA : A = id
    · subst hA; rw [Gam.add_self] at e; cases e; exact hnt x hx
    · exact (h.tab x hx).2 A y (old A y e hA)⟩⟩
  · intro A x e
    by_cases hA : A = id
    · subst hA; rw [Gam.add_self] at e; cases e; exact (Array.getElem?_eq_some_iff.1 hb).1
    · exact h.blk A x (old A x e hA)
  · intro A x e
    by_cases hA : A = id
    · subst hA; rw [Gam.add_self] at e; cases e
      exact ⟨ao, by simp, (hs.mono hle).says _ hb⟩
    · obtain ⟨p, hp, hq⟩ := h.obj A x (old A x e hA)
      refine ⟨p, by simp only [St.get_set]; rw [if_neg (fun e => hA e.symm)]; exact hp, Jg3.mono hle rfl ?_ hq⟩
      intro own ver fam c _ hr
      rwa [St.rd_new h.wf hid] at hr
  · intro A x A' x' e e' eb
    by_cases hA : A = id
    · by_cases hA' : A' = id
      · exact .inl (hA.trans hA'.symm)
      · subst hA; rw [Gam.add_self] at e; cases e
        exact (hfree A' x' (old A' x' e' hA') eb.symm).elim
    · by_cases hA' : A' = id
      · subst hA'; rw [Gam.add_self] at e'; cases e'
        exact (hfree A x (old A x e hA) eb).elim
      · rcases h.share A x A' x' (old A x e hA) (old A' x' e' hA') eb with h1 | ⟨F, h1, h2⟩
        · exact .inl h1
        · refine .inr ⟨F, ?_, ?_⟩
          · unfold St.fam; simp only [St.get_set]; rw [if_neg (fun e => hA e.symm)]; exact h1
          · unfold St.fam; simp only [St.get_set]; rw [if_neg (fun e => hA' e.symm)]; exact h2
  · intro X x O y F v c own c' eX eO eb hne hfo hX hO
    have hOn : O ≠ id := fun e => by
      subst e
      simp only [St.famO_set] at hfo
      obtain ⟨_, _, _, hh⟩ := h.wf.named F O hfo
      rw [hid] at hh; cases hh
    have hXn : X ≠ id := fun e => by
      subst e
      rw [Gam.add_self] at eX; cases eX
      exact (hfree O y (old O y eO hOn) eb.symm).elim
    simp only [St.get_set, St.famO_set] at hX hO hfo
    rw [if_neg (fun e => hXn e.symm)] at hX
    rw [if_neg (fun e => hOn e.symm)] at hO
    exact h.order X x O y F v c own c' (old X x eX hXn) (old O y eO hOn) eb hne hfo hX hO
end Go.Ev
