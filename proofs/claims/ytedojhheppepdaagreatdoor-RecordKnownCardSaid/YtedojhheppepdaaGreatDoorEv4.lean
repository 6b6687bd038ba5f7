/-
  The evaluator's operations, over any program, first part: what looks at no memory. Each abstract operation, and that the model's own does as it says. No condition.
-/
import Derived.Test.YtedojhheppepdaaGreatDoorEv3
namespace Go.Ev
open Go
set_option linter.unusedVariables false
set_option linter.unusedSimpArgs false

/-! ## Computations that look at the program alone -/
def pureRun {α : Type} (P : Program) : Sem α → Option α
  | .pure a => some a
  | .program k => pureRun P (k P)
  | .mark _ k => pureRun P k
  | _ => none
theorem pureRun_run {α : Type} {P : Program} {m : Sem α} {a : α} (h : pureRun P m = some a) (w : World) : m.run P w = .ok a w := by
  induction m with
  | pure b => simp only [pureRun] at h; cases h; rfl
  | program k ih => simp only [pureRun] at h; simp only [Sem.run]; exact ih _ h
  | mark m k ih => simp only [pureRun] at h; simp only [Sem.run]; exact ih h
  | _ => simp [pureRun] at h

section runs
variable {P : Program} (w : World)
theorem rU {t : TypeId} {d : TypeDesc} (h : P.underlying t = some d) : (underlying t).run P w = .ok d w := run_underlying h w
theorem rT {t : TypeId} {i : TypeInfo} (h : P.info? t = some i) : (typeInfo t).run P w = .ok i w := by simp [typeInfo, h]
theorem rS {t : TypeId} {n : Nat} (h : (P.info? t).map (·.size) = some n) : (sizeOf t).run P w = .ok n w := by
  cases e : P.info? t with
  | none => rw [e] at h; cases h
  | some i => rw [e] at h; cases h; simp [sizeOf, rT w e]
theorem rZ {t : TypeId} {z : Value} (h : (P.info? t).bind (·.zero) = some z) : (zeroValue t).run P w = .ok z w := by
  cases e : P.info? t with
  | none => rw [e] at h; cases h
  | some i => rw [e] at h; simp only [Option.bind_some] at h; simp [zeroValue, rT w e, h]
end runs
def sz? (P : Program) (t : TypeId) : Option Nat := (P.info? t).map (·.size)
def byt (P : Program) (t : TypeId) : Option Nat := (P.info? t).map (·.bytes)
/-- A type's zero value, if it names no block. -/
def zero? (P : Program) (t : TypeId) : Option Value := match (P.info? t).bind (·.zero) with
  | some z => if flatV z then some z else none
  | none => none
theorem zero?_spec {P : Program} {t : TypeId} {z : Value} (h : zero? P t = some z) : (P.info? t).bind (·.zero) = some z ∧ flatV z = true := by
  unfold zero? at h
  split at h
  · split at h
    · cases h; exact ⟨by assumption, by assumption⟩
    · cases h
  · cases h

/-! ## What an operation comes to -/
inductive ARes where
  | val (v : Value) (σ : St)
  | enter (f : FuncId) (args : Array Value)

/-- The model's operation does what the abstract one says. -/
def OpOk (P : Program) (g : Gam) (σ : St) (w : World) (N : Nat → Prop) (s : Sem Next) : ARes → Prop
  | .val v σ' => ∃ n w' g' v', s.run P w = .ok n w' ∧ (n = .value v' ∨ n = .skip ∧ v' = undef) ∧ VRel g' v v' ∧ Rel g' σ' w' ∧ Ext N g g' σ σ' w w'
  | .enter f args => ∃ args', s.run P w = .ok (.enter f args') w ∧ ARel g args args'

section
variable {P : Program} {g : Gam} {σ : St} {w : World} {N : Nat → Prop} {s : Sem Next}
theorem OpOk.val0 {v v' : Value} (hr : Rel g σ w) (h : s.run P w = .ok (.value v') w) (hv : VRel g v v') : OpOk P g σ w N s (.val v σ) :=
  ⟨_, w, g, v', h, .inl rfl, hv, hr, Ext.refl N g σ w⟩
end

theorem VRel.cells {g : Gam} {v v' : Value} (h : VRel g v v') : ARel g v.cells v'.cells := by
  have one : ∀ {a b : Value}, VRel g a b → ARel g #[a] #[b] := fun h => ⟨rfl, fun i h1 h2 => by
    have : i = 0 := by simp at h1; omega
    subst this; exact h⟩
  cases h with
  | agg a b h1 h2 => exact ⟨h1, h2⟩
  | bool b => exact one (.bool b)
  | int k n => exact one (.int k n)
  | float k b => exact one (.float k b)
  | complex k a b => exact one (.complex k a b)
  | string s => exact one (.string s)
  | nilPtr => exact one .nilPtr
  | ptr A o x h => exact one (.ptr A o x h)
  | nilSlice => exact one .nilSlice
  | slice A o len k x o' c h hl ho h0 hk => exact one (.slice A o len k x o' c h hl ho h0 hk)
  | nilMap => exact one .nilMap
  | map A x h => exact one (.map A x h)
  | nilFunc => exact one .nilFunc
  | func fn a b c d h1 h2 h3 h4 => exact one (.func fn a b c d h1 h2 h3 h4)
  | iface t v v' h => exact one (.iface t v v' h)
  | nilIface => exact one .nilIface
  | tuple a b h1 h2 => exact one (.tuple a b h1 h2)

theorem ARel.list {g : Gam} {a b : Array Value} (h : ARel g a b) : a.toList.length = b.toList.length ∧ ∀ i (h : i < a.toList.length) (h' : i < b.toList.length), VRel g a.toList[i] b.toList[i] :=
  ⟨by simpa using h.1, fun i h1 h2 => by simpa using h.2 i (by simpa using h1) (by simpa using h2)⟩

/-! ## Operations whose operands name no block -/
def flatOps (ρ : Operand → Value) (o : Op) : Bool := o.operands.toList.all fun x => flatV (ρ x)
def isSelect : Op → Bool
  | .select .. => true
  | _ => false
def evalFlat (P : Program) (ρ : Operand → Value) (o : Oper) (σ : St) : Option ARes :=
  if flatOps ρ o.op && !isSelect o.op then
    match pureRun P (execOp ρ o) with
    | some (.value v) => if flatV v then some (.val v σ) else none
    | _ => none
  else none

theorem evalFlat_ok {P : Program} {ρ ρ' : Operand → Value} {o : Oper} {σ : St} {g : Gam} {w : World} {N : Nat → Prop} {r : ARes} (h : evalFlat P ρ o σ = some r) (hr : Rel g σ w)
    (hρ : ∀ x ∈ o.op.operands, VRel g (ρ x) (ρ' x)) : OpOk P g σ w N (execOp ρ' o) r := by
  unfold evalFlat at h
  split at h
  · rename_i hc
    simp only [Bool.and_eq_true, flatOps, List.all_eq_true] at hc
    have e : execOp ρ' o = execOp ρ o := execOp_congr o (fun cs b e => by rw [e] at hc; simp [isSelect] at hc) fun x hx => flatV_eq (hc.1 x (by simpa using hx)) (hρ x hx)
    split at h
    · rename_i v hv
      split at h
      · rename_i hf
        cases h
        exact .val0 hr (by rw [e]; exact pureRun_run hv w) (flatV_rel hf)
      · cases h
    · cases h
  · cases h

/-! ## Places -/
def fieldOf (P : Program) (s : TypeId) (f : Nat) : Option Nat :=
  match P.underlying s with
  | some (.struct fields) => match fields[f]? with
    | some fl => match sz? P fl.type with
      | some (_ + 1) => some fl.offset
      | _ => none
    | none => none
  | _ => none
def opFieldAddr (P : Program) (s : TypeId) (f : Nat) : Value → Option Value
  | .pointer (some ⟨A, o, none⟩) => match fieldOf P s f with
    | some off => some (.pointer (some ⟨A, o + off, none⟩))
    | none => none
  | _ => none
theorem opFieldAddr_ok {P : Program} {s : TypeId} {f : Nat} {v v' r : Value} {g : Gam} (w : World) (h : opFieldAddr P s f v = some r) (hv : VRel g v v') :
    ∃ r', (Instr.fieldAt s v' f).run P w = .ok r' w ∧ VRel g r r' := by
  unfold opFieldAddr at h
  split at h
  · cases hv; rename_i A o x hx
    split at h
    · rename_i off hoff
      cases h
      unfold fieldOf at hoff
      split at hoff
      · rename_i fields hu
        split at hoff
        · rename_i fl hfl
          split at hoff
          · rename_i n hn
            cases hoff
            refine ⟨.pointer (some ⟨x.block, x.base + (o + fl.offset), none⟩), ?_, .ptr _ _ _ hx⟩
            simp [Instr.fieldAt, rU w hu, hfl, Instr.sureAddr, fieldPlace, rS w hn, add_off, Nat.add_assoc]
          · cases hoff
        · cases hoff
      · cases hoff
    · cases h
  · cases h

def opIndexAddr (P : Program) (t : TypeId) (x ix : Value) : Option Value :=
  match ix with
  | .int _ (.ofNat i) => match P.underlying t with
    | some (.slice elem) => match x with
      | .slice (some ⟨A, o, none⟩) len _ => if i < len then match sz? P elem with
          | some n => some (.pointer (some ⟨A, o + i * n, none⟩))
          | none => none
        else none
      | _ => none
    | some (.array len elem) => match x with
      | .pointer (some ⟨A, o, none⟩) => if i < len then match sz? P elem with
          | some n => some (.pointer (some ⟨A, o + i * n, none⟩))
          | none => none
        else none
      | _ => none
    | _ => none
  | _ => none
theorem opIndexAddr_ok {P : Program} {t : TypeId} {x x' ix ix' r : Value} {g : Gam} (w : World) (h : opIndexAddr P t x ix = some r) (hx : VRel g x x') (hi : VRel g ix ix') :
    ∃ r', (Instr.indexAt t x' ix').run P w = .ok r' w ∧ VRel g r r' := by
  unfold opIndexAddr at h
  split at h
  · rename_i k i
    cases hi
    split at h
    · rename_i elem hu
      split at h
      · rename_i A o len cap
        cases hx; rename_i y o' c hy ho hl h0 hk
        split at h
        · rename_i hlt
          split at h
          · rename_i n hn
            cases h
            have ho := ho (by omega)
            subst ho
            refine ⟨_, ?_, .ptr A (o + i * n) y hy⟩
            have h1 : (0 : Int) ≤ Int.ofNat i ∧ Int.ofNat i < (len : Int) := ⟨Int.natCast_nonneg i, by simpa using hlt⟩
            simp [Instr.indexAt, asIntOf, rU w hu, rS w hn, add_off, Nat.add_assoc, hlt]
          · cases h
        · cases h
      · cases h
    · rename_i len elem hu
      split at h
      · rename_i A o
        cases hx; rename_i y hy
        split at h
        · rename_i hlt
          split at h
          · rename_i n hn
            cases h
            refine ⟨_, ?_, .ptr A (o + i * n) y hy⟩
            simp [Instr.indexAt, asIntOf, rU w hu, rS w hn, add_off, Nat.add_assoc, hlt, Instr.sureAddr]
          · cases h
        · cases h
      · cases h
    · cases h
  · cases h

/-! ## Parts of values -/
def opPart (P : Program) (t : TypeId) (cs : Array Value) (off : Nat) : Option Value :=
  match P.underlying t with
  | some (.struct _) | some (.array _ _) => match sz? P t with
    | some n => some (.agg (cs.extract off (off + n)))
    | none => none
  | some _ => cs[off]?
  | none => none
theorem opPart_ok {P : Program} {t : TypeId} {cs cs' : Array Value} {off : Nat} {r : Value} {g : Gam} (w : World) (h : opPart P t cs off = some r) (hc : ARel g cs cs') :
    ∃ r', (part t cs' off).run P w = .ok r' w ∧ VRel g r r' := by
  have agg : ∀ {d : TypeDesc} (_ : P.underlying t = some d) (_ : (match d with | .struct _ | .array _ _ => true | _ => false) = true) {n : Nat} (_ : sz? P t = some n), r = .agg (cs.extract off (off + n)) →
      ∃ r', (part t cs' off).run P w = .ok r' w ∧ VRel g r r' := by
    intro d hu hd n hn e
    subst e
    refine ⟨.agg (cs'.extract off (off + n)), ?_, .agg _ _ (by simp [hc.1]) fun i h1 h2 => ?_⟩
    · have : (isAgg t).run P w = .ok true w := by
        unfold isAgg
        simp only [Sem.run_bind, rU w hu, Result.andThen_ok]
        cases d <;> first | (cases hd; done) | rfl
      simp [part, this, rS w hn]
    · simp only [Array.getElem_extract]
      exact hc.2 _ _ _
  unfold opPart at h
  split at h
  · rename_i hu
    split at h
    · rename_i n hn; exact agg hu rfl hn (Option.some.inj h).symm
    · cases h
  · rename_i hu
    split at h
    · rename_i n hn; exact agg hu rfl hn (Option.some.inj h).symm
    · cases h
  · rename_i d h1 h3 hu
    have h2 := h
    have hoff : off < cs.size := (Array.getElem?_eq_some_iff.1 h2).1
    have hr : r = cs[off] := by rw [Array.getElem?_eq_getElem hoff] at h2; exact (Option.some.inj h2).symm
    subst hr
    refine ⟨cs'[off]'(by rw [← hc.1]; exact hoff), ?_, hc.2 _ _ _⟩
    have : (isAgg t).run P w = .ok false w := by
      unfold isAgg
      simp only [Sem.run_bind, rU w hu, Result.andThen_ok]
      cases d <;> first | rfl | (rename_i q; exact (h1 q rfl).elim) | (rename_i q q2; exact (h3 q q2 rfl).elim)
    simp [part, this, show off < cs'.size by rw [← hc.1]; exact hoff]
  · cases h

def opField (P : Program) (t : TypeId) (f : Nat) : Value → Option Value
  | .agg cs => match P.underlying t with
    | some (.struct fields) => match fields[f]? with
      | some fl => opPart P fl.type cs fl.offset
      | none => none
    | _ => none
  | _ => none
theorem opField_ok {P : Program} {t : TypeId} {f : Nat} {v v' r : Value} {g : Gam} (w : World) (h : opField P t f v = some r) (hv : VRel g v v') :
    ∃ r', (Instr.field t v' f).run P w = .ok r' w ∧ VRel g r r' := by
  unfold opField at h
  split at h
  · cases hv; rename_i cs b h1 h2
    split at h
    · rename_i fields hu
      split at h
      · rename_i fl hfl
        obtain ⟨r', a, b'⟩ := opPart_ok w h ⟨h1, h2⟩
        exact ⟨r', by simp [Instr.field, rU w hu, hfl, asAgg, a], b'⟩
      · cases h
    · cases h
  · cases h

def opIndexArr (P : Program) (t : TypeId) (x ix : Value) : Option Value :=
  match ix, x with
  | .int _ (.ofNat i), .agg cs => match P.underlying t with
    | some (.array len elem) => if i < len then match sz? P elem with
        | some n => opPart P elem cs (i * n)
        | none => none
      else none
    | _ => none
  | _, _ => none
theorem opIndexArr_ok {P : Program} {t : TypeId} {x x' ix ix' r : Value} {g : Gam} (w : World) (h : opIndexArr P t x ix = some r) (hx : VRel g x x') (hi : VRel g ix ix') :
    ∃ r', (Instr.index t x' ix').run P w = .ok r' w ∧ VRel g r r' := by
  unfold opIndexArr at h
  split at h
  · rename_i k i cs
    cases hi
    cases hx; rename_i b h1 h2
    split at h
    · rename_i len elem hu
      split at h
      · rename_i hlt
        split at h
        · rename_i n hn
          obtain ⟨r', p, q⟩ := opPart_ok w h ⟨h1, h2⟩
          exact ⟨r', by simp [Instr.index, asIntOf, rU w hu, rS w hn, hlt, p], q⟩
        · cases h
      · cases h
    · cases h
  · cases h

def opExtract (ix : Nat) : Value → Option Value
  | .tuple vs => vs[ix]?
  | _ => none
theorem opExtract_ok {P : Program} {ix : Nat} {v v' r : Value} {g : Gam} (w : World) (h : opExtract ix v = some r) (hv : VRel g v v') :
    ∃ r', (Instr.extract v' ix).run P w = .ok r' w ∧ VRel g r r' := by
  unfold opExtract at h
  split at h
  · cases hv; rename_i cs b h1 h2
    have hoff : ix < cs.size := (Array.getElem?_eq_some_iff.1 h).1
    have hr : r = cs[ix] := by rw [Array.getElem?_eq_getElem hoff] at h; exact (Option.some.inj h).symm
    subst hr
    have h3 : ix < b.size := by omega
    exact ⟨b[ix], by simp [Instr.extract, h3], h2 _ _ _⟩
  · cases h

/-! ## Slicing -/
/-- A bound; none stands for the default. -/
def bnd (d : Nat) : Option Value → Option Nat
  | none => some d
  | some (.int _ (.ofNat n)) => some n
  | _ => none
/-- l, h and the new capacity's word, of a slice of 'len' elements with the word 'k'; no bound lies behind 'len'. -/
def opSlice (P : Program) (t : TypeId) (x : Value) (lo hi mx : Option Value) : Option Value :=
  match P.underlying t, x with
  | some (.slice elem), .slice (some ⟨A, o, none⟩) len k => match bnd len hi, bnd 0 lo with
    | some h, some l => match sz? P elem with
      | some n => if l ≤ h ∧ h ≤ len ∧ (k = 0 ∨ k = n + 1) then match mx with
          | none => some (.slice (some ⟨A, o + l * n, none⟩) (h - l) k)
          | some (.int _ (.ofNat m)) => match hi with
            | some _ => if h ≤ m ∧ m ≤ len then some (.slice (some ⟨A, o + l * n, none⟩) (h - l) (if m = l then 0 else k)) else none
            | none => none
          | _ => none
        else none
      | none => none
    | _, _ => none
  | some (.slice elem), .slice none 0 0 => match bnd 0 hi, bnd 0 lo, sz? P elem with
    | some 0, some 0, some _ => match mx with
      | none => some (.slice none 0 0)
      | some (.int _ (.ofNat 0)) => match hi with
        | some _ => some (.slice none 0 0)
        | none => none
      | _ => none
    | _, _, _ => none
  | _, _ => none

theorem sliceBound_ok {P : Program} (w : World) {k : IntKind} {n y : Nat} (h : n ≤ y) (code : BoundsCode) : (Instr.sliceBound (.int k (n : Int)) y code).run P w = .ok n w := by
  have h1 : ((n : Int) ≤ (y : Int)) := by omega
  simp [Instr.sliceBound, asIntOf, h1]
theorem bnd_rel {g : Gam} {d n : Nat} {v v' : Option Value} (h : bnd d v = some n) (hv : ∀ x, v = some x → ∃ x', v' = some x' ∧ VRel g x x') (h0 : v = none → v' = none) :
    (v = none ∧ v' = none ∧ n = d) ∨ ∃ k, v' = some (.int k (.ofNat n)) := by
  unfold bnd at h
  split at h
  · cases h; exact .inl ⟨rfl, h0 rfl, rfl⟩
  · cases h
    obtain ⟨x', e, r⟩ := hv _ rfl
    cases r
    exact .inr ⟨_, e⟩
  · cases h

/-- Two perhaps-values that stand alike. -/
def ORel (g : Gam) : Option Value → Option Value → Prop
  | none, none => True
  | some a, some b => VRel g a b
  | _, _ => False
theorem ORel.int {g : Gam} {k : IntKind} {n : Int} {v : Option Value} (h : ORel g (some (.int k n)) v) : v = some (.int k n) := by
  cases v with
  | none => exact h.elim
  | some x => have h' : VRel g (.int k n) x := h; cases h'; rfl
theorem ORel.nil {g : Gam} {v : Option Value} (h : ORel g none v) : v = none := by
  cases v with
  | none => rfl
  | some x => exact h.elim
theorem ORel.bnd {g : Gam} {d n : Nat} {v v' : Option Value} (h : bnd d v = some n) (r : ORel g v v') : (v = none ∧ v' = none ∧ n = d) ∨ ∃ k, v = some (.int k (.ofNat n)) ∧ v' = some (.int k (.ofNat n)) := by
  unfold Ev.bnd at h
  split at h
  · cases h; exact .inl ⟨rfl, r.nil, rfl⟩
  · cases h; exact .inr ⟨_, rfl, r.int⟩
  · cases h

theorem sliceBounds_ok {P : Program} (w : World) {g : Gam} {isS : Bool} {len cap l h : Nat} {lo hi lo' hi' : Option Value} (hh : bnd len hi = some h) (hl : bnd 0 lo = some l) (rh : ORel g hi hi') (rl : ORel g lo lo')
    (h1 : l ≤ h) (h2 : h ≤ cap) : (Instr.sliceBounds isS len cap lo' hi' none).run P w = .ok (l, h, cap) w := by
  rcases ORel.bnd hh rh with ⟨_, e, rfl⟩ | ⟨k, _, e⟩ <;> rcases ORel.bnd hl rl with ⟨_, e2, rfl⟩ | ⟨k2, _, e2⟩ <;> subst e <;> subst e2 <;>
    simp [Instr.sliceBounds, sliceBound_ok w h1, sliceBound_ok w h2]
theorem sliceBounds3_ok {P : Program} (w : World) {g : Gam} {isS : Bool} {len cap l h m : Nat} {k3 : IntKind} {lo hi lo' hi' : Option Value} (hh : bnd len hi = some h) (hne : hi ≠ none) (hl : bnd 0 lo = some l) (rh : ORel g hi hi') (rl : ORel g lo lo')
    (h1 : l ≤ h) (h2 : h ≤ m) (h3 : m ≤ cap) : (Instr.sliceBounds isS len cap lo' hi' (some (.int k3 (.ofNat m)))).run P w = .ok (l, h, m) w := by
  rcases ORel.bnd hh rh with ⟨e0, e, rfl⟩ | ⟨k, _, e⟩
  · exact (hne e0).elim
  · rcases ORel.bnd hl rl with ⟨_, e2, rfl⟩ | ⟨k2, _, e2⟩ <;> subst e <;> subst e2 <;>
      simp [Instr.sliceBounds, sliceBound_ok w h1, sliceBound_ok w h2, sliceBound_ok w h3]

/-- A slice of a slice, as a value. -/
theorem VRel.sub {g : Gam} {A o len k : Nat} {x : CA} {o' c l h m n k' : Nat} (hx : g A = some x) (hl : len ≤ c) (ho : c ≠ 0 → o' = x.base + o) (h0 : k = 0 → c = 0) (hk : o' + c * (k - 1) ≤ x.size)
    (h1 : l ≤ h) (h2 : h ≤ m) (h3 : m ≤ c) (hkn : k = 0 ∨ k = n + 1) (hk' : k' = 0 ∧ m = l ∨ k' = k) :
    VRel g (.slice (some ⟨A, o + l * n, none⟩) (h - l) k') (.slice (some (if m = l then ⟨x.block, o', none⟩ else (⟨x.block, o', none⟩ : Addr).add (l * n))) (h - l) (m - l)) := by
  have e : (if m = l then (⟨x.block, o', none⟩ : Addr) else (⟨x.block, o', none⟩ : Addr).add (l * n)) = ⟨x.block, if m = l then o' else o' + l * n, none⟩ := by
    split
    · rfl
    · rw [add_off]
  rw [e]
  refine .slice A (o + l * n) (h - l) k' x _ (m - l) hx (by omega) (fun hc => ?_) (fun e => ?_) ?_
  · rw [if_neg (by omega), ho (by omega)]; omega
  · rcases hk' with ⟨_, hm⟩ | rfl
    · omega
    · have := h0 e; omega
  · split
    · subst_vars; simp; omega
    · rename_i hml
      rcases hk' with ⟨_, hm⟩ | rfl
      · exact (hml hm).elim
      · rcases hkn with rfl | rfl
        · have := h0 rfl; omega
        · have e1 : (m - l) * n + l * n ≤ c * n := by rw [← Nat.add_mul]; exact Nat.mul_le_mul_right _ (by omega)
          simp only [Nat.add_sub_cancel] at hk ⊢
          omega

theorem opSlice_ok {P : Program} {t : TypeId} {x x' r : Value} {lo hi mx lo' hi' mx' : Option Value} {g : Gam} (w : World) (h : opSlice P t x lo hi mx = some r) (hx : VRel g x x') (rl : ORel g lo lo') (rh : ORel g hi hi') (rm : ORel g mx mx') :
    ∃ r', (Instr.sliceAt t x' lo' hi' mx').run P w = .ok r' w ∧ VRel g r r' := by
  unfold opSlice at h
  split at h
  · rename_i elem A o len k hu
    cases hx; rename_i y o' c hy ho hl h0 hk
    split at h
    · rename_i hh ll eh el
      split at h
      · rename_i n hn
        split at h
        · rename_i hc
          obtain ⟨c1, c2, c3⟩ := hc
          split at h
          · cases h
            obtain rfl := rm.nil
            refine ⟨_, ?_, VRel.sub hy hl ho h0 hk c1 (by omega : hh ≤ c) (Nat.le_refl c) c3 (.inr rfl)⟩
            have := sliceBounds_ok (P := P) w (isS := true) (cap := c) eh el rh rl c1 (by omega)
            simp [Instr.sliceAt, Instr.slice, rU w hu, this, rS w hn]
            split <;> rfl
          · rename_i k3 m
            split at h
            · rename_i hv
              split at h
              · rename_i hm
                cases h
                obtain rfl := rm.int
                refine ⟨_, ?_, VRel.sub hy hl ho h0 hk c1 hm.1 (by omega : m ≤ c) c3 (by split; exact .inl ⟨rfl, by assumption⟩; exact .inr rfl)⟩
                have := sliceBounds3_ok (P := P) w (isS := true) (cap := c) (k3 := k3) eh (by simp) el rh rl c1 hm.1 (by omega)
                simp only [Int.ofNat_eq_natCast] at this
                simp [Instr.sliceAt, Instr.slice, rU w hu, this, rS w hn]
                split <;> rfl
              · cases h
            · cases h
          · cases h
        · cases h
      · cases h
    · cases h
  · rename_i elem hu
    cases hx
    split at h
    · rename_i n eh el hn
      split at h
      · cases h
        obtain rfl := rm.nil
        have := sliceBounds_ok (P := P) w (isS := true) (cap := 0) eh el rh rl (Nat.le_refl _) (Nat.le_refl _)
        exact ⟨_, by simp [Instr.sliceAt, Instr.slice, rU w hu, this, rS w hn], .nilSlice⟩
      · rename_i k3
        split at h
        · cases h
          obtain rfl := rm.int
          have := sliceBounds3_ok (P := P) w (isS := true) (cap := 0) (k3 := k3) eh (by simp) el rh rl (Nat.le_refl _) (Nat.le_refl _) (Nat.le_refl _)
          have this : (Instr.sliceBounds true 0 0 lo' hi' (some (.int k3 0))).run P w = .ok (0, 0, 0) w := this
          exact ⟨_, by simp [Instr.sliceAt, Instr.slice, rU w hu, this, rS w hn], .nilSlice⟩
        · cases h
      · cases h
    · cases h
  · cases h
end Go.Ev
