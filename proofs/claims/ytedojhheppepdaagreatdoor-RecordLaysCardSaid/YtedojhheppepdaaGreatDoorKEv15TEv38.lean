/-
  The evaluator and the contracts, merged out of 19 texts (Ev15 to Ev38). No condition.
-/
import Derived.Test.YtedojhheppepdaaGreatDoorKEv1TEv14
import Derived.LaidLaws
import Derived.LaidSub
import Derived.Handed
import Derived.Below
import Derived.ProofKit
import Derived.Stop.Joined
import Derived.WalkKit
import Derived.Lib.Repeat
import Derived.RangeFuncLeaves
import Derived.RangeFuncRecord
namespace Go.Ev
open Go
set_option linter.unusedVariables false
set_option linter.unusedSimpArgs false
variable {Ds : List Deferred}
def bit (B : List Nat) (i j : Nat) : Bool := (B.getD i 0).testBit j
def Kba (B : List Nat) (l : List Edge) : Nat := l.foldl (fun s e => if Region.binds .any e then s ||| 2 ^ e.on ||| B.getD e.on 0 else s) 0
theorem Joc (B : List Nat) (j : Nat) : ∀ (l : List Edge) (s : Nat), (l.foldl (fun s e => if Region.binds .any e then s ||| 2 ^ e.on ||| B.getD e.on 0 else s) s).testBit j = true →
    s.testBit j = true ∨ ∃ e ∈ l, Region.binds .any e = true ∧ (e.on = j ∨ bit B e.on j = true)
  | [], s, h => .inl h
  | e :: l, s, h => by
    rw [List.foldl_cons] at h
    rcases Joc B j l _ h with h1 | ⟨e', h1, h2⟩
    · split at h1
      · rename_i hb
        rw [Nat.testBit_or, Nat.testBit_or, Nat.testBit_two_pow] at h1
        simp only [Bool.or_eq_true, decide_eq_true_eq] at h1
        rcases h1 with (h1 | h1) | h1
        · exact .inl h1
        · exact .inr ⟨e, List.mem_cons_self, hb, .inl h1⟩
        · exact .inr ⟨e, List.mem_cons_self, hb, .inr h1⟩
      · exact .inl h1
    · exact .inr ⟨e', List.mem_cons_of_mem _ h1, h2⟩
structure Jc3 (P : Program) (ops : Array Oper) (B : List Nat) : Prop where
  edge : ∀ i o, ops[i]? = some o → ∀ e ∈ o.after, Region.binds .any e = true → e.on < i
  ex : ∀ i o j, ops[i]? = some o → bit B i j = true → ∃ e ∈ o.after, Region.binds .any e = true ∧ (e.on = j ∨ bit B e.on j = true)
  out : ∀ i j, ops.size ≤ i → bit B i j = false
  tr : ∀ i j k, bit B i j = true → bit B j k = true → bit B i k = true
  reads : ∀ i o k ok d, ops[i]? = some o → ops[k]? = some ok → k ≠ i → ok.dst = some d → d ∈ o.looksAt ops → bit B i k = true ∨ bit B k i = true
  writes : ∀ i o k ok d, ops[i]? = some o → ops[k]? = some ok → k ≠ i → ok.dst = some d → o.dst = some d → bit B i k = true ∨ bit B k i = true
  louds : ∀ i o k ok, ops[i]? = some o → ops[k]? = some ok → k ≠ i → Jac P o.op = .loud → Jac P ok.op = .loud → bit B i k = true ∨ bit B k i = true
theorem Jc3.lt {P : Program} {ops : Array Oper} {B : List Nat} (h : Jc3 P ops B) : ∀ (i j : Nat), bit B i j = true → j < i := by
  intro i
  induction i using Nat.strongRecOn with
  | _ i ih =>
    intro j hb
    have hi : i < ops.size := by
      rcases Nat.lt_or_ge i ops.size with k | k
      · exact k
      · rw [h.out i j k] at hb; cases hb
    have ho : ops[i]? = some ops[i] := Array.getElem?_eq_getElem hi
    obtain ⟨e, he, hbd, h1⟩ := h.ex i _ j ho hb
    have hlt := h.edge i _ ho e he hbd
    rcases h1 with rfl | h1
    · exact hlt
    · exact Nat.lt_trans (ih e.on hlt j h1) hlt
theorem Jc3.down {P : Program} {ops : Array Oper} {B : List Nat} (h : Jc3 P ops B) {D : Nat → Bool} (hD : ∀ i o, D i = true → ops[i]? = some o → ∀ e ∈ o.after, Region.binds .any e = true → D e.on = true) :
    ∀ (i : Nat) (o : Oper), ops[i]? = some o → (∀ e ∈ o.after, Region.binds .any e = true → D e.on = true) → ∀ j, bit B i j = true → D j = true := by
  intro i
  induction i using Nat.strongRecOn with
  | _ i ih =>
    intro o ho hall j hb
    obtain ⟨e, he, hbd, h1⟩ := h.ex i o j ho hb
    have hlt := h.edge i o ho e he hbd
    have hDe := hall e he hbd
    rcases h1 with rfl | h1
    · exact hDe
    · have hi : i < ops.size := (Array.getElem?_eq_some_iff.1 ho).1
      have ho2 : ops[e.on]? = some (ops[e.on]'(by omega)) := Array.getElem?_eq_getElem (by omega)
      exact ih e.on hlt _ ho2 (hD e.on _ hDe ho2) j h1
def Jqi (P : Program) (gl : List Nat) (ρ : Operand → Value) (id : Nat) (o : Oper) (σ : St) (v : Value) (σ' : St) : Prop :=
  Jal P ρ id o σ = some (.val v σ') ∨ (∃ f args, Jal P ρ id o σ = some (.enter f args) ∧ SimF P gl f args σ v σ') ∨
  (σ' = σ ∧ ∀ (g : Gam) (ρ' : Operand → Value) (w : World), (∀ x ∈ o.op.operands, VRel g (ρ x) (ρ' x)) → ∃ v', (execOp ρ' o).run P w = .ok (.value v') w ∧ VRel g v v') ∨
  (Jac P o.op = .loud ∧ (σ.Wf → Jal P ρ id o σ = some (.val v σ')))
theorem Jqi.wp {P : Program} {gl : List Nat} {ρ : Operand → Value} {id : Nat} {o : Oper} {σ σ' : St} {v : Value} (h : Jqi P gl ρ id o σ v σ')
    {g : Gam} {w : World} {a : Act} (hg : Glob gl g) (hr : Rel g σ w) (hid : σ.get id = none) (hlt : id < σ.next) (hρ : ∀ x ∈ o.op.operands, VRel g (ρ x) (a.eval x))
    {K : Act → World → Prop} {Q : Exit → Act → World → Prop} (k : ∀ v' w' g', VRel g' v v' → Rel g' σ' w' → Ext (fun A => A = id ∨ σ.next ≤ A) g g' σ σ' w w' → K (a.put o.dst v') w') : o.wp P a w K Q := by
  unfold Oper.wp
  rcases h with he | ⟨f, args, he, hc⟩ | ⟨rfl, hx⟩ | ⟨_, he⟩
  · obtain ⟨n, w', g', v', e, hn, hv, hr', hx⟩ := Jip he hr hid hlt hρ
    rw [e]
    have := k v' w' g' hv hr' (hx.mono fun _ h => .inl h)
    rcases hn with rfl | ⟨rfl, rfl⟩
    · exact this
    · exact this
  · obtain ⟨args', e, ha⟩ := Jip he hr hid hlt hρ
    rw [e]
    refine (hc g w args' hg hr ha).mono ?_
    rintro e w' ⟨v', g', rfl, hv, hr', hx⟩
    exact k v' w' g' hv hr' (hx.mono fun _ h => .inr h)
  · obtain ⟨v', e, hv⟩ := hx g a.eval w hρ
    rw [e]
    exact k v' w g hv hr (Ext.refl _ _ _ _)
  · obtain ⟨n, w', g', v', e, hn, hv, hr', hx⟩ := Jip (he hr.wf) hr hid hlt hρ
    rw [e]
    have := k v' w' g' hv hr' (hx.mono fun _ h => .inl h)
    rcases hn with rfl | ⟨rfl, rfl⟩
    · exact this
    · exact this
def Kdu (P : Program) (ρ : Operand → Value) (o : Oper) (v : Value) : Prop :=
  ∀ (g : Gam) (ρ' : Operand → Value) (w : World), (∀ x ∈ o.op.operands, VRel g (ρ x) (ρ' x)) → ∃ v', (execOp ρ' o).run P w = .ok (.value v') w ∧ VRel g v v'
theorem Kdu.congr {P : Program} {ρ ρ2 : Operand → Value} {o : Oper} {v : Value} (h : Kdu P ρ o v) (he : ∀ x ∈ o.op.operands, ρ x = ρ2 x) : Kdu P ρ2 o v :=
  fun g ρ' w hr => h g ρ' w fun x hx => by rw [he x hx]; exact hr x hx
def Jrn (P : Program) (ρ : Operand → Value) (o : Oper) (id : Nat) (v : Value) (ao : AObj) : Prop :=
  (∀ own ver F c, ao = .cells own ver F c → F = id) ∧
  ∀ (g : Gam) (ρ' : Operand → Value) (w : World), (∀ x ∈ o.op.operands, VRel g (ρ x) (ρ' x)) → ∃ (ob : Obj) (n : Nat) (v' : Value) (w1 : World), w1.heap = w.heap ∧ w1.os = w.os ∧ w1.output = w.output ∧ w1.tape = w.tape ∧
    (execOp ρ' o).run P w = .ok (.value v') (newW w1 ob) ∧ (∀ g' : Gam, Gam.le g g' → g' id = some ⟨w.heap.size, 0, n⟩ → VRel g' v v') ∧ Jfw g n ao ob
theorem Jrn.congr {P : Program} {ρ ρ2 : Operand → Value} {o : Oper} {id : Nat} {v : Value} {ao : AObj} (h : Jrn P ρ o id v ao) (he : ∀ x ∈ o.op.operands, ρ x = ρ2 x) : Jrn P ρ2 o id v ao :=
  ⟨h.1, fun g ρ' w hr => h.2 g ρ' w fun x hx => by rw [he x hx]; exact hr x hx⟩
def gone (lo : Nat → Bool) (B : List Nat) (p k : Nat) : Bool := (List.range p).any fun j => lo j && bit B j k
def Jc0 (lo al : Nat → Bool) (B : List Nat) (j : Nat) : List Nat := (List.range j).filter fun k => al k && bit B j k && !gone lo B j k
def Jde (lo al : Nat → Bool) (B : List Nat) (p : Nat) : List Nat := (List.range p).filter fun k => al k && !gone lo B p k
def Jdo (base : Nat) (ao : Nat → AObj) (l : List Nat) (τ : St) : St := l.foldl (fun τ k => τ.set (base + k) (ao k)) τ
structure Trc (P : Program) (gl : List Nat) (ops : Array Oper) (base : Nat) (B : List Nat) (e : Nat → Env) (τ : Nat → St) (val : Nat → Value) (ao : Nat → AObj) (lo al : Nat → Bool) : Prop where
  env : ∀ i o, ops[i]? = some o → e (i + 1) = Jcw (e i) o.dst (val i)
  step : ∀ i o, ops[i]? = some o →
    (Jbg ops (e i) o = false ∧ val i = undef ∧ lo i = false ∧ al i = false ∧ τ (i + 1) = τ i) ∨
    (Jbg ops (e i) o = true ∧ lo i = false ∧ al i = false ∧ τ (i + 1) = τ i ∧ Kdu P (rho (e i)) o (val i)) ∨
    (Jbg ops (e i) o = true ∧ lo i = false ∧ al i = true ∧ τ (i + 1) = τ i ∧ Jrn P (rho (e i)) o (base + i) (val i) (ao i)) ∨
    (Jbg ops (e i) o = true ∧ lo i = false ∧ al i = false ∧ τ (i + 1) = τ i ∧ Jac P o.op = .read ∧ Jal P (rho (e i)) (base + i) o (τ i) = some (.val (val i) (τ i)) ∧
      ∀ j, j < ops.size → lo j = true → bit B i j = false → bit B j i = false → Jal P (rho (e i)) (base + i) o (τ j) = some (.val (val i) (τ j)) ∧ Jal P (rho (e i)) (base + i) o (τ (j + 1)) = some (.val (val i) (τ (j + 1)))) ∨
    (Jbg ops (e i) o = true ∧ lo i = true ∧ al i = false ∧ ∃ ρ, (∀ x ∈ o.op.operands, ρ x = rho (e i) x) ∧ Jqi P gl ρ (base + i) o (Jdo base ao (Jc0 lo al B i) (τ i)) (val i) (τ (i + 1)))
  loud : ∀ i, lo i = true → ∃ o, ops[i]? = some o ∧ Jac P o.op = .loud
  inn : ∀ i, al i = true → i < ops.size
theorem Trc.quiet {P : Program} {gl : List Nat} {ops : Array Oper} {base : Nat} {B : List Nat} {e : Nat → Env} {τ : Nat → St} {val : Nat → Value} {ao : Nat → AObj} {lo al : Nat → Bool} (h : Trc P gl ops base B e τ val ao lo al) {i : Nat} (hi : i < ops.size) (hl : lo i = false) : τ (i + 1) = τ i := by
  rcases h.step i _ (Array.getElem?_eq_getElem hi) with k | k | k | k | k
  · exact k.2.2.2.2
  · exact k.2.2.2.1
  · exact k.2.2.2.1
  · exact k.2.2.2.1
  · rw [hl] at k; cases k.2.1
theorem Trc.between {P : Program} {gl : List Nat} {ops : Array Oper} {base : Nat} {B : List Nat} {e : Nat → Env} {τ : Nat → St} {val : Nat → Value} {ao : Nat → AObj} {lo al : Nat → Bool} (h : Trc P gl ops base B e τ val ao lo al) (i : Nat) : ∀ (d : Nat), i + d ≤ ops.size → (∀ j, i ≤ j → j < i + d → lo j = false) → τ (i + d) = τ i
  | 0, _, _ => rfl
  | d + 1, hd, hn => by
    have h1 := h.between i d (by omega) (fun j a b => hn j a (by omega))
    have h2 := h.quiet (i := i + d) (by omega) (hn _ (by omega) (by omega))
    rw [← h1, ← h2]; rfl
def pdn (n : Nat) (D al lo : Nat → Bool) (B : List Nat) (p k : Nat) : Bool := decide (k < n) && D k && al k && !gone lo B p k
def gp (base n : Nat) (PD : Nat → Bool) (H : Nat → CA) (g : Gam) (S : Nat → Bool) : Gam := fun A => if base ≤ A ∧ A < base + n ∧ PD (A - base) = true ∧ S (A - base) = true then some (H (A - base)) else g A
theorem Kcn {base n : Nat} {PD : Nat → Bool} {H : Nat → CA} {g : Gam} {S : Nat → Bool} {k : Nat} (hk : k < n) (hp : PD k = true) (hs : S k = true) : gp base n PD H g S (base + k) = some (H k) := by
  unfold gp
  have e : base + k - base = k := by omega
  rw [if_pos ⟨by omega, by omega, by rw [e]; exact hp, by rw [e]; exact hs⟩, e]
theorem Jq6 {base n : Nat} {PD : Nat → Bool} {H : Nat → CA} {g : Gam} {S : Nat → Bool} {A : Nat} (h : ∀ k, k < n → PD k = true → S k = true → A ≠ base + k) : gp base n PD H g S A = g A := by
  unfold gp
  split
  · rename_i hc
    exact (h (A - base) (by omega) hc.2.2.1 hc.2.2.2 (by omega)).elim
  · rfl
theorem Jf2 {base n : Nat} {PD : Nat → Bool} {H : Nat → CA} {g : Gam} {S : Nat → Bool} {A : Nat} {x : CA} (h : gp base n PD H g S A = some x) : (∃ k, k < n ∧ PD k = true ∧ S k = true ∧ A = base + k ∧ x = H k) ∨ g A = some x := by
  unfold gp at h
  split at h
  · rename_i hc
    cases h
    exact .inl ⟨A - base, by omega, hc.2.2.1, hc.2.2.2, by omega, rfl⟩
  · exact .inr h
theorem Jlg {base n : Nat} {PD : Nat → Bool} {H : Nat → CA} {g : Gam} {S S' : Nat → Bool} (hg : ∀ k, k < n → PD k = true → g (base + k) = none) (h : ∀ k, PD k = true → S k = true → S' k = true) : Gam.le (gp base n PD H g S) (gp base n PD H g S') := by
  intro A x e
  rcases Jf2 e with ⟨k, k1, k2, k3, rfl, rfl⟩ | e
  · exact Kcn k1 k2 (h k k2 k3)
  · rw [Jq6]
    · exact e
    · intro k k1 k2 _ eA
      subst eA
      rw [hg k k1 k2] at e; cases e
theorem Jub {base n : Nat} {PD : Nat → Bool} {H : Nat → CA} {g : Gam} {S : Nat → Bool} (hg : ∀ k, k < n → PD k = true → g (base + k) = none) : Gam.le g (gp base n PD H g S) := by
  intro A x e
  rw [Jq6]
  · exact e
  · intro k k1 k2 _ eA
    subst eA
    rw [hg k k1 k2] at e; cases e
structure DInv (Ds : List Deferred) (P : Program) (gl : List Nat) (N : Nat) (ops : Array Oper) (base : Nat) (B : List Nat) (e : Nat → Env) (τ : Nat → St) (val : Nat → Value) (ao : Nat → AObj) (lo al : Nat → Bool) (g0 : Gam) (σ0 : St) (w0 : World)
    (D : Nat → Bool) (p : Nat) (g : Gam) (H : Nat → CA) (a : Act) (w : World) : Prop where
  pn : p ≤ ops.size
  below : ∀ j, j < p → lo j = true → D j = true
  above : ∀ j, p ≤ j → lo j = true → D j = false
  here : p = ops.size ∨ lo p = true
  rel : Rel g (τ p) w
  ext : Ext (fun A => base ≤ A) g0 g σ0 (τ p) w0 w
  free : ∀ k, k < ops.size → (lo k = true → p ≤ k) → (al k = true → gone lo B p k = false) → (τ p).get (base + k) = none
  next : base + ops.size ≤ (τ p).next
  pend : ∀ k, pdn ops.size D al lo B p k = true → ∃ ob, w.heap[(H k).block]? = some ob ∧ (H k).base = 0 ∧ Jfw (gp base ops.size (pdn ops.size D al lo B p) H g (bit B k)) (H k).size (ao k) ob ∧ (∀ A x, g A = some x → x.block ≠ (H k).block) ∧ w0.heap.size ≤ (H k).block
  dist : ∀ k k', pdn ops.size D al lo B p k = true → pdn ops.size D al lo B p k' = true → (H k).block = (H k').block → k = k'
  slot : ∀ t, (∃ i o, D i = true ∧ ops[i]? = some o ∧ o.dst = some t ∧ (∀ i' o', D i' = true → ops[i']? = some o' → o'.dst = some t → i' ≤ i) ∧ VRel (gp base ops.size (pdn ops.size D al lo B p) H g (fun k => k == i || bit B i k)) (val i) (a.tmps.getD t undef)) ∨
    ((∀ i o, D i = true → ops[i]? = some o → o.dst ≠ some t) ∧ VRel g (eget (e 0) t) (a.tmps.getD t undef))
  defers : a.defers = Ds
  size : a.tmps.size = N
  closed : ∀ i o, D i = true → ops[i]? = some o → ∀ ed ∈ o.after, Region.binds .any ed = true → D ed.on = true
  inn : ∀ i, D i = true → i < ops.size
  old : ∀ x ∈ tabW, x.1 < w0.heap.size
section inv
variable {P : Program} {gl : List Nat} {N : Nat} {call : Jd9} {ops : Array Oper} {base : Nat} {B : List Nat} {e : Nat → Env} {τ : Nat → St} {val : Nat → Value} {ao : Nat → AObj} {lo al : Nat → Bool} {g0 : Gam} {σ0 : St} {w0 : World}
  {D : Nat → Bool} {p : Nat} {g : Gam} {H : Nat → CA} {a : Act} {w : World}
theorem Trc.excl (h : Trc P gl ops base B e τ val ao lo al) {k : Nat} (ha : al k = true) : lo k = false := by
  rcases h.step k _ (Array.getElem?_eq_getElem (h.inn k ha)) with q | q | q | q | q
  · exact q.2.2.1
  · exact q.2.1
  · exact q.2.1
  · exact q.2.1
  · rw [q.2.2.1] at ha; cases ha
theorem Jd0 {n : Nat} {k : Nat} : pdn n D al lo B p k = true ↔ k < n ∧ D k = true ∧ al k = true ∧ gone lo B p k = false := by
  simp [pdn, and_assoc]
theorem DInv.gnone (ht : Trc P gl ops base B e τ val ao lo al) (h : DInv Ds P gl N ops base B e τ val ao lo al g0 σ0 w0 D p g H a w) {k : Nat} (hk : k < ops.size) (hp : pdn ops.size D al lo B p k = true) : g (base + k) = none := by
  obtain ⟨_, _, ha, hg⟩ := Jd0.1 hp
  have := h.free k hk (fun hl => by rw [ht.excl ha] at hl; cases hl) (fun _ => hg)
  cases e2 : g (base + k) with
  | none => rfl
  | some x => obtain ⟨ob, hob, _⟩ := h.rel.obj _ x e2; rw [this] at hob; cases hob
theorem Joa (ht : Trc P gl ops base B e τ val ao lo al) (t : Nat) : ∀ (i : Nat), i ≤ ops.size →
    (∃ k o, k < i ∧ ops[k]? = some o ∧ o.dst = some t ∧ (∀ k' o', k' < i → ops[k']? = some o' → o'.dst = some t → k' ≤ k) ∧ eget (e i) t = val k) ∨ ((∀ k o, k < i → ops[k]? = some o → o.dst ≠ some t) ∧ eget (e i) t = eget (e 0) t)
  | 0, _ => .inr ⟨fun k o h => by omega, rfl⟩
  | i + 1, hi => by
    have ho : ops[i]? = some (ops[i]'(by omega)) := Array.getElem?_eq_getElem (by omega)
    have he := ht.env i _ ho
    by_cases hd : (ops[i]'(by omega)).dst = some t
    · left
      refine ⟨i, _, Nat.lt_succ_self _, ho, hd, fun k' o' h1 _ _ => by omega, ?_⟩
      rw [he, hd]; simp [Jcw, Jab]
    · have hsame : eget (e (i + 1)) t = eget (e i) t := by
        rw [he]
        cases hdd : (ops[i]'(by omega)).dst with
        | none => rfl
        | some d =>
          simp only [Jcw, Jab]
          rw [if_neg (fun e2 => hd (by rw [hdd, e2]))]
      rcases Joa ht t i (by omega) with ⟨k, o, h1, h2, h3, h4, h5⟩ | ⟨h1, h2⟩
      · left
        refine ⟨k, o, by omega, h2, h3, fun k' o' q1 q2 q3 => ?_, hsame.trans h5⟩
        by_cases hk : k' = i
        · subst hk; rw [ho] at q2; cases q2; exact (hd q3).elim
        · exact h4 k' o' (by omega) q2 q3
      · right
        refine ⟨fun k o q1 q2 => ?_, hsame.trans h2⟩
        by_cases hk : k = i
        · subst hk; rw [ho] at q2; cases q2; exact hd
        · exact h1 k o (by omega) q2
theorem DInv.look (hs : Jc3 P ops B) (ht : Trc P gl ops base B e τ val ao lo al) (h : DInv Ds P gl N ops base B e τ val ao lo al g0 σ0 w0 D p g H a w) {i : Nat} {o : Oper} (ho : ops[i]? = some o) (hni : D i = false)
    (hr : ∀ ed ∈ o.after, Region.binds .any ed = true → D ed.on = true) {t : Nat} (hl : t ∈ o.looksAt ops) : VRel (gp base ops.size (pdn ops.size D al lo B p) H g (bit B i)) (eget (e i) t) (a.tmps.getD t undef) := by
  have hi : i < ops.size := (Array.getElem?_eq_some_iff.1 ho).1
  have hdown := hs.down h.closed i o ho hr
  have later : ∀ k ok, D k = true → ops[k]? = some ok → ok.dst = some t → k < i := by
    intro k ok hk hok hd
    rcases Nat.lt_trichotomy k i with q | q | q
    · exact q
    · subst q; rw [hni] at hk; cases hk
    · rcases hs.reads i o k ok t ho hok (by omega) hd hl with b | b
      · have := hs.lt i k b; omega
      · have := hs.down h.closed k ok hok (h.closed k ok hk hok) i b
        rw [hni] at this; cases this
  have hgn : ∀ k, k < ops.size → pdn ops.size D al lo B p k = true → g (base + k) = none := fun k hk hp => h.gnone ht hk hp
  rcases Joa ht t i (by omega) with ⟨k, ok, h1, h2, h3, h4, h5⟩ | ⟨h1, h2⟩
  · have hb : bit B i k = true := by
      rcases hs.reads i o k ok t ho h2 (by omega) h3 hl with b | b
      · exact b
      · have := hs.lt k i b; omega
    have hDk := hdown k hb
    rcases h.slot t with ⟨j, oj, q1, q2, q3, q4, q5⟩ | ⟨q1, _⟩
    · have hkj := q4 k ok hDk h2 h3
      have hji := later j oj q1 q2 q3
      have hjk := h4 j oj hji q2 q3
      have : j = k := by omega
      subst this
      rw [h5]
      refine q5.mono (Jlg hgn fun k' hk' hS => ?_)
      simp only [Bool.or_eq_true, beq_iff_eq] at hS
      rcases hS with rfl | hS
      · exact hb
      · exact hs.tr i j k' hb hS
    · exact (q1 k ok hDk h2 h3).elim
  · rcases h.slot t with ⟨j, oj, q1, q2, q3, _⟩ | ⟨_, q2⟩
    · exact (h1 j oj (later j oj q1 q2 q3) q2 q3).elim
    · rw [h2]; exact q2.mono (Jub hgn)
theorem Jt4 {o : Oper} {t : Nat} (h : Operand.tmp t ∈ o.op.operands) : t ∈ o.looksAt ops := by
  unfold Oper.looksAt
  refine List.mem_append_left _ ?_
  rw [List.mem_filterMap]
  exact ⟨.tmp t, by simpa using h, rfl⟩
theorem DInv.opnds (hs : Jc3 P ops B) (ht : Trc P gl ops base B e τ val ao lo al) (h : DInv Ds P gl N ops base B e τ val ao lo al g0 σ0 w0 D p g H a w) (hg0 : Glob gl g0) {i : Nat} {o : Oper} (ho : ops[i]? = some o) (hni : D i = false)
    (hr : ∀ ed ∈ o.after, Region.binds .any ed = true → D ed.on = true) (hok : Jfj gl N o = true) : ∀ x ∈ o.op.operands, VRel (gp base ops.size (pdn ops.size D al lo B p) H g (bit B i)) (rho (e i) x) (a.eval x) := by
  intro x hx
  simp only [Jfj, Bool.and_eq_true, List.all_eq_true] at hok
  have hx2 := hok.1 x (by simpa using hx)
  have hgn : ∀ k, k < ops.size → pdn ops.size D al lo B p k = true → g (base + k) = none := fun k hk hp => h.gnone ht hk hp
  cases x with
  | tmp t => exact h.look hs ht ho hni hr (Jt4 hx)
  | const v => exact Jb4 hx2
  | global b =>
    obtain ⟨n, e1⟩ := hg0 b hx2
    exact .ptr b 0 _ (Jub hgn _ _ (h.ext.le _ _ e1))
  | func f => exact .func _ _ _ _ _ rfl (fun i h => by simp at h) rfl (fun i h => by simp at h)
theorem DInv.wanted (hs : Jc3 P ops B) (ht : Trc P gl ops base B e τ val ao lo al) (h : DInv Ds P gl N ops base B e τ val ao lo al g0 σ0 w0 D p g H a w) {i : Nat} {o : Oper} (ho : ops[i]? = some o) (hni : D i = false)
    (hr : ∀ ed ∈ o.after, Region.binds .any ed = true → D ed.on = true) (hok : Jef ops N o = true) : Region.wanted o (yielded ops a.tmps) = Jbg ops (e i) o := by
  unfold Region.wanted Jbg
  unfold Jef at hok
  cases hgd : o.guard with
  | none => rfl
  | some q =>
    obtain ⟨j, want⟩ := q
    rw [hgd] at hok
    simp only at hok ⊢
    have : yielded ops a.tmps j = Jg5 ops (e i) j := by
      unfold yielded Jg5
      cases hd : (ops[j]?).bind (·.dst) with
      | none => rfl
      | some d =>
        rw [hd] at hok
        have hlt : d < a.tmps.size := by rw [h.size]; simpa using hok
        have hl : d ∈ o.looksAt ops := by
          unfold Oper.looksAt
          refine List.mem_append_right _ ?_
          rw [hgd]; simp only [hd]; simp
        have hv := h.look hs ht ho hni hr hl
        simp only [Option.bind_some, Array.getElem?_eq_getElem hlt]
        have e2 : a.tmps.getD d undef = a.tmps[d] := by simp [hlt]
        rw [e2] at hv
        generalize a.tmps[d] = v' at hv
        generalize eget (e i) d = v at hv
        cases hv <;> rfl
    rw [this]
end inv
variable {Ds : List Deferred}
section inv
variable {P : Program} {gl : List Nat} {N : Nat} {call : Jd9} {ops : Array Oper} {base : Nat} {B : List Nat} {e : Nat → Env} {τ : Nat → St} {val : Nat → Value} {ao : Nat → AObj} {lo al : Nat → Bool} {g0 : Gam} {σ0 : St} {w0 : World}
  {D : Nat → Bool} {p : Nat} {g : Gam} {H : Nat → CA} {a : Act} {w : World}
theorem Jgm (l : List Nat) : ∀ (τ0 : St) (A : Nat), (∀ k ∈ l, A ≠ base + k) → (Jdo base ao l τ0).get A = τ0.get A := by
  induction l with
  | nil => intro τ0 A _; rfl
  | cons k l ih =>
    intro τ0 A h
    simp only [Jdo, List.foldl_cons]
    have := ih (τ0.set (base + k) (ao k)) A (fun k' hk' => h k' (List.mem_cons_of_mem _ hk'))
    simp only [Jdo] at this
    rw [this]
    simp only [St.get_set]
    rw [if_neg (fun e => h k List.mem_cons_self e.symm)]
theorem Jeh (l : List Nat) : ∀ (τ0 : St), (Jdo base ao l τ0).next = τ0.next ∧ ∀ F, (Jdo base ao l τ0).famO F = τ0.famO F := by
  induction l with
  | nil => intro τ0; exact ⟨rfl, fun _ => rfl⟩
  | cons k l ih =>
    intro τ0
    simp only [Jdo, List.foldl_cons]
    have := ih (τ0.set (base + k) (ao k))
    exact this
theorem Kcm (l : List Nat) (k : Nat) (τ0 : St) : Jdo base ao (l ++ [k]) τ0 = (Jdo base ao l τ0).set (base + k) (ao k) := by
  simp [Jdo, List.foldl_append]
theorem Trc.fam (ht : Trc P gl ops base B e τ val ao lo al) {k : Nat} (hk : al k = true) : ∀ own ver F c, ao k = .cells own ver F c → F = base + k := by
  rcases ht.step k _ (Array.getElem?_eq_getElem (ht.inn k hk)) with q | q | q | q | q
  · rw [q.2.2.2.1] at hk; cases hk
  · rw [q.2.2.1] at hk; cases hk
  · exact q.2.2.2.2.1
  · rw [q.2.2.1] at hk; cases hk
  · rw [q.2.2.1] at hk; cases hk
theorem DInv.install (hs : Jc3 P ops B) (ht : Trc P gl ops base B e τ val ao lo al) (h : DInv Ds P gl N ops base B e τ val ao lo al g0 σ0 w0 D p g H a w) (l : List Nat)
    (hl : ∀ k ∈ l, pdn ops.size D al lo B p k = true) (hsort : l.Pairwise (· < ·)) (hcl : ∀ k ∈ l, ∀ k', pdn ops.size D al lo B p k' = true → bit B k k' = true → k' ∈ l) :
    Rel (gp base ops.size (pdn ops.size D al lo B p) H g (fun k => decide (k ∈ l))) (Jdo base ao l (τ p)) w := by
  have key : ∀ m, m ≤ l.length → Rel (gp base ops.size (pdn ops.size D al lo B p) H g (fun k => decide (k ∈ l.take m))) (Jdo base ao (l.take m) (τ p)) w := by
    intro m
    induction m with
    | zero =>
      intro _
      have : gp base ops.size (pdn ops.size D al lo B p) H g (fun k => decide (k ∈ l.take 0)) = g := by
        funext A; exact Jq6 fun k _ _ hk => by simp at hk
      rw [this]
      exact h.rel
    | succ m ih =>
      intro hm
      have ih := ih (by omega)
      have hlt : m < l.length := by omega
      have htk : l.take (m + 1) = l.take m ++ [l[m]] := by rw [List.take_succ_eq_append_getElem hlt]
      obtain ⟨k, hk⟩ : ∃ k, k = l[m] := ⟨_, rfl⟩
      rw [← hk] at htk
      have hkl : k ∈ l := by rw [hk]; exact List.getElem_mem hlt
      have hpd := hl k hkl
      obtain ⟨hkn, hD, ha, hg⟩ := Jd0.1 hpd
      have hnot : k ∉ l.take m := by
        intro hmem
        obtain ⟨j, hj, e1⟩ := List.getElem_of_mem hmem
        have hj' : j < m := by simp at hj; omega
        have hp := List.pairwise_iff_getElem.1 hsort j m (by omega) hlt hj'
        simp only [List.getElem_take] at e1
        rw [e1, ← hk] at hp
        omega
      obtain ⟨ob, o1, o2, o3, o4, o5⟩ := h.pend k hpd
      have hfree : (Jdo base ao (l.take m) (τ p)).get (base + k) = none := by
        rw [Jgm]
        · exact h.free k hkn (fun hl => by rw [ht.excl ha] at hl; cases hl) (fun _ => hg)
        · intro k' hk' e1
          have : k' = k := by omega
          subst this; exact hnot hk'
      have hgm := Jlg (S := bit B k) (S' := fun k' => decide (k' ∈ l.take m)) (H := H) (fun k hk hp => h.gnone ht hk hp) (fun k' hk' hb => by
        have hmem := hcl k hkl k' hk' hb
        have hlt2 := hs.lt k k' hb
        obtain ⟨j, hj, e1⟩ := List.getElem_of_mem hmem
        have hjm : j < m := by
          rcases Nat.lt_trichotomy j m with q | q | q
          · exact q
          · subst q; rw [← hk] at e1; omega
          · have := List.pairwise_iff_getElem.1 hsort m j hlt hj q
            rw [e1, ← hk] at this; omega
        simp only [decide_eq_true_eq]
        rw [List.mem_take_iff_getElem]
        exact ⟨j, by omega, e1⟩)
      have := ih.install (id := base + k) (b := (H k).block) (n := (H k).size) (ao := ao k) (ob := ob) hfree (by rw [(Jeh _ _).1]; have := h.next; omega) o1 (fun A x hA => by
          rcases Jf2 hA with ⟨k', k1, k2, k3, rfl, rfl⟩ | hA
          · intro e1
            have := h.dist k' k k2 hpd e1
            subst this
            simp at k3; exact hnot k3
          · exact o4 A x hA) (fun x hx => by have := h.old x hx; omega) (ht.fam ha) (o3.mono hgm)
      rw [htk, Kcm]
      have hgam : gp base ops.size (pdn ops.size D al lo B p) H g (fun k' => decide (k' ∈ l.take m ++ [k])) = (gp base ops.size (pdn ops.size D al lo B p) H g (fun k => decide (k ∈ l.take m))).add (base + k) ⟨(H k).block, 0, (H k).size⟩ := by
        funext A
        by_cases hA : A = base + k
        · subst hA
          rw [Kcn hkn hpd (by simp), Gam.add_self, ← o2]
        · have e1 : (gp base ops.size (pdn ops.size D al lo B p) H g (fun k => decide (k ∈ l.take m))).add (base + k) ⟨(H k).block, 0, (H k).size⟩ A = gp base ops.size (pdn ops.size D al lo B p) H g (fun k => decide (k ∈ l.take m)) A := by
            simp [Gam.add, hA]
          rw [e1]
          unfold gp
          by_cases hc : base ≤ A ∧ A < base + ops.size ∧ pdn ops.size D al lo B p (A - base) = true ∧ decide (A - base ∈ l.take m) = true
          · rw [if_pos hc, if_pos ⟨hc.1, hc.2.1, hc.2.2.1, by have := hc.2.2.2; simp at this ⊢; exact .inl this⟩]
          · rw [if_neg hc]
            by_cases hc2 : base ≤ A ∧ A < base + ops.size ∧ pdn ops.size D al lo B p (A - base) = true ∧ decide (A - base ∈ l.take m ++ [k]) = true
            · exfalso
              apply hc
              refine ⟨hc2.1, hc2.2.1, hc2.2.2.1, ?_⟩
              have := hc2.2.2.2
              simp only [decide_eq_true_eq, List.mem_append, List.mem_singleton] at this ⊢
              rcases this with q | q
              · exact q
              · exact (hA (by omega)).elim
            · rw [if_neg hc2]
      rw [hgam]
      exact this
  have := key l.length (Nat.le_refl _)
  rwa [List.take_length] at this
theorem DInv.instExt (hs : Jc3 P ops B) (ht : Trc P gl ops base B e τ val ao lo al) (h : DInv Ds P gl N ops base B e τ val ao lo al g0 σ0 w0 D p g H a w) (l : List Nat) (hl : ∀ k ∈ l, pdn ops.size D al lo B p k = true) :
    Ext (fun A => base ≤ A) g0 (gp base ops.size (pdn ops.size D al lo B p) H g (fun k => decide (k ∈ l))) σ0 (Jdo base ao l (τ p)) w0 w := by
  have hne : ∀ k ∈ l, (τ p).get (base + k) = none := fun k hk => by
    obtain ⟨hkn, hD, ha, hg⟩ := Jd0.1 (hl k hk)
    exact h.free k hkn (fun hl => by rw [ht.excl ha] at hl; cases hl) (fun _ => hg)
  refine ⟨Gam.le_trans h.ext.le (Jub fun k hk hp => h.gnone ht hk hp), ?_, ?_, h.ext.size, h.ext.keep, ?_, ?_, by rw [(Jeh _ _).1]; exact h.ext.next, h.ext.os, h.ext.out, h.ext.tape⟩
  · intro A x hA hA0
    rcases Jf2 hA with ⟨k, _, _, _, rfl, _⟩ | hA
    · exact Nat.le_add_right _ _
    · exact h.ext.new A x hA hA0
  · intro A x hA hA0
    rcases Jf2 hA with ⟨k, k1, k2, _, rfl, rfl⟩ | hA
    · exact .inl (h.pend k k2).choose_spec.2.2.2.2
    · exact h.ext.fresh A x hA hA0
  · intro A hA hn
    rw [Jgm]
    · exact h.ext.frame A hA hn
    · intro k _ e1; exact hn (by omega)
  · intro A hA
    obtain ⟨r1, r2⟩ := h.ext.ro A hA
    have hneA : ∀ k ∈ l, A ≠ base + k := fun k hk e1 => by
      subst e1
      obtain ⟨_, _, _, q, _⟩ := r2
      rw [hne k hk] at q; cases q
    refine ⟨by rw [Jgm _ _ _ hneA]; exact r1, ?_⟩
    obtain ⟨v, f, c, q1, q2⟩ := r2
    exact ⟨v, f, c, by rw [Jgm _ _ _ hneA]; exact q1, by rw [(Jeh _ _).2]; exact q2⟩
theorem DInv.putSlot (hs : Jc3 P ops B) (ht : Trc P gl ops base B e τ val ao lo al) (h : DInv Ds P gl N ops base B e τ val ao lo al g0 σ0 w0 D p g H a w) {i : Nat} {o : Oper} (ho : ops[i]? = some o) (hni : D i = false)
    (hd : ∀ d, o.dst = some d → d < N) {PD' : Nat → Bool} {g' : Gam} {H' : Nat → CA} (hle : ∀ S, Gam.le (gp base ops.size (pdn ops.size D al lo B p) H g S) (gp base ops.size PD' H' g' S)) (hlg : Gam.le g g')
    {v' : Value} (hv : VRel (gp base ops.size PD' H' g' (fun k => k == i || bit B i k)) (val i) v') (t : Nat) :
    (∃ j oj, (D j || j == i) = true ∧ ops[j]? = some oj ∧ oj.dst = some t ∧ (∀ i' o', (D i' || i' == i) = true → ops[i']? = some o' → o'.dst = some t → i' ≤ j) ∧ VRel (gp base ops.size PD' H' g' (fun k => k == j || bit B j k)) (val j) ((a.put o.dst v').tmps.getD t undef)) ∨
    ((∀ j oj, (D j || j == i) = true → ops[j]? = some oj → oj.dst ≠ some t) ∧ VRel g' (eget (e 0) t) ((a.put o.dst v').tmps.getD t undef)) := by
  by_cases hdt : o.dst = some t
  · left
    refine ⟨i, o, by simp, ho, hdt, fun i' o' h1 h2 h3 => ?_, ?_⟩
    · simp only [Bool.or_eq_true, beq_iff_eq] at h1
      rcases h1 with h1 | h1
      · by_cases hii : i' = i
        · omega
        · rcases hs.writes i o i' o' t ho h2 hii h3 hdt with b | b
          · have := hs.lt i i' b; omega
          · have := hs.down h.closed i' o' h2 (h.closed i' o' h1 h2) i b
            rw [hni] at this; cases this
      · omega
    · have hlt : t < a.tmps.size := by rw [h.size]; exact hd t hdt
      have e1 : (a.put o.dst v').tmps.getD t undef = v' := by rw [hdt]; simp [Act.put, hlt]
      rw [e1]; exact hv
  · have hsame : (a.put o.dst v').tmps.getD t undef = a.tmps.getD t undef := by
      cases hdd : o.dst with
      | none => rfl
      | some d =>
        have hne : d ≠ t := fun e1 => hdt (by rw [hdd, e1])
        simp only [Act.put, Array.getD_eq_getD_getElem?, Array.getElem?_setIfInBounds, if_neg hne]
    rw [hsame]
    rcases h.slot t with ⟨j, oj, q1, q2, q3, q4, q5⟩ | ⟨q1, q2⟩
    · left
      refine ⟨j, oj, by simp [q1], q2, q3, fun i' o' h1 h2 h3 => ?_, q5.mono (hle _)⟩
      simp only [Bool.or_eq_true, beq_iff_eq] at h1
      rcases h1 with h1 | rfl
      · exact q4 i' o' h1 h2 h3
      · rw [ho] at h2; cases h2; exact (hdt h3).elim
    · right
      refine ⟨fun j oj h1 h2 => ?_, q2.mono hlg⟩
      simp only [Bool.or_eq_true, beq_iff_eq] at h1
      rcases h1 with h1 | rfl
      · exact q1 j oj h1 h2
      · rw [ho] at h2; cases h2; exact hdt
theorem DInv.quiet (hs : Jc3 P ops B) (ht : Trc P gl ops base B e τ val ao lo al) (h : DInv Ds P gl N ops base B e τ val ao lo al g0 σ0 w0 D p g H a w) {i : Nat} {o : Oper} (ho : ops[i]? = some o) (hni : D i = false)
    (hr : ∀ ed ∈ o.after, Region.binds .any ed = true → D ed.on = true) (hd : ∀ d, o.dst = some d → d < N) (hl : lo i = false) (ha : al i = false) {v' : Value} (hv : VRel (gp base ops.size (pdn ops.size D al lo B p) H g (bit B i)) (val i) v') :
    DInv Ds P gl N ops base B e τ val ao lo al g0 σ0 w0 (fun j => D j || j == i) p g H (a.put o.dst v') w := by
  have hpd : pdn ops.size (fun j => D j || j == i) al lo B p = pdn ops.size D al lo B p := by
    funext k
    simp only [pdn]
    by_cases hk : k = i
    · subst hk; simp [ha]
    · have : (k == i) = false := by simpa using hk
      simp [this]
  have hgn : ∀ k, k < ops.size → pdn ops.size D al lo B p k = true → g (base + k) = none := fun k hk hp => h.gnone ht hk hp
  refine ⟨h.pn, fun j h1 h2 => by simp [h.below j h1 h2], fun j h1 h2 => ?_, h.here, h.rel, h.ext, h.free, h.next, by rw [hpd]; exact h.pend, by rw [hpd]; exact h.dist, fun t => ?_, ?_, ?_, ?_, ?_, h.old⟩
  · have hne : j ≠ i := fun e1 => by subst e1; rw [hl] at h2; cases h2
    simp [h.above j h1 h2, hne]
  · rw [hpd]
    exact h.putSlot hs ht ho hni hd (fun S => Gam.le_refl _) (Gam.le_refl _) (hv.mono (Jlg hgn fun k _ hb => by simp [hb])) t
  · cases o.dst <;> exact h.defers
  · cases hdd : o.dst with
    | none => exact h.size
    | some d => simp [Act.put, h.size]
  · intro j oj h1 h2 ed he hb
    simp only [Bool.or_eq_true, beq_iff_eq] at h1 ⊢
    rcases h1 with h1 | rfl
    · exact .inl (h.closed j oj h1 h2 ed he hb)
    · rw [ho] at h2; cases h2; exact .inl (hr ed he hb)
  · intro j h1
    simp only [Bool.or_eq_true, beq_iff_eq] at h1
    rcases h1 with h1 | rfl
    · exact h.inn j h1
    · exact (Array.getElem?_eq_some_iff.1 ho).1
theorem DInv.notGone (hs : Jc3 P ops B) (h : DInv Ds P gl N ops base B e τ val ao lo al g0 σ0 w0 D p g H a w) {i : Nat} (hni : D i = false) : gone lo B p i = false := by
  cases hg : gone lo B p i with
  | false => rfl
  | true =>
    simp only [gone, List.any_eq_true, List.mem_range, Bool.and_eq_true] at hg
    obtain ⟨j, h1, h2, h3⟩ := hg
    have hD := h.below j h1 h2
    have hj := h.inn j hD
    have := hs.down h.closed j _ (Array.getElem?_eq_getElem hj) (h.closed j _ hD (Array.getElem?_eq_getElem hj)) i h3
    rw [hni] at this; cases this
theorem DInv.alloc (hs : Jc3 P ops B) (ht : Trc P gl ops base B e τ val ao lo al) (h : DInv Ds P gl N ops base B e τ val ao lo al g0 σ0 w0 D p g H a w) {i : Nat} {o : Oper} (ho : ops[i]? = some o) (hni : D i = false)
    (hr : ∀ ed ∈ o.after, Region.binds .any ed = true → D ed.on = true) (hd : ∀ d, o.dst = some d → d < N) (hl : lo i = false) (ha : al i = true) {w1 : World} {ob : Obj} {n : Nat} {v' : Value}
    (hw : w1.heap = w.heap) (h1 : w1.os = w.os) (h2 : w1.output = w.output) (h3 : w1.tape = w.tape)
    (hv : ∀ g' : Gam, Gam.le (gp base ops.size (pdn ops.size D al lo B p) H g (bit B i)) g' → g' (base + i) = some ⟨w.heap.size, 0, n⟩ → VRel g' (val i) v')
    (hn : Jfw (gp base ops.size (pdn ops.size D al lo B p) H g (bit B i)) n (ao i) ob) :
    DInv Ds P gl N ops base B e τ val ao lo al g0 σ0 w0 (fun j => D j || j == i) p g (fun k => if k = i then ⟨w.heap.size, 0, n⟩ else H k) (a.put o.dst v') (newW w1 ob) := by
  have hi : i < ops.size := (Array.getElem?_eq_some_iff.1 ho).1
  have hng := h.notGone hs hni
  have hpd : ∀ k, pdn ops.size (fun j => D j || j == i) al lo B p k = (pdn ops.size D al lo B p k || k == i) := by
    intro k
    simp only [pdn]
    by_cases hk : k = i
    · subst hk; simp [ha, hng, hi]
    · have : (k == i) = false := by simpa using hk
      simp [this]
  have hpi : pdn ops.size D al lo B p i = false := by simp [pdn, hni]
  have hgi : g (base + i) = none := by
    have := h.free i hi (fun q => by rw [hl] at q; cases q) (fun _ => hng)
    cases e2 : g (base + i) with
    | none => rfl
    | some x => obtain ⟨ob, hob, _⟩ := h.rel.obj _ x e2; rw [this] at hob; cases hob
  have hgn : ∀ k, k < ops.size → pdn ops.size D al lo B p k = true → g (base + k) = none := fun k hk hp => h.gnone ht hk hp
  have hle : ∀ S, Gam.le (gp base ops.size (pdn ops.size D al lo B p) H g S) (gp base ops.size (pdn ops.size (fun j => D j || j == i) al lo B p) (fun k => if k = i then ⟨w.heap.size, 0, n⟩ else H k) g S) := by
    intro S A x hA
    rcases Jf2 hA with ⟨k, k1, k2, k3, rfl, rfl⟩ | hA
    · have hki : k ≠ i := fun e1 => by subst e1; rw [hpi] at k2; cases k2
      rw [Kcn k1 (by rw [hpd]; simp [k2]) k3, if_neg hki]
    · rw [Jq6]
      · exact hA
      · intro k k1 k2 _ e1
        subst e1
        rw [hpd] at k2
        simp only [Bool.or_eq_true, beq_iff_eq] at k2
        rcases k2 with k2 | rfl
        · rw [hgn k k1 k2] at hA; cases hA
        · rw [hgi] at hA; cases hA
  have hold : ∀ b, b < w.heap.size → (newW w1 ob).heap[b]? = w.heap[b]? := fun b hb => by rw [Jfz w1 ob b (by rw [hw]; exact hb), hw]
  have hnew : (newW w1 ob).heap[w.heap.size]? = some ob := by have := Jja w1 ob; rwa [hw] at this
  refine ⟨h.pn, fun j a b => by simp [h.below j a b], fun j a b => ?_, h.here, h.rel.more hw ob, h.ext.trans (Ext.more _ _ _ hw h1 h2 h3 ob), h.free, h.next, fun k hk => ?_, fun k k' hk hk' he => ?_, fun t => ?_, ?_, ?_, ?_, ?_, h.old⟩
  · have hne : j ≠ i := fun e1 => by subst e1; rw [hl] at b; cases b
    simp [h.above j a b, hne]
  · rw [hpd] at hk
    by_cases hki : k = i
    · subst hki
      rw [if_pos rfl]
      exact ⟨ob, hnew, rfl, hn.mono (hle _), fun A x hA => by have := h.rel.blk A x hA; simp only []; omega, h.ext.size⟩
    · have hk2 : pdn ops.size D al lo B p k = true := by
        simp only [Bool.or_eq_true, beq_iff_eq] at hk
        rcases hk with hk | hk
        · exact hk
        · exact (hki hk).elim
      simp only [if_neg hki]
      obtain ⟨ob2, o1, o2, o3, o4, o5⟩ := h.pend k hk2
      exact ⟨ob2, by rw [hold _ (Array.getElem?_eq_some_iff.1 o1).1]; exact o1, o2, o3.mono (hle _), o4, o5⟩
  · rw [hpd] at hk hk'
    have lt : ∀ k, pdn ops.size D al lo B p k = true → (H k).block < w.heap.size := fun k q => (Array.getElem?_eq_some_iff.1 (h.pend k q).choose_spec.1).1
    simp only [Bool.or_eq_true, beq_iff_eq] at hk hk'
    by_cases hki : k = i
    · by_cases hki' : k' = i
      · omega
      · rcases hk' with hk' | hk'
        · simp only [if_pos hki, if_neg hki'] at he
          have := lt k' hk'; omega
        · exact (hki' hk').elim
    · by_cases hki' : k' = i
      · rcases hk with hk | hk
        · simp only [if_neg hki, if_pos hki'] at he
          have := lt k hk; omega
        · exact (hki hk).elim
      · simp only [if_neg hki, if_neg hki'] at he
        rcases hk with hk | hk
        · rcases hk' with hk' | hk'
          · exact h.dist k k' hk hk' he
          · exact (hki' hk').elim
        · exact (hki hk).elim
  · refine h.putSlot hs ht ho hni hd hle (Gam.le_refl _) (hv _ ?_ ?_) t
    · refine Gam.le_trans (hle _) (Jlg (fun k hk hp => ?_) fun k _ hb => by simp [hb])
      rw [hpd] at hp
      simp only [Bool.or_eq_true, beq_iff_eq] at hp
      rcases hp with hp | rfl
      · exact hgn k hk hp
      · exact hgi
    · rw [Kcn hi (by rw [hpd]; simp) (by simp), if_pos rfl]
  · cases o.dst <;> exact h.defers
  · cases hdd : o.dst with
    | none => exact h.size
    | some d => simp [Act.put, h.size]
  · intro j oj q1 q2 ed he hb
    simp only [Bool.or_eq_true, beq_iff_eq] at q1 ⊢
    rcases q1 with q1 | rfl
    · exact .inl (h.closed j oj q1 q2 ed he hb)
    · rw [ho] at q2; cases q2; exact .inl (hr ed he hb)
  · intro j q1
    simp only [Bool.or_eq_true, beq_iff_eq] at q1
    rcases q1 with q1 | rfl
    · exact h.inn j q1
    · exact hi
end inv
variable {Ds : List Deferred}
theorem Jnw (lo : Nat → Bool) : ∀ (d q : Nat), ∃ p', q ≤ p' ∧ p' ≤ q + d ∧ (p' = q + d ∨ lo p' = true) ∧ ∀ j, q ≤ j → j < p' → lo j = false
  | 0, q => ⟨q, Nat.le_refl _, Nat.le_refl _, .inl rfl, fun j a b => by omega⟩
  | d + 1, q => by
    cases hq : lo q with
    | true => exact ⟨q, Nat.le_refl _, by omega, .inr hq, fun j a b => by omega⟩
    | false =>
      obtain ⟨p', h1, h2, h3, h4⟩ := Jnw lo d (q + 1)
      refine ⟨p', by omega, by omega, by rcases h3 with h3 | h3; exact .inl (by omega); exact .inr h3, fun j a b => ?_⟩
      by_cases hj : j = q
      · subst hj; exact hq
      · exact h4 j (by omega) b
theorem Jt5 (lo : Nat → Bool) : ∀ (d q : Nat), (∀ j, q ≤ j → j < q + d → lo j = false) ∨ ∃ m, q ≤ m ∧ m < q + d ∧ lo m = true ∧ ∀ j, m < j → j < q + d → lo j = false
  | 0, q => .inl fun j a b => by omega
  | d + 1, q => by
    cases hq : lo (q + d) with
    | true => exact .inr ⟨q + d, by omega, by omega, hq, fun j a b => by omega⟩
    | false =>
      rcases Jt5 lo d q with h | ⟨m, h1, h2, h3, h4⟩
      · left; intro j a b
        by_cases hj : j = q + d
        · subst hj; exact hq
        · exact h j a (by omega)
      · right
        refine ⟨m, h1, by omega, h3, fun j a b => ?_⟩
        by_cases hj : j = q + d
        · subst hj; exact hq
        · exact h4 j a (by omega)
theorem Juk {p q : Nat → Bool} (h : ∀ x, p x = true → q x = true) {i : Nat} (h1 : q i = true) (h2 : p i = false) : ∀ (l : List Nat), i ∈ l → l.countP p < l.countP q
  | [], hm => by cases hm
  | x :: l, hm => by
    simp only [List.countP_cons]
    by_cases hx : x = i
    · subst hx
      have := List.countP_mono_left (l := l) (p := p) (q := q) (fun x _ => h x)
      simp only [h1, h2, if_true]
      simp; omega
    · have hm2 : i ∈ l := by
        cases hm with
        | head => exact (hx rfl).elim
        | tail _ h => exact h
      have := Juk h h1 h2 l hm2
      have hle : (if p x = true then 1 else 0) ≤ (if q x = true then 1 else 0) := by
        by_cases hp : p x = true
        · rw [if_pos hp, if_pos (h x hp)]; exact Nat.le_refl _
        · rw [if_neg hp]; exact Nat.zero_le _
      omega
section inv
variable {P : Program} {gl : List Nat} {N : Nat} {call : Jd9} {ops : Array Oper} {base : Nat} {B : List Nat} {e : Nat → Env} {τ : Nat → St} {val : Nat → Value} {ao : Nat → AObj} {lo al : Nat → Bool} {g0 : Gam} {σ0 : St} {w0 : World}
  {D : Nat → Bool} {p : Nat} {g : Gam} {H : Nat → CA} {a : Act} {w : World}
theorem Jn1 {q k : Nat} : gone lo B q k = true ↔ ∃ j, j < q ∧ lo j = true ∧ bit B j k = true := by
  simp only [gone, List.any_eq_true, List.mem_range, Bool.and_eq_true]
theorem Rel.none_of {g : Gam} {σ : St} {w : World} (h : Rel g σ w) {A : Nat} (hA : σ.get A = none) : g A = none := by
  cases e : g A with
  | none => rfl
  | some x => obtain ⟨ob, hob, _⟩ := h.obj _ x e; rw [hA] at hob; cases hob
theorem DInv.loud (hs : Jc3 P ops B) (ht : Trc P gl ops base B e τ val ao lo al) (h : DInv Ds P gl N ops base B e τ val ao lo al g0 σ0 w0 D p g H a w) {o : Oper} (ho : ops[p]? = some o) (hni : D p = false)
    (hr : ∀ ed ∈ o.after, Region.binds .any ed = true → D ed.on = true) (hd : ∀ d, o.dst = some d → d < N) (hl : lo p = true) {v' : Value} {g' : Gam} {w' : World} (hv : VRel g' (val p) v') (hrel : Rel g' (τ (p + 1)) w')
    (hx : Ext (fun A => A = base + p ∨ (Jdo base ao (Jc0 lo al B p) (τ p)).next ≤ A) (gp base ops.size (pdn ops.size D al lo B p) H g (fun k => decide (k ∈ Jc0 lo al B p))) g' (Jdo base ao (Jc0 lo al B p) (τ p)) (τ (p + 1)) w w') :
    ∃ p', DInv Ds P gl N ops base B e τ val ao lo al g0 σ0 w0 (fun j => D j || j == p) p' g' H (a.put o.dst v') w' := by
  have hp : p < ops.size := (Array.getElem?_eq_some_iff.1 ho).1
  obtain ⟨p', h1, h2, h3, h4⟩ := Jnw lo (ops.size - (p + 1)) (p + 1)
  have hp' : p' ≤ ops.size := by omega
  have hτ : τ p' = τ (p + 1) := by
    have := ht.between (p + 1) (p' - (p + 1)) (by omega) (fun j a b => h4 j a (by omega))
    rwa [show p + 1 + (p' - (p + 1)) = p' by omega] at this
  have hap : al p = false := by
    cases ha : al p with
    | false => rfl
    | true => rw [ht.excl ha] at hl; cases hl
  have hgone : ∀ k, gone lo B p' k = (gone lo B p k || bit B p k) := by
    intro k
    rw [Bool.eq_iff_iff, Bool.or_eq_true, Jn1, Jn1]
    constructor
    · rintro ⟨j, q1, q2, q3⟩
      rcases Nat.lt_trichotomy j p with q | q | q
      · exact .inl ⟨j, q, q2, q3⟩
      · subst q; exact .inr q3
      · rw [h4 j (by omega) q1] at q2; cases q2
    · rintro (⟨j, q1, q2, q3⟩ | q)
      · exact ⟨j, by omega, q2, q3⟩
      · exact ⟨p, by omega, hl, q⟩
  have hdown := hs.down h.closed p o ho hr
  have hinst : ∀ k, k ∈ Jc0 lo al B p ↔ pdn ops.size D al lo B p k = true ∧ bit B p k = true := by
    intro k
    simp only [Jc0, List.mem_filter, List.mem_range, Bool.and_eq_true, Bool.not_eq_true', Jd0]
    constructor
    · rintro ⟨q1, ⟨q2, q3⟩, q4⟩
      exact ⟨⟨by omega, hdown k q3, q2, q4⟩, q3⟩
    · rintro ⟨⟨q1, q2, q3, q4⟩, q5⟩
      exact ⟨hs.lt p k q5, ⟨q3, q5⟩, q4⟩
  have hpd : ∀ k, pdn ops.size (fun j => D j || j == p) al lo B p' k = true ↔ pdn ops.size D al lo B p k = true ∧ bit B p k = false := by
    intro k
    simp only [Jd0, hgone]
    constructor
    · rintro ⟨q1, q2, q3, q4⟩
      simp only [Bool.or_eq_false_iff] at q4
      have hk : k ≠ p := fun e1 => by subst e1; rw [hap] at q3; cases q3
      simp only [Bool.or_eq_true, beq_iff_eq] at q2
      rcases q2 with q2 | q2
      · exact ⟨⟨q1, q2, q3, q4.1⟩, q4.2⟩
      · exact (hk q2).elim
    · rintro ⟨⟨q1, q2, q3, q4⟩, q5⟩
      exact ⟨q1, by simp [q2], q3, by rw [q4, q5]; rfl⟩
  have hgn : ∀ k, k < ops.size → pdn ops.size D al lo B p k = true → g (base + k) = none := fun k hk hp => h.gnone ht hk hp
  have hlg1 := Jub (S := fun k => decide (k ∈ Jc0 lo al B p)) (H := H) hgn
  have hlg : Gam.le g g' := Gam.le_trans hlg1 hx.le
  have hfree : ∀ k, k < ops.size → (lo k = true → p' ≤ k) → (al k = true → gone lo B p' k = false) → (τ p').get (base + k) = none := by
    intro k hk q1 q2
    have hkp : k ≠ p := fun e1 => by subst e1; have := q1 hl; omega
    have hold := h.free k hk (fun q => by have := q1 q; omega) (fun q => by have := q2 q; rw [hgone] at this; simp only [Bool.or_eq_false_iff] at this; exact this.1)
    have hni : ∀ k' ∈ Jc0 lo al B p, base + k ≠ base + k' := by
      intro k' hk' e1
      have : k = k' := by omega
      subst this
      obtain ⟨r1, r2⟩ := (hinst k).1 hk'
      have := q2 (Jd0.1 r1).2.2.1
      rw [hgone, r2] at this; simp at this
    rw [hτ, hx.frame]
    · rw [Jgm _ _ _ hni]; exact hold
    · rw [Jq6]
      · exact h.rel.none_of hold
      · intro k' r1 r2 r3
        exact hni k' (by simpa using r3)
    · rintro (q | q)
      · exact hkp (by omega)
      · rw [(Jeh _ _).1] at q
        have := h.next; omega
  have hgn' : ∀ k, k < ops.size → pdn ops.size (fun j => D j || j == p) al lo B p' k = true → g' (base + k) = none := by
    intro k hk hpk
    have := hfree k hk (fun q => by rw [ht.excl (Jd0.1 hpk).2.2.1] at q; cases q) (fun _ => (Jd0.1 hpk).2.2.2)
    rw [hτ] at this
    exact hrel.none_of this
  have hle : ∀ S, Gam.le (gp base ops.size (pdn ops.size D al lo B p) H g S) (gp base ops.size (pdn ops.size (fun j => D j || j == p) al lo B p') H g' S) := by
    intro S A x hA
    rcases Jf2 hA with ⟨k, k1, k2, k3, rfl, rfl⟩ | hA
    · cases hb : bit B p k with
      | false => exact Kcn k1 ((hpd k).2 ⟨k2, hb⟩) k3
      | true =>
        rw [Jq6]
        · exact hx.le _ _ (Kcn k1 k2 (by simpa using (hinst k).2 ⟨k2, hb⟩))
        · intro k' _ r2 _ e1
          have : k = k' := by omega
          subst this
          rw [((hpd k).1 r2).2] at hb; cases hb
    · exact Jub hgn' _ _ (hlg _ _ hA)
  have hsep1 : ∀ k, pdn ops.size (fun j => D j || j == p) al lo B p' k = true → ∀ A x, gp base ops.size (pdn ops.size D al lo B p) H g (fun k => decide (k ∈ Jc0 lo al B p)) A = some x → x.block ≠ (H k).block := by
    intro k hk A x hA e1
    obtain ⟨hk1, hk2⟩ := (hpd k).1 hk
    rcases Jf2 hA with ⟨k', k1, k2, k3, rfl, rfl⟩ | hA
    · have := h.dist k' k k2 hk1 e1
      subst this
      have := (hinst k').1 (by simpa using k3)
      rw [hk2] at this; cases this.2
    · obtain ⟨_, _, _, _, r, _⟩ := h.pend k hk1
      exact r A x hA e1
  have hpl : ∀ k ∈ Jc0 lo al B p, pdn ops.size D al lo B p k = true := fun k hk => ((hinst k).1 hk).1
  refine ⟨p', hp', fun j a b => ?_, fun j a b => ?_, by rcases h3 with h3 | h3; exact .inl (by omega); exact .inr h3, by rw [hτ]; exact hrel, ?_, hfree, ?_, fun k hk => ?_, fun k k' hk hk' he => h.dist k k' ((hpd k).1 hk).1 ((hpd k').1 hk').1 he, fun t => ?_, ?_, ?_, ?_, ?_, h.old⟩
  · rcases Nat.lt_trichotomy j p with q | q | q
    · simp [h.below j q b]
    · simp [q]
    · rw [h4 j (by omega) a] at b; cases b
  · have hne : j ≠ p := by omega
    simp [h.above j (by omega) b, hne]
  · rw [hτ]
    refine (h.instExt hs ht _ hpl).trans (hx.mono fun A hA => ?_)
    rw [(Jeh _ _).1] at hA
    have := h.next
    rcases hA with hA | hA <;> omega
  · rw [hτ]
    refine Nat.le_trans ?_ hx.next
    rw [(Jeh _ _).1]; exact h.next
  · obtain ⟨hk1, hk2⟩ := (hpd k).1 hk
    obtain ⟨ob, o1, o2, o3, o4, o5⟩ := h.pend k hk1
    have hlt := (Array.getElem?_eq_some_iff.1 o1).1
    refine ⟨ob, ?_, o2, o3.mono (hle _), fun A x hA e1 => ?_, o5⟩
    · rw [hx.keep _ hlt fun A x hA e1 => (hsep1 k hk A x hA e1).elim]; exact o1
    · cases hg1 : gp base ops.size (pdn ops.size D al lo B p) H g (fun k => decide (k ∈ Jc0 lo al B p)) A with
      | some y =>
        have : y = x := Option.some.inj ((hx.le _ _ hg1).symm.trans hA)
        subst this
        exact hsep1 k hk A y hg1 e1
      | none =>
        rcases hx.fresh A x hA hg1 with q | ⟨A0, x0, r1, r2, _⟩
        · omega
        · exact hsep1 k hk A0 x0 r1 (r2.trans e1)
  · exact h.putSlot hs ht ho hni hd hle hlg (hv.mono (Jub hgn')) t
  · cases o.dst <;> exact h.defers
  · cases hdd : o.dst with
    | none => exact h.size
    | some d => simp [Act.put, h.size]
  · intro j oj q1 q2 ed he hb
    simp only [Bool.or_eq_true, beq_iff_eq] at q1 ⊢
    rcases q1 with q1 | rfl
    · exact .inl (h.closed j oj q1 q2 ed he hb)
    · rw [ho] at q2; cases q2; exact .inl (hr ed he hb)
  · intro j q1
    simp only [Bool.or_eq_true, beq_iff_eq] at q1
    rcases q1 with q1 | rfl
    · exact h.inn j q1
    · exact hp
theorem DInv.readAt (hs : Jc3 P ops B) (ht : Trc P gl ops base B e τ val ao lo al) (h : DInv Ds P gl N ops base B e τ val ao lo al g0 σ0 w0 D p g H a w) {i : Nat} {o : Oper} (ho : ops[i]? = some o) (hni : D i = false)
    (hr : ∀ ed ∈ o.after, Region.binds .any ed = true → D ed.on = true) (hl : lo i = false) (h0 : Jal P (rho (e i)) (base + i) o (τ i) = some (.val (val i) (τ i)))
    (hall : ∀ j, j < ops.size → lo j = true → bit B i j = false → bit B j i = false → Jal P (rho (e i)) (base + i) o (τ j) = some (.val (val i) (τ j)) ∧ Jal P (rho (e i)) (base + i) o (τ (j + 1)) = some (.val (val i) (τ (j + 1)))) :
    Jal P (rho (e i)) (base + i) o (τ p) = some (.val (val i) (τ p)) := by
  have hi : i < ops.size := (Array.getElem?_eq_some_iff.1 ho).1
  have hdown := hs.down h.closed i o ho hr
  rcases Nat.lt_or_ge i p with hip | hip
  · rcases Jt5 lo (p - i) i with q | ⟨m, m1, m2, m3, m4⟩
    · have := ht.between i (p - i) (by have := h.pn; omega) q
      rw [show i + (p - i) = p by omega] at this
      rw [this]; exact h0
    · have hmp : m < p := by omega
      have hD := h.below m hmp m3
      have hmn := h.inn m hD
      have hmi : m ≠ i := fun e1 => by subst e1; rw [hl] at m3; cases m3
      have hb1 : bit B m i = false := by
        cases hb : bit B m i with
        | false => rfl
        | true =>
          have := hs.down h.closed m _ (Array.getElem?_eq_getElem hmn) (h.closed m _ hD (Array.getElem?_eq_getElem hmn)) i hb
          rw [hni] at this; cases this
      have hb2 : bit B i m = false := by
        cases hb : bit B i m with
        | false => rfl
        | true => have := hs.lt i m hb; omega
      have h1 := (hall m hmn m3 hb2 hb1).2
      have := ht.between (m + 1) (p - (m + 1)) (by have := h.pn; omega) (fun j q1 q2 => m4 j (by omega) (by omega))
      rw [show m + 1 + (p - (m + 1)) = p by omega] at this
      rw [this]; exact h1
  · by_cases hpi : p = i
    · rw [hpi]; exact h0
    · have hlp : lo p = true := by
        rcases h.here with q | q
        · omega
        · exact q
      have hDp := h.above p (Nat.le_refl _) hlp
      have hb2 : bit B i p = false := by
        cases hb : bit B i p with
        | false => rfl
        | true => rw [hdown p hb] at hDp; cases hDp
      have hb1 : bit B p i = false := by
        cases hb : bit B p i with
        | false => rfl
        | true => have := hs.lt p i hb; omega
      exact (hall p (by omega) hlp hb2 hb1).1
theorem DInv.done (hs : Jc3 P ops B) (ht : Trc P gl ops base B e τ val ao lo al) (h : DInv Ds P gl N ops base B e τ val ao lo al g0 σ0 w0 D p g H a w) (hall : ∀ i, i < ops.size → D i = true) :
    ∃ g', Rel g' (Jdo base ao (Jde lo al B ops.size) (τ ops.size)) w ∧ Jco Ds g' N (e ops.size) a ∧ Ext (fun A => base ≤ A) g0 g' σ0 (Jdo base ao (Jde lo al B ops.size) (τ ops.size)) w0 w := by
  have hp : p = ops.size := by
    rcases h.here with q | q
    · exact q
    · have h1 := h.above p (Nat.le_refl _) q
      rcases Nat.lt_or_ge p ops.size with h2 | h2
      · rw [hall p h2] at h1; cases h1
      · have := h.pn; omega
  subst hp
  have hmem : ∀ k, k ∈ Jde lo al B ops.size ↔ pdn ops.size D al lo B ops.size k = true := by
    intro k
    simp only [Jde, List.mem_filter, List.mem_range, Bool.and_eq_true, Bool.not_eq_true', Jd0]
    constructor
    · rintro ⟨q1, q2, q3⟩; exact ⟨q1, hall k q1, q2, q3⟩
    · rintro ⟨q1, q2, q3, q4⟩; exact ⟨q1, q3, q4⟩
  have hgn : ∀ k, k < ops.size → pdn ops.size D al lo B ops.size k = true → g (base + k) = none := fun k hk hp => h.gnone ht hk hp
  refine ⟨_, h.install hs ht _ (fun k hk => (hmem k).1 hk) ?_ (fun k _ k' hk' _ => (hmem k').2 hk'), ?_, h.instExt hs ht _ (fun k hk => (hmem k).1 hk)⟩
  · unfold Jde
    exact List.Pairwise.filter _ List.pairwise_lt_range
  · refine ⟨h.defers, h.size, fun t => ?_⟩
    rcases Joa ht t ops.size (Nat.le_refl _) with ⟨k, o, h1, h2, h3, h4, h5⟩ | ⟨h1, h2⟩
    · rcases h.slot t with ⟨j, oj, q1, q2, q3, q4, q5⟩ | ⟨q1, _⟩
      · have hkj := q4 k o (hall k h1) h2 h3
        have hjk := h4 j oj (h.inn j q1) q2 q3
        have : j = k := by omega
        subst this
        rw [h5]
        exact q5.mono (Jlg hgn fun k hk _ => by simpa using (hmem k).2 hk)
      · exact (q1 k o (hall k h1) h2 h3).elim
    · rcases h.slot t with ⟨j, oj, q1, q2, q3, _⟩ | ⟨_, q2⟩
      · exact (h1 j oj (h.inn j q1) q2 q3).elim
      · rw [h2]; exact q2.mono (Jub hgn)
theorem DInv.congr {D' : Nat → Bool} (h : DInv Ds P gl N ops base B e τ val ao lo al g0 σ0 w0 D p g H a w) (hD : ∀ i, D i = D' i) : DInv Ds P gl N ops base B e τ val ao lo al g0 σ0 w0 D' p g H a w := by
  have : D = D' := funext hD
  rwa [← this]
theorem Ksh {gl : List Nat} {N : Nat} {o : Oper} (h : Jfj gl N o = true) : ∀ d, o.dst = some d → d < N := by
  intro d hd
  simp only [Jfj, Bool.and_eq_true] at h
  rw [hd] at h
  simpa using h.2
theorem Knw (hs : Jc3 P ops B) (ht : Trc P gl ops base B e τ val ao lo al) (hg0 : Glob gl g0) (hok : ∀ o ∈ ops.toList, Jfj gl N o = true ∧ Jef ops N o = true) {Q : Exit → Act → World → Prop}
    (k : ∀ a w g', Rel g' (Jdo base ao (Jde lo al B ops.size) (τ ops.size)) w → Jco Ds g' N (e ops.size) a → Ext (fun A => base ≤ A) g0 g' σ0 (Jdo base ao (Jde lo al B ops.size) (τ ops.size)) w0 w → Q .normal a w) :
    ∀ (fuel : Nat) (listed : Array Bool) (p : Nat) (g : Gam) (H : Nat → CA) (a : Act) (w : World), listed.size = ops.size → (List.range ops.size).countP (fun i => !listed.getD i false) ≤ fuel →
      DInv Ds P gl N ops base B e τ val ao lo al g0 σ0 w0 (fun i => listed.getD i false) p g H a w → wpAny P .any ops Q fuel listed a w := by
  have hfin : ∀ (listed : Array Bool) (p : Nat) (g : Gam) (H : Nat → CA) (a : Act) (w : World), listed.size = ops.size → (∀ i, i < ops.size → listed.getD i false = true) →
      DInv Ds P gl N ops base B e τ val ao lo al g0 σ0 w0 (fun i => listed.getD i false) p g H a w → Q .normal a w := by
    intro listed p g H a w hsz hall h
    obtain ⟨g', r1, r2, r3⟩ := h.done hs ht hall
    exact k a w g' r1 r2 r3
  have hready : ∀ (listed : Array Bool), listed.size = ops.size → Region.ready .any ops listed = [] → ∀ i, i < ops.size → listed.getD i false = true := by
    intro listed hsz hre i
    induction i using Nat.strongRecOn with
    | _ i ih =>
      intro hi
      cases hli : listed.getD i false with
      | true => rfl
      | false =>
        have : i ∈ Region.ready .any ops listed := by
          refine mem_ready.2 ⟨?_, ops[i], Array.getElem?_eq_getElem hi, fun ed he hb => ?_⟩
          · have : i < listed.size := by omega
            simp [this] at hli ⊢; exact hli
          · have := hs.edge i _ (Array.getElem?_eq_getElem hi) ed he hb
            exact ih _ this (by omega)
        rw [hre] at this; cases this
  intro fuel
  induction fuel with
  | zero =>
    intro listed p g H a w hsz hm h
    have hall : ∀ i, i < ops.size → listed.getD i false = true := by
      intro i hi
      have h0 : (List.range ops.size).countP (fun i => !listed.getD i false) = 0 := by omega
      rw [List.countP_eq_zero] at h0
      have := h0 i (List.mem_range.2 hi)
      simpa using this
    refine ⟨?_, hfin listed p g H a w hsz hall h⟩
    cases hre : Region.ready .any ops listed with
    | nil => rfl
    | cons i r =>
      have : i ∈ Region.ready .any ops listed := by rw [hre]; exact List.mem_cons_self
      obtain ⟨h1, o, h2, _⟩ := mem_ready.1 this
      have hi : i < ops.size := (Array.getElem?_eq_some_iff.1 h2).1
      have h3 := hall i hi
      have : i < listed.size := by omega
      simp [this] at h1 h3
      rw [h1] at h3; cases h3
  | succ fuel ih =>
    intro listed p g H a w hsz hm h
    refine ⟨fun hre => hfin listed p g H a w hsz (hready listed hsz hre) h, fun i hi => ?_⟩
    obtain ⟨h1, o, ho, hr⟩ := mem_ready.1 hi
    have hin : i < ops.size := (Array.getElem?_eq_some_iff.1 ho).1
    have hlt : i < listed.size := by omega
    have hni : (fun i => listed.getD i false) i = false := by simp [hlt] at h1 ⊢; exact h1
    have hD' : ∀ j, ((fun i => listed.getD i false) j || j == i) = (listed.setIfInBounds i true).getD j false := by
      intro j
      by_cases hj : i = j
      · subst hj; simp [hlt]
      · rw [getD_set_ne false hj]; simp; exact fun e1 => (hj e1.symm).elim
    have hsz' : (listed.setIfInBounds i true).size = ops.size := by simp [hsz]
    have hm' : (List.range ops.size).countP (fun j => !(listed.setIfInBounds i true).getD j false) ≤ fuel := by
      have := Juk (p := fun j => !(listed.setIfInBounds i true).getD j false) (q := fun j => !listed.getD j false) (fun x hx => by
        have := hD' x
        simp only [Bool.not_eq_true'] at hx ⊢
        rw [hx] at this
        simp only [Bool.or_eq_false_iff] at this
        exact this.1) (i := i) (by simpa using hni) (by have := hD' i; rw [← this]; simp) (List.range ops.size) (List.mem_range.2 hin)
      omega
    have next : ∀ p g H a w, DInv Ds P gl N ops base B e τ val ao lo al g0 σ0 w0 (fun j => (fun i => listed.getD i false) j || j == i) p g H a w → wpAny P .any ops Q fuel (listed.setIfInBounds i true) a w :=
      fun p g H a w hh => ih _ p g H a w hsz' hm' (hh.congr hD')
    obtain ⟨hok1, hok2⟩ := hok o (by rw [Array.mem_toList_iff]; exact Array.mem_of_getElem? ho)
    have hd := Ksh hok1
    have hwt := h.wanted hs ht ho hni hr hok2
    have hgn : ∀ k, k < ops.size → pdn ops.size (fun i => listed.getD i false) al lo B p k = true → g (base + k) = none := fun k hk hp => h.gnone ht hk hp
    have hρ := h.opnds hs ht hg0 ho hni hr hok1
    unfold wpOp
    rw [ho]
    simp only [hwt]
    rcases ht.step i o ho with ⟨s1, s2, s3, s4, s5⟩ | ⟨s1, s2, s3, s4, s5⟩ | ⟨s1, s2, s3, s4, s5⟩ | ⟨s1, s2, s3, s4, s5, s6, s7⟩ | ⟨s1, s2, s3, ρ, hρe, s4⟩
    · rw [s1]
      refine next _ _ _ _ _ (h.quiet hs ht ho hni hr hd s3 s4 ?_)
      rw [s2]; exact .tuple _ _ rfl fun i h => by simp at h
    · rw [s1, if_pos rfl]
      left
      obtain ⟨v', e1, hv⟩ := s5 _ a.eval w hρ
      unfold Oper.wp
      rw [e1]
      exact next _ _ _ _ _ (h.quiet hs ht ho hni hr hd s2 s3 hv)
    · rw [s1, if_pos rfl]
      left
      obtain ⟨ob, n, v', w1, q1, q2, q3, q4, e1, hv, hn⟩ := s5.2 _ a.eval w hρ
      unfold Oper.wp
      rw [e1]
      exact next _ _ _ _ _ (h.alloc hs ht ho hni hr hd s2 s3 q1 q2 q3 q4 hv hn)
    · rw [s1, if_pos rfl]
      left
      have hat := h.readAt hs ht ho hni hr s2 s6 s7
      obtain ⟨v, q1, q2⟩ := Jj6 s5 hat
      cases q1
      obtain ⟨v', e1, hv⟩ := q2 g _ a.eval w h.rel (fun A x hA hne => by
        rcases Jf2 hA with ⟨k, k1, k2, k3, rfl, rfl⟩ | hA
        · obtain ⟨_, r2, r3, r4⟩ := Jd0.1 k2
          exact (hne (h.free k k1 (fun hl => by rw [ht.excl r3] at hl; cases hl) (fun _ => r4))).elim
        · exact hA) hρ
      unfold Oper.wp
      rw [e1]
      exact next _ _ _ _ _ (h.quiet hs ht ho hni hr hd s2 s3 (hv.mono (Jub hgn)))
    · rw [s1, if_pos rfl]
      left
      have hip : i = p := by
        have hge : p ≤ i := by
          rcases Nat.lt_or_ge i p with q | q
          · exact absurd (h.below i q s2) (by simp only [hni]; simp)
          · exact q
        rcases Nat.lt_or_ge p i with q | q
        · have hlp : lo p = true := by
            rcases h.here with r | r
            · omega
            · exact r
          have hDp := h.above p (Nat.le_refl _) hlp
          obtain ⟨o2, r1, r2⟩ := ht.loud p hlp
          obtain ⟨o3, r3, r4⟩ := ht.loud i s2
          rcases hs.louds i o3 p o2 r3 r1 (by omega) r4 r2 with b | b
          · have := hs.down h.closed i o ho hr p b
            rw [hDp] at this; cases this
          · have := hs.lt p i b; omega
        · omega
      subst hip
      have hdown := hs.down h.closed i o ho hr
      have hinst : ∀ k, k ∈ Jc0 lo al B i ↔ pdn ops.size (fun i => listed.getD i false) al lo B i k = true ∧ bit B i k = true := by
        intro k
        simp only [Jc0, List.mem_filter, List.mem_range, Bool.and_eq_true, Bool.not_eq_true', Jd0]
        constructor
        · rintro ⟨q1, ⟨q2, q3⟩, q4⟩
          exact ⟨⟨by omega, hdown k q3, q2, q4⟩, q3⟩
        · rintro ⟨⟨q1, q2, q3, q4⟩, q5⟩
          exact ⟨hs.lt i k q5, ⟨q3, q5⟩, q4⟩
      have hpl := fun k hk => ((hinst k).1 hk).1
      have hrel := h.install hs ht (Jc0 lo al B i) hpl (by unfold Jc0; exact List.Pairwise.filter _ List.pairwise_lt_range) (fun k hk k' hk' hb => (hinst k').2 ⟨hk', hs.tr i k k' ((hinst k).1 hk).2 hb⟩)
      have hex := h.instExt hs ht (Jc0 lo al B i) hpl
      have hal : al i = false := s3
      refine s4.wp (hg0.mono hex.le) hrel ?_ ?_ (fun x hx => by rw [hρe x hx]; exact (hρ x hx).mono (Jlg hgn fun k hk hb => by simpa using (hinst k).2 ⟨hk, hb⟩)) fun v' w' g' r1 r2 r3 => ?_
      · rw [Jgm]
        · exact h.free i hin (fun _ => Nat.le_refl _) (fun q => by rw [hal] at q; cases q)
        · intro k hk e1
          have := hs.lt i k ((hinst k).1 hk).2
          omega
      · rw [(Jeh _ _).1]; have := h.next; omega
      · obtain ⟨p', hp'⟩ := h.loud hs ht ho hni hr hd s2 r1 r2 r3
        exact next _ _ _ _ _ hp'
end inv
theorem Jth {P : Program} {gl : List Nat} {N : Nat} (hm : P.follows .mixedOrders = true) {id : Nat} {ops : Array Oper} {B : List Nat} {e : Nat → Env} {τ : Nat → St} {val : Nat → Value} {ao : Nat → AObj} {lo al : Nat → Bool} {env : Env} {σ : St}
    (hs : Jc3 P ops B) (ht : Trc P gl ops σ.next B e τ val ao lo al) (h0 : e 0 = env) (hτ : τ 0 = σ.bump ops.size) (hok : ∀ o ∈ ops.toList, Jfj gl N o = true ∧ Jef ops N o = true) :
    SimC P gl N (.region id ops true) env σ .normal (e ops.size) (Jdo σ.next ao (Jde lo al B ops.size) (τ ops.size)) := by
  intro Ds g w a hg hr he
  refine wp_region_any hm ?_
  obtain ⟨p, h1, h2, h3, h4⟩ := Jnw lo ops.size 0
  have hτp : τ p = σ.bump ops.size := by
    have := ht.between 0 p (by omega) (fun j a b => h4 j a (by omega))
    rw [Nat.zero_add] at this
    rw [this, hτ]
  have hF : ∀ i, (Array.replicate ops.size false).getD i false = false := by
    intro i
    simp only [Array.getD_eq_getD_getElem?, Array.getElem?_replicate]
    split <;> rfl
  have hpd : ∀ k, pdn ops.size (fun i => (Array.replicate ops.size false).getD i false) al lo B p k = false := by
    intro k; simp only [pdn, hF]; simp
  refine Knw (g0 := g) (σ0 := σ) (w0 := w) hs ht hg hok (fun a' w' g' r1 r2 r3 => ⟨rfl, g', r1, r2, r3⟩) ops.size (Array.replicate ops.size false) p g (fun _ => ⟨0, 0, 0⟩) a _ (by simp) ?_ ?_
  · exact Nat.le_trans List.countP_le_length (by simp)
  · refine ⟨by omega, fun j q1 q2 => (by rw [h4 j (by omega) q1] at q2; cases q2), fun j _ _ => hF j, (by rcases h3 with h3 | h3; exact .inl (by omega); exact .inr h3), ?_, ?_, fun k _ _ _ => ?_, ?_, fun k hk => (by rw [hpd] at hk; cases hk), fun k k' hk => (by rw [hpd] at hk; cases hk), fun t => .inr ⟨fun i o hi => (by simp only [hF] at hi; cases hi), ?_⟩, he.defers, he.size, fun i o hi => (by simp only [hF] at hi; cases hi), fun i hi => (by simp only [hF] at hi; cases hi), fun x hx => by obtain ⟨⟨t, fr, e⟩, _⟩ := hr.tab x hx; exact (Array.getElem?_eq_some_iff.1 e).1⟩
    · rw [hτp]; exact (hr.bump _).heap rfl
    · rw [hτp]; exact (Ext.bump g σ w _).trans (Ext.heap rfl rfl rfl rfl)
    · rw [hτp]
      cases e1 : (σ.bump ops.size).get (σ.next + k) with
      | none => rfl
      | some ob => have := hr.wf.lt _ ob e1; omega
    · rw [hτp]; exact Nat.le_refl _
    · rw [h0]; exact he.slot t
def Juo : List Oper → List Nat → List Nat
  | [], B => B
  | o :: l, B => Juo l (B ++ [Kba B o.after.toList])
def Jdi (ops : Array Oper) : List Nat := Juo ops.toList []
def Ke2 (o : Oper) (i : Nat) (B : List Nat) : Bool := o.after.toList.all (fun e => !Region.binds .any e || decide (e.on < i)) && B.getD i 0 == Kba B o.after.toList
def Ka1 (P : Program) (ops : Array Oper) (B : List Nat) (i : Nat) (o : Oper) (k : Nat) (ok : Oper) : Bool :=
  k == i || bit B i k || bit B k i || !((match ok.dst with | some d => (o.looksAt ops).contains d || o.dst == some d | none => false) || (decide (Jac P o.op = .loud) && decide (Jac P ok.op = .loud)))
def Jqy (P : Program) (ops : Array Oper) (B : List Nat) : Bool :=
  B.length == ops.size && ops.toList.zipIdx.all (fun x => Ke2 x.1 x.2 B && ops.toList.zipIdx.all (fun y => Ka1 P ops B x.2 x.1 y.2 y.1))
theorem Job (B : List Nat) (j : Nat) : ∀ (l : List Edge) (s : Nat), (s.testBit j = true ∨ ∃ e ∈ l, Region.binds .any e = true ∧ (e.on = j ∨ bit B e.on j = true)) →
    (l.foldl (fun s e => if Region.binds .any e then s ||| 2 ^ e.on ||| B.getD e.on 0 else s) s).testBit j = true
  | [], s, h => by
    rcases h with h | ⟨e, h, _⟩
    · exact h
    · cases h
  | e :: l, s, h => by
    rw [List.foldl_cons]
    refine Job B j l _ ?_
    rcases h with h | ⟨e', h1, h2, h3⟩
    · left
      split
      · rw [Nat.testBit_or, Nat.testBit_or, h]; rfl
      · exact h
    · cases h1 with
      | head =>
        left
        rw [if_pos h2, Nat.testBit_or, Nat.testBit_or, Nat.testBit_two_pow]
        rcases h3 with h3 | h3
        · simp [h3]
        · simp only [bit] at h3; rw [h3]; simp
      | tail _ h1 => exact .inr ⟨e', h1, h2, h3⟩
theorem Jtz {P : Program} {ops : Array Oper} {B : List Nat} (h : Jqy P ops B = true) : Jc3 P ops B := by
  simp only [Jqy, Bool.and_eq_true, List.all_eq_true, beq_iff_eq] at h
  obtain ⟨hlen, hall⟩ := h
  have mem : ∀ (i : Nat) (o : Oper), ops[i]? = some o → (o, i) ∈ ops.toList.zipIdx := by
    intro i o ho
    rw [List.mem_zipIdx_iff_getElem?]
    simpa using ho
  have hE := fun i o (ho : ops[i]? = some o) => (hall _ (mem i o ho)).1
  have hP := fun i o k ok (ho : ops[i]? = some o) (hk : ops[k]? = some ok) => (hall _ (mem i o ho)).2 _ (mem k ok hk)
  simp only [Ke2, Bool.and_eq_true, List.all_eq_true, Bool.or_eq_true, Bool.not_eq_true', decide_eq_true_eq, beq_iff_eq] at hE
  have edge : ∀ i o, ops[i]? = some o → ∀ e ∈ o.after, Region.binds .any e = true → e.on < i := by
    intro i o ho e he hb
    rcases (hE i o ho).1 e (by simpa using he) with q | q
    · rw [hb] at q; cases q
    · exact q
  have ex : ∀ i o j, ops[i]? = some o → bit B i j = true → ∃ e ∈ o.after, Region.binds .any e = true ∧ (e.on = j ∨ bit B e.on j = true) := by
    intro i o j ho hb
    unfold bit at hb
    rw [(hE i o ho).2] at hb
    rcases Joc B j _ _ hb with q | ⟨e, q1, q2⟩
    · simp at q
    · exact ⟨e, by simpa using q1, q2⟩
  have inn : ∀ i o j, ops[i]? = some o → (∃ e ∈ o.after, Region.binds .any e = true ∧ (e.on = j ∨ bit B e.on j = true)) → bit B i j = true := by
    rintro i o j ho ⟨e, q1, q2⟩
    unfold bit
    rw [(hE i o ho).2]
    exact Job B j _ _ (.inr ⟨e, by simpa using q1, q2⟩)
  have out : ∀ i j, ops.size ≤ i → bit B i j = false := by
    intro i j hi
    unfold bit
    have : B.getD i 0 = 0 := by rw [List.getD_eq_getElem?_getD, List.getElem?_eq_none (by omega)]; rfl
    rw [this]; simp
  refine ⟨edge, ex, out, ?_, fun i o k ok d ho hk hne hd hl => ?_, fun i o k ok d ho hk hne hd hl => ?_, fun i o k ok ho hk hne h1 h2 => ?_⟩
  · intro i
    induction i using Nat.strongRecOn with
    | _ i ih =>
      intro j k h1 h2
      have hi : i < ops.size := by
        rcases Nat.lt_or_ge i ops.size with q | q
        · exact q
        · rw [out i j q] at h1; cases h1
      have ho : ops[i]? = some ops[i] := Array.getElem?_eq_getElem hi
      obtain ⟨e, he, hb, h3⟩ := ex i _ j ho h1
      refine inn i _ k ho ⟨e, he, hb, .inr ?_⟩
      rcases h3 with rfl | h3
      · exact h2
      · exact ih e.on (edge i _ ho e he hb) j k h3 h2
  · have := hP i o k ok ho hk
    simp only [Ka1, hd, Bool.or_eq_true, beq_iff_eq, Bool.not_eq_true', Bool.or_eq_false_iff] at this
    rcases this with ((q | q) | q) | q
    · exact (hne q).elim
    · exact .inl q
    · exact .inr q
    · have := q.1.1
      rw [List.contains_eq_mem] at this
      simp at this
      exact (this hl).elim
  · have := hP i o k ok ho hk
    simp only [Ka1, hd, Bool.or_eq_true, beq_iff_eq, Bool.not_eq_true', Bool.or_eq_false_iff] at this
    rcases this with ((q | q) | q) | q
    · exact (hne q).elim
    · exact .inl q
    · exact .inr q
    · have := q.1.2
      rw [hl] at this
      simp at this
  · have := hP i o k ok ho hk
    simp only [Ka1, Bool.or_eq_true, beq_iff_eq, Bool.not_eq_true', Bool.or_eq_false_iff, h1, h2] at this
    rcases this with ((q | q) | q) | q
    · exact (hne q).elim
    · exact .inl q
    · exact .inr q
    · have := q.2; simp at this
structure TRow where
  v : Value
  k : Nat
  ao : AObj
  env : Env
  st : St
def rlo (R : List TRow) (i : Nat) : Bool := match R[i]? with | some r => r.k == 4 | none => false
def ral (R : List TRow) (i : Nat) : Bool := match R[i]? with | some r => r.k == 2 | none => false
def rval (R : List TRow) (i : Nat) : Value := match R[i]? with | some r => r.v | none => undef
def rao (R : List TRow) (i : Nat) : AObj := match R[i]? with | some r => r.ao | none => .iter .empty 0
def renv (R : List TRow) (env : Env) (i : Nat) : Env := match R[i]? with | some r => r.env | none => env
def rst (R : List TRow) (σ : St) (i : Nat) : St := match R[i]? with | some r => r.st | none => σ
theorem Jq7 {lo lo' : Nat → Bool} {B : List Nat} {p : Nat} (h : ∀ j, j < p → lo j = lo' j) (k : Nat) : gone lo B p k = gone lo' B p k := by
  rw [Bool.eq_iff_iff, Jn1, Jn1]
  constructor
  · rintro ⟨j, a, b, c⟩; exact ⟨j, a, by rw [← h j a]; exact b, c⟩
  · rintro ⟨j, a, b, c⟩; exact ⟨j, a, by rw [h j a]; exact b, c⟩
theorem Jl5 {lo lo' al al' : Nat → Bool} {B : List Nat} {p : Nat} (h : ∀ j, j < p → lo j = lo' j) (h2 : ∀ j, j < p → al j = al' j) : Jc0 lo al B p = Jc0 lo' al' B p := by
  unfold Jc0
  refine List.filter_congr fun k hk => ?_
  rw [h2 k (List.mem_range.1 hk), Jq7 h]
theorem Jj2 {base : Nat} {ao ao' : Nat → AObj} : ∀ (l : List Nat) (σ : St), (∀ k ∈ l, ao k = ao' k) → Jdo base ao l σ = Jdo base ao' l σ
  | [], σ, h => rfl
  | k :: l, σ, h => by
    have := Jj2 (base := base) (ao := ao) (ao' := ao') l (σ.set (base + k) (ao k)) (fun k' hk' => h k' (List.mem_cons_of_mem _ hk'))
    simp only [Jdo, List.foldl_cons] at this ⊢
    rw [this, h k List.mem_cons_self]
mutual
def Jjp (P : Program) : Nat → TypeId → DataW Unit → Option (List Value)
  | 0, _, _ => none
  | f + 1, t, d => match P.underlying t, d with
    | some .bool, .lit (.bool b) => some [.bool b]
    | some (.int k), .lit (.int k' n) => if k' = k then some [.int k n] else none
    | some .string, .lit (.string s) => some [.string ⟨s.toArray⟩]
    | some (.struct fs), .agg ds => Jcz P f fs.toList ds 0 (P.cellsOf t)
    | some (.array n e), .agg ds => if ds.length = n ∧ P.cellsOf t = n * P.cellsOf e then Jep P f e (P.cellsOf e) ds else none
    | _, _ => none
def Jcz (P : Program) : Nat → List Field → List (DataW Unit) → Nat → Nat → Option (List Value)
  | 0, _, _, _, _ => none
  | f + 1, [], [], off, tot => if off = tot then some [] else none
  | f + 1, x :: fs, d :: ds, off, tot => if x.offset = off then match Jjp P f x.type d, Jcz P f fs ds (off + P.cellsOf x.type) tot with
      | some c, some r => if c.length = P.cellsOf x.type then some (c ++ r) else none
      | _, _ => none
    else none
  | _, _, _, _, _ => none
def Jep (P : Program) : Nat → TypeId → Nat → List (DataW Unit) → Option (List Value)
  | 0, _, _, _ => none
  | f + 1, e, s, [] => some []
  | f + 1, e, s, d :: ds => match Jjp P f e d, Jep P f e s ds with
    | some c, some r => if c.length = s then some (c ++ r) else none
    | _, _ => none
end
theorem Jju {α β : Type} {f : α → Option β} {a : α} {l : List α} {xs : List β} (h : (a :: l).mapM f = some xs) : ∃ y ys, xs = y :: ys ∧ f a = some y ∧ l.mapM f = some ys := by
  simp only [List.mapM_cons] at h
  cases hy : f a with
  | none => rw [hy] at h; cases h
  | some y =>
    rw [hy] at h
    cases hl : l.mapM f with
    | none => rw [hl] at h; cases h
    | some ys => rw [hl] at h; cases h; exact ⟨y, ys, rfl, rfl, rfl⟩
theorem Jte {P : Program} {w : World} {sp : Nat → Bool} {held : Bool} : ∀ (f : Nat),
    (∀ (t : TypeId) (d : DataW Unit) (cs' cs : List Value) (fuel : Nat) (p : List MemPlace), Jjp P f t d = some cs' → DataW.trod (fun _ => ()) P w 0 sp held fuel t cs = some (d, p) → cs = cs') ∧
    (∀ (fs : List Field) (ds : List (DataW Unit)) (off tot : Nat) (r cs : List Value) (fuel : Nat) (xs : List (DataW Unit × List MemPlace)), Jcz P f fs ds off tot = some r → cs.length = tot → off ≤ tot →
      (fs.mapM fun g => DataW.trod (fun _ => ()) P w 0 sp held fuel g.type ((cs.drop g.offset).take (P.cellsOf g.type))) = some xs → xs.map (·.1) = ds → cs.drop off = r) ∧
    (∀ (e : TypeId) (s : Nat) (ds : List (DataW Unit)) (k : Nat) (r cs : List Value) (fuel : Nat) (xs : List (DataW Unit × List MemPlace)), Jep P f e s ds = some r → cs.length = (k + ds.length) * s →
      ((List.range' k ds.length).mapM fun i => DataW.trod (fun _ => ()) P w 0 sp held fuel e ((cs.drop (i * s)).take s)) = some xs → xs.map (·.1) = ds → cs.drop (k * s) = r)
  | 0 => ⟨fun _ _ _ _ _ _ h => by simp [Jjp] at h, fun _ _ _ _ _ _ _ _ h => by simp [Jcz] at h, fun _ _ _ _ _ _ _ _ h => by simp [Jep] at h⟩
  | f + 1 => by
    obtain ⟨ih1, ih2, ih3⟩ := Jte (P := P) (w := w) (sp := sp) (held := held) f
    refine ⟨fun t d cs' cs fuel p h1 h2 => ?_, fun fs ds off tot r cs fuel xs h1 hlen hle h2 h3 => ?_, fun e s ds k r cs fuel xs h1 hlen h2 h3 => ?_⟩
    · cases fuel with
      | zero => simp [DataW.trod] at h2
      | succ fuel =>
        unfold Jjp at h1
        unfold DataW.trod at h2
        split at h1
        · rename_i b hu
          rw [hu] at h2
          split at h2 <;> simp_all
        · rename_i k k' n hu
          rw [hu] at h2
          split at h1
          · cases h1
            split at h2 <;> simp_all
          · cases h1
        · rename_i s hu
          rw [hu] at h2
          split at h2 <;> simp_all
          obtain ⟨_, e1, _⟩ := h2
          subst e1
          first
            | exact h1
            | (rw [← h1]; done)
            | (rw [← h1]; simp)
        · rename_i fs ds hu
          rw [hu] at h2
          simp only at h2
          split at h2
          · rename_i hl
            simp only [Option.map_eq_some_iff, Prod.mk.injEq] at h2
            obtain ⟨xs, hx, e1, _⟩ := h2
            have := ih2 _ _ _ _ _ cs fuel xs h1 hl (Nat.zero_le _) hx (by injection e1)
            simpa using this
          · cases h2
        · rename_i n e ds hu
          rw [hu] at h2
          simp only at h2
          split at h1
          · rename_i hc
            split at h2
            · rename_i hl
              simp only [Option.map_eq_some_iff, Prod.mk.injEq] at h2
              obtain ⟨xs, hx, e1, _⟩ := h2
              rw [List.range_eq_range', ← hc.1] at hx
              have := ih3 e (P.cellsOf e) ds 0 _ cs fuel xs h1 (by rw [hl, hc.2, hc.1, Nat.zero_add]) hx (by injection e1)
              simpa using this
            · cases h2
          · cases h1
        · cases h1
    · cases fs with
      | nil =>
        cases ds with
        | nil =>
          simp only [Jcz] at h1
          split at h1
          · rename_i e1; cases h1; subst e1; rw [List.drop_eq_nil_of_le (by omega)]
          · cases h1
        | cons d ds => simp [Jcz] at h1
      | cons x fs =>
        cases ds with
        | nil => simp [Jcz] at h1
        | cons d ds =>
          simp only [Jcz] at h1
          split at h1
          · rename_i hoff
            split at h1
            · rename_i c r' hc hr
              split at h1
              · rename_i hcl
                cases h1
                obtain ⟨y, ys, e1, e2, e3⟩ := Jju h2
                subst e1
                simp only [List.map_cons, List.cons.injEq] at h3
                obtain ⟨y1, y2⟩ := y
                obtain ⟨rfl, h3⟩ := h3
                have q1 := ih1 _ _ _ _ _ _ hc e2
                rw [hoff] at q1
                have hlen2 : (List.take (P.cellsOf x.type) (List.drop off cs)).length = P.cellsOf x.type := by rw [q1]; exact hcl
                simp only [List.length_take, List.length_drop] at hlen2
                have q2 := ih2 fs ds (off + P.cellsOf x.type) tot _ cs fuel ys hr hlen (by omega) e3 h3
                rw [← q1, ← q2, ← List.drop_drop, List.take_append_drop]
              · cases h1
            · cases h1
          · cases h1
    · cases ds with
      | nil =>
        simp only [Jep] at h1
        cases h1
        rw [List.drop_eq_nil_of_le (by simp at hlen; omega)]
      | cons d ds =>
        simp only [Jep] at h1
        split at h1
        · rename_i c r' hc hr
          split at h1
          · rename_i hcl
            cases h1
            simp only [List.length_cons, List.range'_succ] at h2
            obtain ⟨y, ys, e1, e2, e3⟩ := Jju h2
            subst e1
            simp only [List.map_cons, List.cons.injEq] at h3
            obtain ⟨y1, y2⟩ := y
            obtain ⟨rfl, h3⟩ := h3
            have q1 := ih1 _ _ _ _ _ _ hc e2
            have q2 := ih3 e s ds (k + 1) _ cs fuel ys hr (by rw [hlen]; simp [Nat.add_assoc, Nat.add_comm 1]) e3 h3
            rw [← q1, ← q2, Nat.add_mul, Nat.one_mul, ← List.drop_drop, List.take_append_drop]
          · cases h1
        · cases h1
theorem Jn3 {P : Program} : ∀ (f : Nat),
    (∀ (t : TypeId) (d : DataW Unit) (cs : List Value), Jjp P f t d = some cs → ∀ v ∈ cs, Ja5 v = true) ∧
    (∀ (fs : List Field) (ds : List (DataW Unit)) (off tot : Nat) (cs : List Value), Jcz P f fs ds off tot = some cs → ∀ v ∈ cs, Ja5 v = true) ∧
    (∀ (e : TypeId) (s : Nat) (ds : List (DataW Unit)) (cs : List Value), Jep P f e s ds = some cs → ∀ v ∈ cs, Ja5 v = true)
  | 0 => ⟨fun _ _ _ h => by simp [Jjp] at h, fun _ _ _ _ _ h => by simp [Jcz] at h, fun _ _ _ _ h => by simp [Jep] at h⟩
  | f + 1 => by
    obtain ⟨ih1, ih2, ih3⟩ := Jn3 (P := P) f
    refine ⟨fun t d cs h v hv => ?_, fun fs ds off tot cs h v hv => ?_, fun e s ds cs h v hv => ?_⟩
    · unfold Jjp at h
      split at h
      · cases h; simp at hv; subst hv; rfl
      · split at h
        · cases h; simp at hv; subst hv; rfl
        · cases h
      · cases h; simp at hv; subst hv; rfl
      · exact ih2 _ _ _ _ _ h v hv
      · split at h
        · exact ih3 _ _ _ _ h v hv
        · cases h
      · cases h
    · cases fs with
      | nil =>
        cases ds with
        | nil => simp only [Jcz] at h; split at h <;> cases h; cases hv
        | cons d ds => simp [Jcz] at h
      | cons x fs =>
        cases ds with
        | nil => simp [Jcz] at h
        | cons d ds =>
          simp only [Jcz] at h
          split at h
          · split at h
            · rename_i c r hc hr
              split at h
              · cases h
                rcases List.mem_append.1 hv with q | q
                · exact ih1 _ _ _ hc v q
                · exact ih2 _ _ _ _ _ hr v q
              · cases h
            · cases h
          · cases h
    · cases ds with
      | nil => simp only [Jep] at h; cases h; cases hv
      | cons d ds =>
        simp only [Jep] at h
        split at h
        · rename_i c r hc hr
          split at h
          · cases h
            rcases List.mem_append.1 hv with q | q
            · exact ih1 _ _ _ hc v q
            · exact ih3 _ _ _ _ hr v q
          · cases h
        · cases h
def Kpu (P : Program) (f : Nat) (x : String × DataW Unit) : Option (Nat × List Value) :=
  match P.globalNamed x.1 with
  | some g => match (P.globals[g]?).map (·.type) with
    | some t => (Jjp P f t x.2).map fun cs => (g, cs)
    | none => none
  | none => none
def Jr0 (P : Program) (f : Nat) (l : List (String × DataW Unit)) : List (Nat × List Value) := l.filterMap (Kpu P f)
theorem Jq2 {P : Program} {w : World} : ∀ {l : List (String × DataW Unit)} {ps : List MemPlace}, DataW.LaidVars P w l ps → ∀ x ∈ l, ∃ g t cs fuel p, P.globalNamed x.1 = some g ∧ (P.globals[g]?).map (·.type) = some t ∧ w.var? P x.1 = some cs ∧
    DataW.trod (fun _ => ()) P w 0 (fun _ => true) false fuel t cs.toList = some (x.2, p)
  | [], _, _, x, hx => by cases hx
  | (n, d) :: r, ps, h, x, hx => by
    obtain ⟨g, t, cs, fuel, p, q, h1, h2, h3, h4, h5, _⟩ := h
    cases hx with
    | head => exact ⟨g, t, cs, fuel, p, h1, h2, h3, h4⟩
    | tail _ hx => exact Jq2 h5 x hx
theorem Jpf {P : Program} {w : World} {f : Nat} {l : List (String × DataW Unit)} (h : laidMet P l w) : ∀ x ∈ Jr0 P f l, (∃ t fr, w.heap[x.1]? = some (.cells x.2.toArray t fr)) ∧ ∀ v ∈ x.2, Ja5 v = true := by
  intro x hx
  obtain ⟨ps, hv, _⟩ := h
  simp only [Jr0, List.mem_filterMap] at hx
  obtain ⟨y, hy, e⟩ := hx
  obtain ⟨g, t, cs, fuel, p, h1, h2, h3, h4⟩ := Jq2 hv y hy
  unfold Kpu at e
  rw [h1] at e
  simp only [h2] at e
  cases hu : Jjp P f t y.2 with
  | none => rw [hu] at e; cases e
  | some c =>
    rw [hu] at e
    simp only [Option.map_some, Option.some.injEq] at e
    subst e
    have := (Jte f).1 _ _ _ _ _ _ hu h4
    refine ⟨?_, (Jn3 f).1 _ _ _ hu⟩
    unfold World.var? at h3
    rw [h1] at h3
    simp only [Option.bind_some] at h3
    split at h3
    · rename_i cs' ty fr hh
      cases h3
      exact ⟨ty, fr, by rw [hh, ← this]⟩
    · cases h3
def Jm8 : List (Nat × List Value) → Tr AObj
  | [] => .nil
  | x :: r => (Jm8 r).set (path x.1) (.cells false 0 x.1 x.2)
def Jl7 (l : List (Nat × List Value)) (next : Nat) : St := { heap := Jm8 l, fams := .nil, next := next }
theorem Jud (l : List (Nat × List Value)) (A : Nat) : (Jm8 l).get (path A) = (l.find? (fun x => x.1 == A)).map fun x => .cells false 0 A x.2 := by
  induction l with
  | nil => rfl
  | cons x r ih =>
    simp only [Jm8, Tr.get_set, List.find?_cons]
    by_cases h : x.1 = A
    · simp [h]
    · rw [if_neg (fun e => h (Ji3 e)), ih]
      have : (x.1 == A) = false := by simpa using h
      rw [this]
theorem Jlh (l : List (Nat × List Value)) (next A : Nat) : (Jl7 l next).get A = (l.find? (fun x => x.1 == A)).map fun x => .cells false 0 A x.2 := Jud l A
theorem Jhd (l : List (Nat × List Value)) (next F : Nat) : (Jl7 l next).famO F = none := by
  simp only [Jl7, St.famO]
  cases path F <;> rfl
theorem Jj1 {P : Program} {l : List (String × DataW Unit)} {w : World} (hno : (l.filter fun x => x.2.handleName?.isSome) = []) (h : laidMetH P l w) : laidMet P l w := by
  unfold laidMetH at h
  rw [hno] at h
  exact h
noncomputable section
def kindOf : Nat → IntKind
  | 0 => .i64 | 1 => .u8 | 2 => .i32 | 3 => .u32 | 4 => .u64 | 5 => .u16 | 6 => .i16 | _ => .i8
def Kfv : IntKind → Nat
  | .i64 => 0 | .u8 => 1 | .i32 => 2 | .u32 => 3 | .u64 => 4 | .u16 => 5 | .i16 => 6 | .i8 => 7
theorem Jrx (k : IntKind) : kindOf (Kfv k) = k := by cases k <;> rfl
def limN (c : Nat) : Nat := Nat.casesOn c 9223372036854775808 (fun c => Nat.casesOn c 256 (fun c => Nat.casesOn c 2147483648 (fun c => Nat.casesOn c 4294967296 (fun c => Nat.casesOn c 18446744073709551616 (fun c => Nat.casesOn c 65536 (fun c => Nat.casesOn c 32768 (fun _ => 128)))))))
def okQ (P : Program) (ops : Array Oper) (B : List Nat) : Bool :=
  Jqy P ops B && ops.toList.zipIdx.all fun x => match Jac P x.1.op with
    | .loud => ops.toList.zipIdx.all fun y => match Jac P y.1.op with
      | .alloc => !(Nat.blt y.2 x.2) || bit B x.2 y.2
      | .read => bit B x.2 y.2 || bit B y.2 x.2
      | _ => true
    | _ => true
end
theorem wrap_small : ∀ (c n : Nat), n < limN c → (kindOf c).wrap (.ofNat n) = .ofNat n := by
  intro c n h
  match c with
  | 0 =>
    replace h : n < 9223372036854775808 := h
    simp [kindOf, IntKind.wrap, IntKind.bits, IntKind.signed]
    omega
  | 1 =>
    replace h : n < 256 := h
    simp [kindOf, IntKind.wrap, IntKind.bits, IntKind.signed]
    omega
  | 2 =>
    replace h : n < 2147483648 := h
    simp [kindOf, IntKind.wrap, IntKind.bits, IntKind.signed]
    omega
  | 3 =>
    replace h : n < 4294967296 := h
    simp [kindOf, IntKind.wrap, IntKind.bits, IntKind.signed]
    omega
  | 4 =>
    replace h : n < 18446744073709551616 := h
    simp [kindOf, IntKind.wrap, IntKind.bits, IntKind.signed]
    omega
  | 5 =>
    replace h : n < 65536 := h
    simp [kindOf, IntKind.wrap, IntKind.bits, IntKind.signed]
    omega
  | 6 =>
    replace h : n < 32768 := h
    simp [kindOf, IntKind.wrap, IntKind.bits, IntKind.signed]
    omega
  | c + 7 =>
    replace h : n < 128 := h
    simp [kindOf, IntKind.wrap, IntKind.bits, IntKind.signed]
    omega
theorem Kfk (a b : Int) : (a == b) = decide (a = b) := by rw [Bool.eq_iff_iff]; simp
section
theorem Ksd {α β : Type} {f : α → β} {x : Option α} {y : β} (h : x.map f = some y) : ∃ a, x = some a ∧ y = f a := by
  cases x with
  | none => cases h
  | some a => cases h; exact ⟨a, rfl, rfl⟩
end
theorem Knd {P : Program} {ops : Array Oper} {B : List Nat} (h : okQ P ops B = true) : Jqy P ops B = true ∧ ∀ (i : Nat) (o : Oper), ops[i]? = some o → Jac P o.op = .loud → ∀ (k : Nat) (ok : Oper), ops[k]? = some ok →
    (Jac P ok.op = .alloc → k < i → bit B i k = true) ∧ (Jac P ok.op = .read → bit B i k = true ∨ bit B k i = true) := by
  unfold okQ at h
  simp only [Bool.and_eq_true, List.all_eq_true] at h
  refine ⟨h.1, fun i o ho hl k ok hk => ?_⟩
  have h1 := h.2 (o, i) (by rw [List.mem_zipIdx_iff_getElem?]; simpa using ho)
  simp only [hl, List.all_eq_true] at h1
  have h2 := h1 (ok, k) (by rw [List.mem_zipIdx_iff_getElem?]; simpa using hk)
  simp only at h2
  refine ⟨fun hc hlt => ?_, fun hc => ?_⟩
  · rw [hc] at h2
    simp only [Bool.or_eq_true, Bool.not_eq_true'] at h2
    rcases h2 with q | q
    · have : Nat.blt k i = true := by simp [Nat.blt, Nat.ble_eq]; omega
      rw [this] at q; cases q
    · exact q
  · rw [hc] at h2
    simpa using h2
def Jec (base : Nat) (B : List Nat) (R : List TRow) : List (Nat × AObj) := (Jde (rlo R) (ral R) B R.length).map fun k => (base + k, rao R k)
theorem Ji2 (base : Nat) (B : List Nat) (R : List TRow) (τ : St) : (Jec base B R).foldl (fun σ x => σ.set x.1 x.2) τ = Jdo base (rao R) (Jde (rlo R) (ral R) B R.length) τ := by
  unfold Jec Jdo
  rw [List.foldl_map]
theorem Jk7 {R S : List TRow} {j : Nat} (h : j < R.length) : (R ++ S)[j]? = R[j]? := List.getElem?_append_left h
theorem Jk9 {R S : List TRow} {j : Nat} (h : j < R.length) : rlo (R ++ S) j = rlo R j := by unfold rlo; rw [Jk7 h]
theorem Jld {R S : List TRow} {j : Nat} (h : j < R.length) : ral (R ++ S) j = ral R j := by unfold ral; rw [Jk7 h]
theorem Jxz {R S : List TRow} {j : Nat} (h : j < R.length) : rao (R ++ S) j = rao R j := by unfold rao; rw [Jk7 h]
theorem Jeb {R S : List TRow} {r : TRow} : (R ++ r :: S)[R.length]? = some r := by simp
theorem Jts {lo al : Nat → Bool} {B : List Nat} {p k : Nat} (h : k ∈ Jde lo al B p) : k < p := by
  simp only [Jde, List.mem_filter, List.mem_range] at h; exact h.1
theorem Juc {lo : Nat → Bool} {B : List Nat} {p k : Nat} : gone lo B (p + 1) k = (gone lo B p k || (lo p && bit B p k)) := by
  unfold gone
  rw [List.range_succ, List.any_append]
  simp
theorem Jqo {P : Program} {ops : Array Oper} {base : Nat} {B : List Nat} {R : List TRow} {r : TRow} (hs : Jc3 P ops B) (hlo : (r.k == 4) = false) :
    Jec base B (R ++ [r]) = Jec base B R ++ (if (r.k == 2) = true then [(base + R.length, r.ao)] else []) := by
  have hlast : rlo (R ++ [r]) R.length = false := by unfold rlo; rw [Jeb]; exact hlo
  unfold Jec
  rw [List.length_append, List.length_singleton]
  unfold Jde
  rw [List.range_succ, List.filter_append, List.map_append]
  congr 1
  · rw [List.filter_congr (q := fun k => ral R k && !gone (rlo R) B R.length k)]
    · refine List.map_congr_left fun k hk => ?_
      have : k < R.length := List.mem_range.1 (List.mem_filter.1 hk).1
      rw [Jxz this]
    · intro k hk
      have hk := List.mem_range.1 hk
      rw [Jld hk, Juc, hlast, Jq7 (lo' := rlo R) (fun j hj => Jk9 hj)]
      simp
  · have hg : gone (rlo (R ++ [r])) B (R.length + 1) R.length = false := by
      cases h : gone (rlo (R ++ [r])) B (R.length + 1) R.length with
      | false => rfl
      | true =>
        rw [Jn1] at h
        obtain ⟨j, h1, _, h3⟩ := h
        have := hs.lt j R.length h3
        omega
    have ha : ral (R ++ [r]) R.length = (r.k == 2) := by unfold ral; rw [Jeb]
    have hao : rao (R ++ [r]) R.length = r.ao := by unfold rao; rw [Jeb]
    simp only [List.filter_cons, List.filter_nil, ha, hg]
    cases (r.k == 2) <;> simp [hao]
theorem Jqp {base : Nat} {B : List Nat} {R : List TRow} {r : TRow} (hk : r.k = 4) (hall : ∀ k, k < R.length → ral R k = true → bit B R.length k = true) : Jec base B (R ++ [r]) = [] := by
  unfold Jec
  rw [List.map_eq_nil_iff]
  unfold Jde
  rw [List.filter_eq_nil_iff]
  intro k hk2
  have hk2 := List.mem_range.1 hk2
  rw [List.length_append, List.length_singleton] at hk2 ⊢
  have hlast : rlo (R ++ [r]) R.length = true := by unfold rlo; rw [Jeb]; simp [hk]
  by_cases e : k = R.length
  · subst e
    have : ral (R ++ [r]) R.length = false := by unfold ral; rw [Jeb]; simp [hk]
    simp [this]
  · have hlt : k < R.length := by omega
    rw [Jld hlt]
    cases ha : ral R k with
    | false => simp
    | true => rw [Juc, hlast, hall k hlt ha]; simp
theorem Jt8 {lo al : Nat → Bool} {B : List Nat} {i : Nat} (hall : ∀ k, k < i → al k = true → bit B i k = true) : Jc0 lo al B i = Jde lo al B i := by
  unfold Jc0 Jde
  refine List.filter_congr fun k hk => ?_
  have hk := List.mem_range.1 hk
  cases ha : al k with
  | false => simp
  | true => rw [hall k hk ha]; simp
def Jrm (P : Program) (gl : List Nat) (ops : Array Oper) (base : Nat) (B : List Nat) (e : Nat → Env) (τ : Nat → St) (val : Nat → Value) (ao : Nat → AObj) (lo al : Nat → Bool) (i : Nat) (o : Oper) : Prop :=
  (Jbg ops (e i) o = false ∧ val i = undef ∧ lo i = false ∧ al i = false ∧ τ (i + 1) = τ i) ∨
  (Jbg ops (e i) o = true ∧ lo i = false ∧ al i = false ∧ τ (i + 1) = τ i ∧ Kdu P (rho (e i)) o (val i)) ∨
  (Jbg ops (e i) o = true ∧ lo i = false ∧ al i = true ∧ τ (i + 1) = τ i ∧ Jrn P (rho (e i)) o (base + i) (val i) (ao i)) ∨
  (Jbg ops (e i) o = true ∧ lo i = false ∧ al i = false ∧ τ (i + 1) = τ i ∧ Jac P o.op = .read ∧ Jal P (rho (e i)) (base + i) o (τ i) = some (.val (val i) (τ i))) ∨
  (Jbg ops (e i) o = true ∧ lo i = true ∧ al i = false ∧ Jac P o.op = .loud ∧ ∃ ρ, (∀ x ∈ o.op.operands, ρ x = rho (e i) x) ∧ Jqi P gl ρ (base + i) o (Jdo base ao (Jc0 lo al B i) (τ i)) (val i) (τ (i + 1)))
section
variable {P : Program} {gl : List Nat} {ops : Array Oper} {N base : Nat} {B : List Nat}
theorem Jle {R : List TRow} {r : TRow} (hs : Jc3 P ops B) (h4 : (r.k == 4) = false) (h2 : (r.k == 2) = false) : Jec base B (R ++ [r]) = Jec base B R := by
  rw [Jqo (P := P) (ops := ops) hs h4, h2]
  simp
theorem Ket {R : List TRow} {r : TRow} (hs : Jc3 P ops B) (h2 : r.k = 2) : Jec base B (R ++ [r]) = Jec base B R ++ [(base + R.length, r.ao)] := by
  rw [Jqo (P := P) (ops := ops) hs (by rw [h2]; rfl), h2]
  rfl
end
section
variable {P : Program} {gl : List Nat} {K : List Nat} {N : Nat}
theorem Ext.after {g g1 g2 : Gam} {σ σ1 σ2 : St} {w w1 w2 : World} (h : Ext (fun A => σ.next ≤ A) g g1 σ σ1 w w1) (k : Ext (fun A => σ1.next ≤ A) g1 g2 σ1 σ2 w1 w2) : Ext (fun A => σ.next ≤ A) g g2 σ σ2 w w2 :=
  h.trans (k.mono fun A hA => Nat.le_trans h.next hA)
end
def Krf (l : List (Nat × List Value)) (σ : St) : Prop := ∀ A x, l.find? (fun x => x.1 == A) = some x → σ.get A = some (.cells false 0 A x.2) ∧ σ.famO A = none
theorem Rel.same {g : Gam} {σ : St} {w w' : World} (h : Rel g σ w) (hs : w.heap.size ≤ w'.heap.size) (hh : ∀ b, b < w.heap.size → w'.heap[b]? = w.heap[b]?) : Rel g σ w' :=
  ⟨h.wf, fun A x a => Nat.lt_of_lt_of_le (h.blk A x a) hs, fun A x a => let ⟨o, b, c⟩ := h.obj A x a; ⟨o, b, Jg3.mono (Gam.le_refl g) (hh _ (h.blk A x a)) (fun _ _ _ _ _ h => h) c⟩, h.share, h.order, h.tab.step (fun b hb _ => hh b hb) fun A y h => .inr ⟨A, y, h, rfl⟩⟩
theorem SimF.everywhere {P : Program} {l : List (Nat × List Value)} {next : Nat} {f : FuncId} {args : Array Value} {v : Value} {σ0 : St} (hs : SimF P (l.map (·.1)) f args (Jl7 l next) v σ0) (hn : ∀ x ∈ l, x.1 < next) (hfl : ∀ x ∈ l, ∀ v ∈ x.2, Ja5 v = true)
    (ha0 : args.toList.all Ja5 = true) (hv0 : Ja5 v = true) {σ : St} (hσ : Krf l σ) : SimF P (l.map (·.1)) f args σ v σ := by
  intro g w args' hg hr ha
  obtain ⟨g0, hg0⟩ : ∃ g0 : Gam, g0 = fun A => if (l.find? (fun x => x.1 == A)).isSome then g A else none := ⟨_, rfl⟩
  have hin : ∀ A x, g0 A = some x → ∃ y, l.find? (fun x => x.1 == A) = some y ∧ y ∈ l ∧ g A = some x := by
    intro A x h
    rw [hg0] at h
    simp only at h
    split at h
    · rename_i hq
      obtain ⟨y, hy⟩ := Option.isSome_iff_exists.1 hq
      exact ⟨y, hy, List.mem_of_find?_eq_some hy, h⟩
    · cases h
  have hglob : Glob (l.map (·.1)) g0 := by
    intro b hb
    obtain ⟨n, e⟩ := hg b hb
    refine ⟨n, ?_⟩
    have hb2 : b ∈ l.map (·.1) := by simpa using hb
    rw [List.mem_map] at hb2
    obtain ⟨y, hy, rfl⟩ := hb2
    rw [hg0]
    simp only
    rw [if_pos]
    · exact e
    · rw [List.find?_isSome]; exact ⟨y, hy, by simp⟩
  have hbase : ∀ A x, g0 A = some x → x.block = A ∧ x.base = 0 := by
    intro A x h
    obtain ⟨y, h1, h2, h3⟩ := hin A x h
    have hA : y.1 = A := by simpa using List.find?_some h1
    obtain ⟨n, e⟩ := hg A (by
      have : A ∈ l.map (·.1) := by rw [← hA]; exact List.mem_map_of_mem h2
      simpa using this)
    rw [h3] at e; cases e
    exact ⟨rfl, rfl⟩
  have hwf : (Jl7 l next).Wf := by
    have sp2 : ∀ A o, (Jl7 l next).get A = some o → ∃ c, (A, c) ∈ l ∧ o = .cells false 0 A c := by
      intro A o h
      rw [Jlh] at h
      cases hf : l.find? (fun x => x.1 == A) with
      | none => rw [hf] at h; cases h
      | some y =>
        rw [hf] at h
        cases h
        have h1 := List.mem_of_find?_eq_some hf
        have h2 := List.find?_some hf
        obtain ⟨a, c⟩ := y
        have : a = A := by simpa using h2
        subst this
        exact ⟨c, h1, rfl⟩
    refine ⟨fun A o h => ?_, fun A own v F c h => ?_, fun A v F c h => ?_, fun F O h => ?_, fun F O X own v c own' v' c' h => ?_, fun A n h => ?_⟩
    · obtain ⟨c, h1, _⟩ := sp2 A o h; exact hn _ h1
    · obtain ⟨c', h1, h2⟩ := sp2 A _ h; cases h2; exact ⟨_, h⟩
    · obtain ⟨c', h1, h2⟩ := sp2 A _ h; cases h2
    · rw [Jhd] at h; cases h
    · rw [Jhd] at h; cases h
    · unfold Jl7 St.hintO at h; cases hp : path A <;> rw [hp] at h <;> cases h
  have hrel : Rel g0 (Jl7 l next) w := by
    refine ⟨hwf, fun A x h => ?_, fun A x h => ?_, fun A x A' x' h h' e => ?_, fun X x O y F v c own c' _ _ _ _ hF => ?_, hr.tab.sub fun A x h => by obtain ⟨y, _, _, h3⟩ := hin A x h; exact ⟨A, x, h3, rfl⟩⟩
    · obtain ⟨y, _, _, h3⟩ := hin A x h; exact hr.blk A x h3
    · obtain ⟨y, h1, h2, h3⟩ := hin A x h
      obtain ⟨s1, s2⟩ := hσ A y h1
      obtain ⟨o, o1, o2⟩ := hr.obj A x h3
      rw [s1] at o1; cases o1
      refine ⟨.cells false 0 A y.2, by rw [Jlh, h1]; rfl, ?_⟩
      obtain ⟨cs, el, fr, p1, p2, p3, p4⟩ := o2
      refine ⟨cs, el, fr, p1, p2, fun _ i hi => ?_, fun h => by cases h⟩
      obtain ⟨v', q1, q2⟩ := p3 (by simp [St.rd, s2]) i hi
      have hf := hfl y h2 _ (List.getElem_mem hi)
      have := Je5 hf q2
      exact ⟨v', q1, by rw [this]; exact Jb4 hf⟩
    · obtain ⟨e1, _⟩ := hbase A x h
      obtain ⟨e2, _⟩ := hbase A' x' h'
      exact .inl (by omega)
    · rw [Jhd] at hF; cases hF
  have hargs : ARel g0 args args' := by
    refine ⟨ha.1, fun i h1 h2 => ?_⟩
    have hf : Ja5 args[i] = true := List.all_eq_true.1 ha0 _ (by simp)
    have := Je5 hf (ha.2 i h1 h2)
    rw [this]; exact Jb4 hf
  refine (hs g0 w args' hglob hrel hargs).mono ?_
  rintro e w' ⟨v', g', rfl, hv, hr', hx⟩
  have hkeep : ∀ b, b < w.heap.size → w'.heap[b]? = w.heap[b]? := fun b hb => hx.keep b hb fun A x hA _ => by
    obtain ⟨y, h1, _, _⟩ := hin A x hA
    exact ⟨0, A, y.2, by rw [Jlh, h1]; rfl, Jhd l next A⟩
  have hvv := Je5 hv0 hv
  refine ⟨v', g, rfl, by rw [hvv]; exact Jb4 hv0, hr.same hx.size hkeep, ?_⟩
  exact ⟨Gam.le_refl g, fun A x h h' => (by rw [h] at h'; cases h'), fun A x h h' => (by rw [h] at h'; cases h'), hx.size, fun b hb _ => hkeep b hb, fun _ _ _ => rfl, fun _ h => ⟨rfl, h⟩, Nat.le_refl _, hx.os, hx.out, hx.tape⟩
theorem SimF.of_below {P : Program} {gl : List Nat} {f : FuncId} {args : Array Value} {v : Value} (h : ∀ w, Calls P f args w fun e w' => e = .returned v ∧ Go.RowKit.Below w.heap.size w w') (ha0 : args.toList.all Ja5 = true) (hv0 : Ja5 v = true) (σ : St) : SimF P gl f args σ v σ := by
  intro g w args' hg hr ha
  have he : args' = args := by
    refine Array.ext ha.1.symm fun i h1 h2 => ?_
    have hf : Ja5 args[i] = true := List.all_eq_true.1 ha0 _ (by simp)
    exact Je5 hf (ha.2 i h2 h1)
  subst he
  refine (h w).mono ?_
  rintro e w' ⟨rfl, hb⟩
  refine ⟨v, g, rfl, Jb4 hv0, hr.same hb.size (fun b hlt => hb.block b hlt), ?_⟩
  exact ⟨Gam.le_refl g, fun A x h h' => (by rw [h] at h'; cases h'), fun A x h h' => (by rw [h] at h'; cases h'), hb.size, fun b hlt _ => hb.block b hlt, fun _ _ _ => rfl, fun _ h => ⟨rfl, h⟩, Nat.le_refl _, hb.os, hb.output, hb.tape⟩
theorem SimF.of_below_tab {P : Program} {gl : List Nat} {f : FuncId} {args : Array Value} {v : Value} (h : ∀ w, (∀ x ∈ tabW, ∃ t fr, w.heap[x.1]? = some (.cells x.2.toArray t fr)) → Calls P f args w fun e w' => e = .returned v ∧ Go.RowKit.Below w.heap.size w w') (ha0 : args.toList.all Ja5 = true) (hv0 : Ja5 v = true) (σ : St) : SimF P gl f args σ v σ := by
  intro g w args' hg hr ha
  have he : args' = args := by
    refine Array.ext ha.1.symm fun i h1 h2 => ?_
    have hf : Ja5 args[i] = true := List.all_eq_true.1 ha0 _ (by simp)
    exact Je5 hf (ha.2 i h2 h1)
  subst he
  refine (h w fun x hx => (hr.tab x hx).1).mono ?_
  rintro e w' ⟨rfl, hb⟩
  refine ⟨v, g, rfl, Jb4 hv0, hr.same hb.size (fun b hlt => hb.block b hlt), ?_⟩
  exact ⟨Gam.le_refl g, fun A x h h' => (by rw [h] at h'; cases h'), fun A x h h' => (by rw [h] at h'; cases h'), hb.size, fun b hlt _ => hb.block b hlt, fun _ _ _ => rfl, fun _ h => ⟨rfl, h⟩, Nat.le_refl _, hb.os, hb.output, hb.tape⟩
theorem Rel.named {g : Gam} {σ : St} {w w' : World} (h : Rel g σ w) (hs : w.heap.size ≤ w'.heap.size) (hh : ∀ A x, g A = some x → w'.heap[x.block]? = w.heap[x.block]?) (ht : TabW g w') : Rel g σ w' :=
  ⟨h.wf, fun A x a => Nat.lt_of_lt_of_le (h.blk A x a) hs, fun A x a => let ⟨o, b, c⟩ := h.obj A x a; ⟨o, b, Jg3.mono (Gam.le_refl g) (hh A x a) (fun _ _ _ _ _ h => h) c⟩, h.share, h.order, ht⟩
section
variable {P : Program} {gl : List Nat} {N : Nat}
end
theorem Jpd {P : Program} {Ds : List Deferred} {g' : Gam} {N : Nat} {env : Env} {σ : St} {a' : Act} {w' : World} {fn : Func} (he : Jco Ds g' N env a') (hr : Rel g' σ w') {vs : List Value} (hrv : Ja2 P env σ fn.results.toList = some vs) :
    ∃ v', (results fn a'.tmps).run P w' = .ok v' w' ∧ VRel g' (packed vs) v' := by
  obtain ⟨vs', e1, e2⟩ := Jla (P := P) he hr _ _ hrv
  have hrun : (results fn a'.tmps).run P w' = .ok (packed vs') w' := by
    obtain ⟨F, hF⟩ : ∃ F : ResultVar → Sem Value, F = fun (x : ResultVar) => (match x with | .tmp t => pure (a'.tmps.getD t undef) | .cell a t => do loadVar t (← asAddr (a'.tmps.getD a undef)) : Sem Value) := ⟨_, rfl⟩
    have hdef : results fn a'.tmps = (do let vs ← fn.results.mapM F; pure (if h : vs.size = 1 then vs[0] else .tuple vs)) := by
      rw [hF]; rfl
    have e3 : (fn.results.toList.mapM F).run P w' = .ok vs' w' := by rw [hF]; exact e1
    have hm : (fn.results.mapM F).run P w' = .ok vs'.toArray w' := by
      rw [← Array.toArray_toList (xs := fn.results), List.mapM_toArray]
      simp only [Sem.run_map, e3, Result.andThen_ok]
    rw [hdef]
    simp only [Sem.run_bind, hm, Result.andThen_ok, Sem.run_pure]
    congr 1
    unfold packed
    match vs', e2 with
    | [], _ => rfl
    | [v], _ => rfl
    | _ :: _ :: _, _ => simp
  have hrel : VRel g' (packed vs) (packed vs') := by
    unfold packed
    match vs, vs', e2 with
    | [], [], _ => exact .tuple _ _ rfl fun i h => by simp at h
    | [v], [v'], e2 => exact e2.2 0 (by simp) (by simp)
    | x :: y :: r, x' :: y' :: r', e2 => exact .tuple _ _ (by simpa using e2.1) fun i h1 h2 => by simpa using e2.2 i (by simpa using h1) (by simpa using h2)
    | [], _ :: _, e2 => have := e2.1; simp at this
    | _ :: _, [], e2 => have := e2.1; simp at this
    | [_], _ :: _ :: _, e2 => have := e2.1; simp at this
    | _ :: _ :: _, [_], e2 => have := e2.1; simp at this
  exact ⟨_, hrun, hrel⟩
theorem Jx7 {g : Gam} {N : Nat} {args args' : Array Value} (ha : ARel g args args') (hsz : args.size ≤ N) :
    Jco [] g N (Jfl args.toList 0 .nil) { tmps := args' ++ Array.replicate (N - args'.size) undef, defers := [] } := by
  refine ⟨rfl, by simp [← ha.1]; omega, fun t => ?_⟩
  rw [Juj]
  by_cases ht : t < args.size
  · rw [if_pos (by simp; exact ht)]
    have ht' : t < args'.size := by rw [← ha.1]; exact ht
    have e1 : args.toList.getD (t - 0) undef = args[t] := by simp [List.getD, ht]
    have e2 : (args' ++ Array.replicate (N - args'.size) undef).getD t undef = args'[t] := by
      rw [Array.getD_eq_getD_getElem?, Array.getElem?_append_left ht']; simp [ht']
    rw [e1, e2]; exact ha.2 t ht ht'
  · rw [if_neg (by simp; exact Nat.le_of_not_lt ht)]
    have e1 : eget .nil t = undef := rfl
    have e2 : (args' ++ Array.replicate (N - args'.size) undef).getD t undef = undef := by
      rw [Array.getD_eq_getD_getElem?, Array.getElem?_append_right (by rw [← ha.1]; omega), Array.getElem?_replicate]
      split <;> rfl
    rw [e1, e2]; exact .tuple _ _ rfl fun i h => by simp at h
inductive VRen (ρ : Nat → Option (Nat × Nat)) : Value → Value → Prop where
  | bool (b : Bool) : VRen ρ (.bool b) (.bool b)
  | int (k : IntKind) (n : Int) : VRen ρ (.int k n) (.int k n)
  | float (k : FloatKind) (b : Nat) : VRen ρ (.float k b) (.float k b)
  | complex (k : FloatKind) (a b : Nat) : VRen ρ (.complex k a b) (.complex k a b)
  | string (s : ByteArray) : VRen ρ (.string s) (.string s)
  | nilPtr : VRen ρ (.pointer none) (.pointer none)
  | ptr (A B d o : Nat) (h : ρ A = some (B, d)) : VRen ρ (.pointer (some ⟨A, o, none⟩)) (.pointer (some ⟨B, d + o, none⟩))
  | nilSlice : VRen ρ (.slice none 0 0) (.slice none 0 0)
  | slice (A B d o n k : Nat) (h : ρ A = some (B, d)) : VRen ρ (.slice (some ⟨A, o, none⟩) n k) (.slice (some ⟨B, d + o, none⟩) n k)
  | nilMap : VRen ρ (.map none) (.map none)
  | map (A B d : Nat) (h : ρ A = some (B, d)) : VRen ρ (.map (some A)) (.map (some B))
  | nilFunc : VRen ρ .nilFunc .nilFunc
  | func (fn : Fn) (a b c d : Array Value) (h1 : a.size = b.size) (h2 : ∀ i (h : i < a.size) (h' : i < b.size), VRen ρ a[i] b[i])
      (h3 : c.size = d.size) (h4 : ∀ i (h : i < c.size) (h' : i < d.size), VRen ρ c[i] d[i]) : VRen ρ (.func fn a c) (.func fn b d)
  | iface (t : TypeId) (v v' : Value) (h : VRen ρ v v') : VRen ρ (.iface t v) (.iface t v')
  | nilIface : VRen ρ .nilIface .nilIface
  | agg (a b : Array Value) (h1 : a.size = b.size) (h2 : ∀ i (h : i < a.size) (h' : i < b.size), VRen ρ a[i] b[i]) : VRen ρ (.agg a) (.agg b)
  | tuple (a b : Array Value) (h1 : a.size = b.size) (h2 : ∀ i (h : i < a.size) (h' : i < b.size), VRen ρ a[i] b[i]) : VRen ρ (.tuple a) (.tuple b)
def CA.sh (x : CA) (d : Nat) : CA := ⟨x.block, x.base + d, x.size⟩
def gOf (ρ : Nat → Option (Nat × Nat)) (g : Gam) : Gam := fun A => (ρ A).bind fun p => (g p.1).map fun x => x.sh p.2
theorem Jdc {ρ : Nat → Option (Nat × Nat)} {g : Gam} {A : Nat} {x : CA} (h : gOf ρ g A = some x) : ∃ B d y, ρ A = some (B, d) ∧ g B = some y ∧ x = y.sh d := by
  unfold gOf at h
  cases hB : ρ A with
  | none => rw [hB] at h; cases h
  | some p =>
    obtain ⟨B, d⟩ := p
    rw [hB] at h
    simp only [Option.bind_some] at h
    cases hg : g B with
    | none => rw [hg] at h; cases h
    | some y => rw [hg] at h; simp only [Option.map_some, Option.some.injEq] at h; exact ⟨B, d, y, rfl, hg, h.symm⟩
theorem Jn2 {ρ : Nat → Option (Nat × Nat)} {g : Gam} {A B d : Nat} {x : CA} (h : ρ A = some (B, d)) (hg : g B = some x) : gOf ρ g A = some (x.sh d) := by
  unfold gOf; rw [h]; simp [hg]
theorem VRen.pull {ρ : Nat → Option (Nat × Nat)} {g : Gam} {v v1 v2 : Value} (h : VRen ρ v v1) : VRel g v1 v2 → VRel (gOf ρ g) v v2 := by
  induction h generalizing v2 with
  | bool b => intro k; cases k; exact .bool _
  | int k n => intro k; cases k; exact .int _ _
  | float k b => intro k; cases k; exact .float _ _
  | complex k a b => intro k; cases k; exact .complex _ _ _
  | string s => intro k; cases k; exact .string _
  | nilPtr => intro k; cases k; exact .nilPtr
  | ptr A B d o h =>
    intro k; cases k; rename_i x hx
    have := VRel.ptr (g := gOf ρ g) A o _ (Jn2 h hx)
    simp only [CA.sh] at this
    rwa [Nat.add_assoc] at this
  | nilSlice => intro k; cases k; exact .nilSlice
  | slice A B d o n k h =>
    intro q; cases q; rename_i x o' c hx ho hl h0 hk
    exact .slice A o n k (x.sh d) o' c (Jn2 h hx) (by assumption) (fun hc => by have := ho hc; simp only [CA.sh]; omega) (by assumption) (by simp only [CA.sh]; assumption)
  | nilMap => intro k; cases k; exact .nilMap
  | map A B d h => intro k; cases k; rename_i x hx; exact .map A (x.sh d) (Jn2 h hx)
  | nilFunc => intro k; cases k; exact .nilFunc
  | func fn a b c d h1 h2 h3 h4 ih1 ih2 =>
    intro k
    cases k with
    | func _ _ b' _ d' k1 k2 k3 k4 => exact .func _ _ _ _ _ (h1.trans k1) (fun i p q => ih1 i p (by omega) (k2 i (by omega) q)) (h3.trans k3) (fun i p q => ih2 i p (by omega) (k4 i (by omega) q))
    | yield l l' =>
      obtain rfl : a = #[] := Array.eq_empty_of_size_eq_zero h1
      obtain rfl : c = #[] := Array.eq_empty_of_size_eq_zero h3
      exact .yield _ _
  | iface t v v' _ ih => intro k; cases k; exact .iface _ _ _ (ih (by assumption))
  | nilIface => intro k; cases k; exact .nilIface
  | agg a b h1 h2 ih => intro k; cases k; rename_i b' k1 k2; exact .agg _ _ (h1.trans k1) fun i p q => ih i p (by omega) (k2 i (by omega) q)
  | tuple a b h1 h2 ih => intro k; cases k; rename_i b' k1 k2; exact .tuple _ _ (h1.trans k1) fun i p q => ih i p (by omega) (k2 i (by omega) q)
theorem VRen.push {ρ : Nat → Option (Nat × Nat)} {g0 g : Gam} {v v1 v2 : Value} (hg : ∀ A B d x, ρ A = some (B, d) → g0 A = some x → ∃ y, g B = some y ∧ x = y.sh d) (h : VRen ρ v v1) : VRel g0 v v2 → VRel g v1 v2 := by
  induction h generalizing v2 with
  | bool b => intro k; cases k; exact .bool _
  | int k n => intro k; cases k; exact .int _ _
  | float k b => intro k; cases k; exact .float _ _
  | complex k a b => intro k; cases k; exact .complex _ _ _
  | string s => intro k; cases k; exact .string _
  | nilPtr => intro k; cases k; exact .nilPtr
  | ptr A B d o h =>
    intro k; cases k; rename_i x hx
    obtain ⟨y, hy, rfl⟩ := hg _ _ _ _ h hx
    have := VRel.ptr (g := g) B (d + o) y hy
    simp only [CA.sh]
    rwa [← Nat.add_assoc] at this
  | nilSlice => intro k; cases k; exact .nilSlice
  | slice A B d o n k h =>
    intro q; cases q; rename_i x o' c hx ho hl h0 hk
    obtain ⟨y, hy, rfl⟩ := hg _ _ _ _ h hx
    exact .slice B (d + o) n k y o' c hy (by assumption) (fun hc => by have := ho hc; simp only [CA.sh] at this; omega) (by assumption) hk
  | nilMap => intro k; cases k; exact .nilMap
  | map A B d h =>
    intro k; cases k; rename_i x hx
    obtain ⟨y, hy, rfl⟩ := hg _ _ _ _ h hx
    exact .map B y hy
  | nilFunc => intro k; cases k; exact .nilFunc
  | func fn a b c d h1 h2 h3 h4 ih1 ih2 =>
    intro k
    cases k with
    | func _ _ b' _ d' k1 k2 k3 k4 => exact .func _ _ _ _ _ (h1.symm.trans k1) (fun i p q => ih1 i (by omega) p (k2 i (by omega) q)) (h3.symm.trans k3) (fun i p q => ih2 i (by omega) p (k4 i (by omega) q))
    | yield l l' =>
      obtain rfl : b = #[] := Array.eq_empty_of_size_eq_zero h1.symm
      obtain rfl : d = #[] := Array.eq_empty_of_size_eq_zero h3.symm
      exact .yield _ _
  | iface t v v' _ ih => intro k; cases k; exact .iface _ _ _ (ih (by assumption))
  | nilIface => intro k; cases k; exact .nilIface
  | agg a b h1 h2 ih => intro k; cases k; rename_i b' k1 k2; exact .agg _ _ (h1.symm.trans k1) fun i p q => ih i (by omega) p (k2 i (by omega) q)
  | tuple a b h1 h2 ih => intro k; cases k; rename_i b' k1 k2; exact .tuple _ _ (h1.symm.trans k1) fun i p q => ih i (by omega) p (k2 i (by omega) q)
theorem VRen.flat0 {ρ : Nat → Option (Nat × Nat)} {v : Value} (h : Ev.flat0 v = true) : VRen ρ v v := by
  unfold Ev.flat0 at h
  split at h <;> first
    | (exact .bool _) | (exact .int _ _) | (exact .float _ _) | (exact .complex _ _ _) | (exact .string _) | (exact .nilPtr) | (exact .nilSlice) | (exact .nilMap) | (exact .nilFunc) | (exact .nilIface)
    | (cases h; done)
    | (exact .func _ _ _ _ _ rfl (fun i h => by simp at h) rfl (fun i h => by simp at h))
theorem VRen.flat {ρ : Nat → Option (Nat × Nat)} {v : Value} (h : Ja5 v = true) : VRen ρ v v := by
  unfold Ja5 at h
  split at h
  · exact .agg _ _ rfl fun i h1 _ => .flat0 (Jj9 h i h1)
  · exact .tuple _ _ rfl fun i h1 _ => .flat0 (Jj9 h i h1)
  · exact .iface _ _ _ (.flat0 h)
  · exact .flat0 h
def ARen (ρ : Nat → Option (Nat × Nat)) (a b : Array Value) : Prop := a.size = b.size ∧ ∀ i (h : i < a.size) (h' : i < b.size), VRen ρ a[i] b[i]
def CRen (ρ : Nat → Option (Nat × Nat)) (d : Nat) (c c' : List Value) : Prop := d + c.length ≤ c'.length ∧ ∀ i (h : i < c.length) (h' : d + i < c'.length), VRen ρ c[i] c'[d + i]
def Ksx (ρ : Nat → Option (Nat × Nat)) (σs σ : St) (d : Nat) : AObj → AObj → Prop
  | .cells own v F c, .cells own' v' F' c' => (own = true → own' = true) ∧ (σs.rd own v F = true → σ.rd own' v' F' = true ∧ CRen ρ d c c')
  | .iter s p, .iter s' p' => s = s' ∧ p = p' ∧ d = 0
  | .map es n, .map es' n' => n = n' ∧ es.length = es'.length ∧ ∀ i (h : i < es.length) (h' : i < es'.length), VRen ρ es[i].1 es'[i].1 ∧ VRen ρ es[i].2.1 es'[i].2.1 ∧ es[i].2.2 = es'[i].2.2
  | _, _ => False
structure View (ρ : Nat → Option (Nat × Nat)) (σs σ : St) : Prop where
  wf : σs.Wf
  obj : ∀ A B d o', ρ A = some (B, d) → σ.get B = some o' → ∃ o, σs.get A = some o ∧ Ksx ρ σs σ d o o'
  share : ∀ A A' B B' d d', ρ A = some (B, d) → ρ A' = some (B', d') → A ≠ A' → (B = B' ∨ ∃ F, σ.fam B = some F ∧ σ.fam B' = some F) → ∃ F', σs.fam A = some F' ∧ σs.fam A' = some F'
  order : ∀ X O BX BO dX dO F v c own c', ρ X = some (BX, dX) → ρ O = some (BO, dO) → X ≠ O → σs.famO F = some O → σs.get X = some (.cells false v F c) → σs.get O = some (.cells own v F c') →
    BX ≠ BO ∧ ∃ F' v' c1 own' c1', σ.famO F' = some BO ∧ σ.get BX = some (.cells false v' F' c1) ∧ σ.get BO = some (.cells own' v' F' c1') ∧ dX + c.length ≤ c1.length ∧ c1'.length ≤ dO + c'.length
theorem View.rel {ρ : Nat → Option (Nat × Nat)} {σs σ : St} (h : View ρ σs σ) {g : Gam} {w : World} (hr : Rel g σ w) : Rel (gOf ρ g) σs w := by
  refine ⟨h.wf, fun A x hA => ?_, fun A x hA => ?_, fun A x A' x' hA hA' hb => ?_, fun X x O y F v c own c' hX hO hb hne hF gX gO => ?_, hr.tab.sub fun A x hA => by obtain ⟨B, d, y, _, hB, rfl⟩ := Jdc hA; exact ⟨B, y, hB, rfl⟩⟩
  · obtain ⟨B, d, y, _, hB, rfl⟩ := Jdc hA
    exact hr.blk B y hB
  · obtain ⟨B, d, y, hρ, hB, rfl⟩ := Jdc hA
    obtain ⟨o', ho', hs⟩ := hr.obj B y hB
    obtain ⟨o, ho, hv⟩ := h.obj A B d o' hρ ho'
    refine ⟨o, ho, ?_⟩
    cases o with
    | cells own v F c =>
      cases o' with
      | cells own' v' F' c' =>
        obtain ⟨cs, el, fr, e1, e2, e3, e4⟩ := hs
        refine ⟨cs, el, fr, e1, e2, fun hrd i hi => ?_, fun ho => e4 (hv.1 ho)⟩
        obtain ⟨k1, k2, k3⟩ := hv.2 hrd
        obtain ⟨v2, q1, q2⟩ := e3 k1 (d + i) (by omega)
        exact ⟨v2, by simp only [CA.sh]; rw [Nat.add_assoc]; exact q1, (k3 i hi (by omega)).pull q2⟩
      | iter _ _ => exact hv.elim
      | map _ _ => exact hv.elim
    | iter s p =>
      cases o' with
      | iter s' p' => obtain ⟨rfl, rfl, rfl⟩ := hv; exact hs
      | cells _ _ _ _ => exact hv.elim
      | map _ _ => exact hv.elim
    | map es n =>
      cases o' with
      | map es' n' =>
        obtain ⟨rfl, k1, k2⟩ := hv
        obtain ⟨es2, e1, e2, e3⟩ := hs
        refine ⟨es2, e1, k1.trans e2, fun i p q => ?_⟩
        obtain ⟨a1, a2, a3⟩ := k2 i p (by omega)
        obtain ⟨b1, b2, b3⟩ := e3 i (by omega) q
        exact ⟨a1.pull b1, a2.pull b2, a3.trans b3⟩
      | cells _ _ _ _ => exact hv.elim
      | iter _ _ => exact hv.elim
  · obtain ⟨B, d, y, hρ, hB, rfl⟩ := Jdc hA
    obtain ⟨B', d', y', hρ', hB', rfl⟩ := Jdc hA'
    by_cases e : A = A'
    · exact .inl e
    · exact .inr (h.share A A' B B' d d' hρ hρ' e (hr.share B y B' y' hB hB' hb))
  · obtain ⟨B, d, x, hρ, hB, rfl⟩ := Jdc hX
    obtain ⟨B', d', y, hρ', hB', rfl⟩ := Jdc hO
    obtain ⟨hneB, F', v', c1, own', c1', q1, q2, q3, q4, q5⟩ := h.order X O B B' d d' F v c own c' hρ hρ' hne hF gX gO
    have := hr.order B x B' y F' v' c1 own' c1' hB hB' hb hneB q1 q2 q3
    simp only [CA.sh]
    omega
def Ksy (ρ : Nat → Option (Nat × Nat)) (σs σ : St) : AObj → AObj → Prop
  | .cells own v F c, .cells own' v' F' c' => (own' = true → own = true) ∧ (σ.rd own' v' F' = true → σs.rd own v F = true ∧ c'.length ≤ c.length ∧ ∀ i (h : i < c.length) (h' : i < c'.length), VRen ρ c[i] c'[i])
  | .iter s p, .iter s' p' => s = s' ∧ p = p'
  | .map es n, .map es' n' => n = n' ∧ es.length = es'.length ∧ ∀ i (h : i < es.length) (h' : i < es'.length), VRen ρ es[i].1 es'[i].1 ∧ VRen ρ es[i].2.1 es'[i].2.1 ∧ es[i].2.2 = es'[i].2.2
  | _, _ => False
structure Frm (gl : List Nat) (args0 args : Array Value) (σs σs' σ σ' : St) (ρ ρ' : Nat → Option (Nat × Nat)) : Prop where
  view : View ρ σs σ
  argsR : ARen ρ args0 args
  glob : ∀ b, gl.contains b = true → ρ b = some (b, 0)
  dom : ∀ A B d, ρ A = some (B, d) → A < σs.next ∧ B < σ.next
  kinds : ∀ A B d, ρ A = some (B, d) → σs.ro A ∨ (d = 0 ∧ ∃ v F c, σs.get A = some (.cells true v F c))
  named : ∀ A B d, ρ A = some (B, d) → ¬ σs.ro A → ∀ g w args', Rel g σ w → ARel g args args' → g B ≠ none
  wf' : σ'.Wf
  old : ∀ A, A < σs.next → ρ' A = ρ A
  new : ∀ A B d, σs.next ≤ A → ρ' A = some (B, d) → σ.next ≤ B ∧ d = 0
  inj' : ∀ A A' B d d', σs.next ≤ A → σs.next ≤ A' → ρ' A = some (B, d) → ρ' A' = some (B, d') → A = A'
  next : σ.next ≤ σ'.next
  still : ∀ B, B < σ.next → (∀ A d, ρ A = some (B, d) → σs.ro A) → σ'.get B = σ.get B
  calm : ∀ B own v F c, B < σ.next → (∀ A d, ρ A = some (B, d) → σs.ro A) → σ.get B = some (.cells own v F c) → σ'.rd own v F = true → σ.rd own v F = true ∧ ∀ A B0 d, ρ A = some (B0, d) → ¬ σs.ro A → σ.fam B0 ≠ some F
  kept : ∀ A B d, ρ A = some (B, d) → ¬ σs.ro A → ∃ own v F c, σs'.get A = some (.cells own v F c)
  post : ∀ A B d o, ρ' A = some (B, d) → ¬ σs.ro A → σs'.get A = some o → ∃ o', σ'.get B = some o' ∧ Ksy ρ' σs' σ' o o'
  famkeep : ∀ A B d, ρ A = some (B, d) → ¬ σs.ro A → σ'.fam B = σ.fam B
  share' : ∀ A A' B B' d d' F, ρ' A = some (B, d) → ρ' A' = some (B', d') → ¬ σs.ro A → ¬ σs.ro A' → σs'.fam A = some F → σs'.fam A' = some F → ∃ F', σ'.fam B = some F' ∧ σ'.fam B' = some F'
  order' : ∀ X O F v c own c', X ≠ O → σ'.famO F = some O → σ'.get X = some (.cells false v F c) → σ'.get O = some (.cells own v F c') →
    (X < σ.next ∧ O < σ.next ∧ σ.famO F = some O ∧ σ.get X = some (.cells false v F c) ∧ σ.get O = some (.cells own v F c')) ∨
    (∃ AX AO Fs vs cs own' cs', ρ' AX = some (X, 0) ∧ ρ' AO = some (O, 0) ∧ ¬ σs.ro AX ∧ ¬ σs.ro AO ∧ σs'.famO Fs = some AO ∧ σs'.get AX = some (.cells false vs Fs cs) ∧ σs'.get AO = some (.cells own' vs Fs cs') ∧ c.length ≤ cs.length ∧ cs'.length ≤ c'.length) ∨
    ((∀ A d, ρ' A = some (X, d) → σs.ro A) ∧ σ.next ≤ X) ∨ ((∀ A d, ρ' A = some (O, d) → σs.ro A) ∧ σ.next ≤ O)
  ro' : ∀ B, σ.ro B → σ'.ro B
theorem Jqm {σ : St} {A v F : Nat} {c : List Value} (h : σ.get A = some (.cells true v F c)) : ¬ σ.ro A := by
  rintro ⟨v', F', c', e, _⟩
  rw [h] at e; cases e
open Classical in
theorem SimF.frame {P : Program} {gl : List Nat} {f : FuncId} {args0 args : Array Value} {σs σs' σ σ' : St} {ρ ρ' : Nat → Option (Nat × Nat)} {v0 v : Value} (h : SimF P gl f args0 σs v0 σs') (hf : Frm gl args0 args σs σs' σ σ' ρ ρ') (hv : VRen ρ' v0 v) :
    SimF P gl f args σ v σ' := by
  intro g w args' hg hr ha
  have hr0 := hf.view.rel hr
  have hglob : Glob gl (gOf ρ g) := fun b hb => by
    obtain ⟨n, e⟩ := hg b hb
    exact ⟨n, Jn2 (hf.glob b hb) e⟩
  have ha0 : ARel (gOf ρ g) args0 args' := ⟨hf.argsR.1.trans ha.1, fun i p q => (hf.argsR.2 i p (by have := ha.1; omega)).pull (ha.2 i (by have := ha.1; omega) q)⟩
  refine (h (gOf ρ g) w args' hglob hr0 ha0).mono ?_
  rintro e w' ⟨v', g0', rfl, hv', hr0', hx⟩
  have glt : ∀ B x, g B = some x → B < σ.next := fun B x hB => by
    obtain ⟨o, ho, _⟩ := hr.obj B x hB
    exact hr.wf.lt B o ho
  have g0lt : ∀ A x, gOf ρ g A = some x → A < σs.next := fun A x hA => by
    obtain ⟨B, d, y, hρ, _, _⟩ := Jdc hA
    exact (hf.dom A B d hρ).1
  have g0old : ∀ A x, g0' A = some x → A < σs.next → gOf ρ g A = some x := fun A x hA hlt => by
    cases h0 : gOf ρ g A with
    | some y => rw [← hx.le A y h0]; exact hA
    | none => have := hx.new A x hA h0; omega
  obtain ⟨g', hg'⟩ : ∃ g' : Gam, g' = fun B => if B < σ.next then g B else if hB : ∃ A, σs.next ≤ A ∧ ρ' A = some (B, 0) then g0' (Classical.choose hB) else none := ⟨_, rfl⟩
  have gold : ∀ B, B < σ.next → g' B = g B := fun B hB => by rw [hg']; simp only; rw [if_pos hB]
  have gnew : ∀ A B, σs.next ≤ A → ρ' A = some (B, 0) → g' B = g0' A := fun A B hA hB => by
    have h1 := (hf.new A B 0 hA hB).1
    have hex : ∃ A, σs.next ≤ A ∧ ρ' A = some (B, 0) := ⟨A, hA, hB⟩
    rw [hg']; simp only
    rw [if_neg (by omega), dif_pos hex, hf.inj' _ _ _ _ _ (Classical.choose_spec hex).1 hA (Classical.choose_spec hex).2 hB]
  have gwhich : ∀ B x, g' B = some x → (B < σ.next ∧ g B = some x) ∨ (σ.next ≤ B ∧ ∃ A, σs.next ≤ A ∧ ρ' A = some (B, 0) ∧ g0' A = some x) := fun B x hB => by
    by_cases hlt : B < σ.next
    · rw [gold B hlt] at hB; exact .inl ⟨hlt, hB⟩
    · rw [hg'] at hB; simp only at hB
      rw [if_neg hlt] at hB
      split at hB
      · rename_i hex
        exact .inr ⟨by omega, Classical.choose hex, (Classical.choose_spec hex).1, (Classical.choose_spec hex).2, hB⟩
      · cases hB
  have gpush : ∀ A B d x, ρ' A = some (B, d) → g0' A = some x → ∃ y, g' B = some y ∧ x = y.sh d := fun A B d x hρ hA => by
    by_cases hlt : A < σs.next
    · have h0 := g0old A x hA hlt
      obtain ⟨B', d', y, hρ', hB', rfl⟩ := Jdc h0
      rw [hf.old A hlt, hρ'] at hρ
      cases hρ
      exact ⟨y, by rw [gold _ (glt _ _ hB')]; exact hB', rfl⟩
    · have hd := (hf.new A B d (by omega) hρ).2
      subst hd
      exact ⟨x, by rw [gnew A B (by omega) hρ]; exact hA, rfl⟩
  have gle : Gam.le g g' := fun B x hB => by rw [gold B (glt B x hB)]; exact hB
  have roA : ∀ A B d, ρ A = some (B, d) → ¬ σs.ro A → d = 0 ∧ ∃ v F c, σs.get A = some (.cells true v F c) := fun A B d hρ hn => (hf.kinds A B d hρ).resolve_left hn
  have ownB : ∀ A B d x, ρ A = some (B, d) → ¬ σs.ro A → g B = some x → ∃ v F c, σ.get B = some (.cells true v F c) := fun A B d x hρ hn hB => by
    obtain ⟨_, v, F, c, hA⟩ := roA A B d hρ hn
    obtain ⟨o', ho', hs⟩ := hr.obj B x hB
    obtain ⟨o, ho, hview⟩ := hf.view.obj A B d o' hρ ho'
    rw [hA] at ho; cases ho
    cases o' with
    | cells own' v' F' c' => have := hview.1 rfl; subst this; exact ⟨v', F', c', ho'⟩
    | iter _ _ => exact hview.elim
    | map _ _ => exact hview.elim
  have nonro_new : ∀ A, σs.next ≤ A → ¬ σs.ro A := fun A hA ⟨v, F, c, e, _⟩ => by have := hf.view.wf.lt A _ e; omega
  refine ⟨v', g', rfl, hv.push gpush hv', ?_, ?_⟩
  · refine ⟨hf.wf', fun B x hB => ?_, fun B x hB => ?_, fun B x B' x' hB hB' hbl => ?_, fun X x O y F vv c own c' hX hO hb hne hF gX gO => ?_, fun x hx => ⟨(hr0'.tab x hx).1, fun B y hB => by
      rcases gwhich B y hB with ⟨_, hB⟩ | ⟨_, A, _, _, hA⟩
      · exact (hr.tab x hx).2 B y hB
      · exact (hr0'.tab x hx).2 A y hA⟩⟩
    · rcases gwhich B x hB with ⟨_, hB⟩ | ⟨_, A, _, _, hA⟩
      · exact Nat.lt_of_lt_of_le (hr.blk B x hB) hx.size
      · exact hr0'.blk A x hA
    · have own_case : ∀ A d, ρ' A = some (B, d) → ¬ σs.ro A → g0' A = some x → ∃ o, σ'.get B = some o ∧ Jg3 g' σ' w' x o := by
        intro A d hρ hn hA
        obtain ⟨o, ho, hs⟩ := hr0'.obj A x hA
        obtain ⟨o', ho', hgl⟩ := hf.post A B d o hρ hn ho
        refine ⟨o', ho', ?_⟩
        cases o with
        | cells own v F c =>
          cases o' with
          | cells own' v' F' c' =>
            obtain ⟨cs, el, fr, e1, e2, e3, e4⟩ := hs
            refine ⟨cs, el, fr, e1, e2, fun hrd i hi => ?_, fun ho => e4 (hgl.1 ho)⟩
            obtain ⟨k1, k2, k3⟩ := hgl.2 hrd
            obtain ⟨v2, q1, q2⟩ := e3 k1 i (by omega)
            exact ⟨v2, q1, (k3 i (by omega) hi).push gpush q2⟩
          | iter _ _ => exact hgl.elim
          | map _ _ => exact hgl.elim
        | iter s p =>
          cases o' with
          | iter s' p' => obtain ⟨rfl, rfl⟩ := hgl; exact hs
          | cells _ _ _ _ => exact hgl.elim
          | map _ _ => exact hgl.elim
        | map es n =>
          cases o' with
          | map es' n' =>
            obtain ⟨rfl, k1, k2⟩ := hgl
            obtain ⟨es2, e1, e2, e3⟩ := hs
            refine ⟨es2, e1, k1.symm.trans e2, fun i p q => ?_⟩
            obtain ⟨a1, a2, a3⟩ := k2 i (by omega) p
            obtain ⟨b1, b2, b3⟩ := e3 i (by omega) q
            exact ⟨a1.push gpush b1, a2.push gpush b2, a3.symm.trans b3⟩
          | cells _ _ _ _ => exact hgl.elim
          | iter _ _ => exact hgl.elim
      rcases gwhich B x hB with ⟨hlt, hgB⟩ | ⟨_, A, hA1, hA2, hA3⟩
      · by_cases hcls : ∀ A d, ρ A = some (B, d) → σs.ro A
        · obtain ⟨o, ho, hs⟩ := hr.obj B x hgB
          refine ⟨o, (hf.still B hlt hcls).trans ho, ?_⟩
          by_cases htouch : ∃ A B0 d x0, ρ A = some (B0, d) ∧ ¬ σs.ro A ∧ g B0 = some x0 ∧ x0.block = x.block
          · obtain ⟨A, B0, d, x0, q1, q2, q3, q4⟩ := htouch
            have hneB : B0 ≠ B := fun e => q2 (hcls A d (e ▸ q1))
            rcases hr.share B0 x0 B x q3 hgB q4 with e | ⟨F, f1, f2⟩
            · exact (hneB e).elim
            · obtain ⟨v1, F1, c1, hB0⟩ := ownB A B0 d x0 q1 q2 q3
              have : F1 = F := by rw [St.fam_eq hB0] at f1; exact Option.some.inj f1
              subst this
              cases o with
              | iter _ _ => simp [St.fam, ho] at f2
              | map _ _ => simp [St.fam, ho] at f2
              | cells own v F c =>
                have : F = F1 := by rw [St.fam_eq ho] at f2; exact Option.some.inj f2
                subst this
                have hnrd : ¬ (σ'.rd own v F = true) := fun hrd => (hf.calm B own v F c hlt hcls ho hrd).2 A B0 d q1 q2 (St.fam_eq hB0)
                have hown : own = false := by
                  cases own with
                  | false => rfl
                  | true =>
                    rcases hr.wf.owner B v F c ho with a | ⟨_, a⟩
                    · rcases hr.wf.owner B0 v1 F c1 hB0 with b | ⟨b, _⟩
                      · rw [a] at b; exact (hneB (Option.some.inj b).symm).elim
                      · rw [a] at b; cases b
                    · exact (hneB (a B0 _ _ _ hB0)).elim
                subst hown
                obtain ⟨cs, el, fr, e1, e2, _, _⟩ := hs
                have hd0 := (roA A B0 d q1 q2).1
                subst hd0
                have h0 : gOf ρ g A = some (x0.sh 0) := Jn2 q1 q3
                obtain ⟨o2, ho2, hs2⟩ := hr0'.obj A x0 (hx.le A x0 h0)
                obtain ⟨own2, v2, F2, c2, e⟩ := hf.kept A B0 0 q1 q2
                rw [e] at ho2; cases ho2
                obtain ⟨cs2, el2, fr2, k1, k2, _, _⟩ := hs2
                obtain ⟨o3, ho3, hs3⟩ := hr.obj B0 x0 q3
                rw [hB0] at ho3; cases ho3
                obtain ⟨cs3, el3, fr3, k3, k4, _, _⟩ := hs3
                rw [q4] at k1 k3
                rw [e1] at k3; cases k3
                exact ⟨cs2, el2, fr2, k1, by omega, fun hrd => (hnrd hrd).elim, fun ho => by cases ho⟩
          · have hkeep : w'.heap[x.block]? = w.heap[x.block]? := hx.keep x.block (hr.blk B x hgB) fun A x0 hA e => by
              obtain ⟨B0, d, y, hρ, hB0, rfl⟩ := Jdc hA
              by_cases hn : σs.ro A
              · exact hn
              · exact (htouch ⟨A, B0, d, y, hρ, hn, hB0, e⟩).elim
            refine Jg3.mono gle hkeep (fun own ver fam c e hrd => ?_) hs
            subst e
            exact (hf.calm B own ver fam c hlt hcls ho hrd).1
        · obtain ⟨A, hA⟩ := not_forall.1 hcls
          obtain ⟨d, hA⟩ := not_forall.1 hA
          obtain ⟨hρ, hn⟩ := Classical.not_imp.1 hA
          have hd0 := (roA A B d hρ hn).1
          subst hd0
          have hlt2 := (hf.dom A B 0 hρ).1
          exact own_case A 0 (by rw [hf.old A hlt2]; exact hρ) hn (hx.le A (x.sh 0) (Jn2 hρ hgB))
      · exact own_case A 0 hA2 (nonro_new A hA1) hA3
    · have famOld : ∀ B x F, g B = some x → σ.fam B = some F → σ'.fam B = some F := fun B x F hB hF => by
        by_cases hcls : ∀ A d, ρ A = some (B, d) → σs.ro A
        · unfold St.fam at hF ⊢; rw [hf.still B (glt B x hB) hcls]; exact hF
        · obtain ⟨A, hA⟩ := not_forall.1 hcls
          obtain ⟨d, hA⟩ := not_forall.1 hA
          obtain ⟨hρ, hn⟩ := Classical.not_imp.1 hA
          rw [hf.famkeep A B d hρ hn]; exact hF
      have mixed : ∀ B x, g B = some x → ∀ A' B' x', σs.next ≤ A' → ρ' A' = some (B', 0) → g0' A' = some x' → x.block = x'.block → ∃ F, σ'.fam B = some F ∧ σ'.fam B' = some F := by
        intro B x hB A' B' x' hA' hρ' hg0 e
        have hnone : gOf ρ g A' = none := by
          cases h0 : gOf ρ g A' with
          | none => rfl
          | some y => have := g0lt A' y h0; omega
        rcases hx.fresh A' x' hg0 hnone with hfr | ⟨A0, x0, q1, q2, q3⟩
        · have := hr.blk B x hB; omega
        · obtain ⟨B0, d0, y0, hρ0, hB0, rfl⟩ := Jdc q1
          have hρ0' : ρ' A0 = some (B0, d0) := by rw [hf.old A0 (g0lt A0 _ q1)]; exact hρ0
          rcases hr0'.share A0 _ A' x' (hx.le A0 _ q1) hg0 q2 with e2 | ⟨F, f1, f2⟩
          · have := g0lt A0 _ q1; omega
          · obtain ⟨F', f3, f4⟩ := hf.share' A0 A' B0 B' d0 0 F hρ0' hρ' q3 (nonro_new A' hA') f1 f2
            have q2 : y0.block = x'.block := q2
            rcases hr.share B x B0 y0 hB hB0 (by omega) with e3 | ⟨F2, f5, f6⟩
            · subst e3; exact ⟨F', f3, f4⟩
            · have h5 := famOld B x F2 hB f5
              have h6 := famOld B0 y0 F2 hB0 f6
              rw [f3] at h6; cases h6
              exact ⟨F', h5, f4⟩
      rcases gwhich B x hB with ⟨hlt, hgB⟩ | ⟨_, A, hA1, hA2, hA3⟩
      · rcases gwhich B' x' hB' with ⟨hlt', hgB'⟩ | ⟨_, A', hA1', hA2', hA3'⟩
        · rcases hr.share B x B' x' hgB hgB' hbl with e | ⟨F, f1, f2⟩
          · exact .inl e
          · exact .inr ⟨F, famOld B x F hgB f1, famOld B' x' F hgB' f2⟩
        · exact .inr (mixed B x hgB A' B' x' hA1' hA2' hA3' hbl)
      · rcases gwhich B' x' hB' with ⟨hlt', hgB'⟩ | ⟨_, A', hA1', hA2', hA3'⟩
        · obtain ⟨F, f1, f2⟩ := mixed B' x' hgB' A B x hA1 hA2 hA3 hbl.symm
          exact .inr ⟨F, f2, f1⟩
        · rcases hr0'.share A x A' x' hA3 hA3' hbl with e | ⟨F, f1, f2⟩
          · subst e; rw [hA2] at hA2'; cases hA2'; exact .inl rfl
          · exact .inr (hf.share' A A' B B' 0 0 F hA2 hA2' (nonro_new A hA1) (nonro_new A' hA1') f1 f2)
    · rcases hf.order' X O F vv c own c' hne hF gX gO with ⟨h1, h2, h3, h4, h5⟩ | ⟨AX, AO, Fs, vs, cs, own', cs', q1, q2, q3, q4, q5, q6, q7, q8, q9⟩ | ⟨hcls, hge⟩ | ⟨hcls, hge⟩
      · rw [gold X h1] at hX
        rw [gold O h2] at hO
        exact hr.order X x O y F vv c own c' hX hO hb hne h3 h4 h5
      · have back : ∀ A B x, ρ' A = some (B, 0) → g' B = some x → g0' A = some x := by
          intro A B x hρ hB
          by_cases hlt : A < σs.next
          · rw [hf.old A hlt] at hρ
            have hlt2 := (hf.dom A B 0 hρ).2
            rw [gold B hlt2] at hB
            exact hx.le A (x.sh 0) (Jn2 hρ hB)
          · rw [gnew A B (by omega) hρ] at hB; exact hB
        have hne2 : AX ≠ AO := fun e => by subst e; rw [q1] at q2; cases q2; exact hne rfl
        have := hr0'.order AX x AO y Fs vs cs own' cs' (back _ _ _ q1 hX) (back _ _ _ q2 hO) hb hne2 q5 q6 q7
        omega
      · rcases gwhich X x hX with ⟨hlt, _⟩ | ⟨_, A, hA1, hA2, _⟩
        · omega
        · exact (nonro_new A hA1 (hcls A 0 hA2)).elim
      · rcases gwhich O y hO with ⟨hlt, _⟩ | ⟨_, A, hA1, hA2, _⟩
        · omega
        · exact (nonro_new A hA1 (hcls A 0 hA2)).elim
  · refine ⟨gle, fun B x hB h0 => ?_, fun B x hB h0 => ?_, hx.size, fun b hb hall => ?_, fun B h0 hN => ?_, fun B hro => ?_, hf.next, hx.os, hx.out, hx.tape⟩
    · rcases gwhich B x hB with ⟨_, h1⟩ | ⟨h1, _⟩
      · rw [h0] at h1; cases h1
      · exact h1
    · rcases gwhich B x hB with ⟨_, h1⟩ | ⟨_, A, hA1, hA2, hA3⟩
      · rw [h0] at h1; cases h1
      · have hnone : gOf ρ g A = none := by
          cases h0 : gOf ρ g A with
          | none => rfl
          | some y => have := g0lt A y h0; omega
        rcases hx.fresh A x hA3 hnone with hfr | ⟨A0, x0, q1, q2, q3⟩
        · exact .inl hfr
        · obtain ⟨B0, d0, y0, hρ0, hB0, rfl⟩ := Jdc q1
          obtain ⟨v1, F1, c1, e⟩ := ownB A0 B0 d0 y0 hρ0 q3 hB0
          exact .inr ⟨B0, y0, hB0, q2, Jqm e⟩
    · refine hx.keep b hb fun A x hA e => ?_
      obtain ⟨B0, d0, y0, hρ0, hB0, rfl⟩ := Jdc hA
      by_cases hn : σs.ro A
      · exact hn
      · obtain ⟨v1, F1, c1, e1⟩ := ownB A B0 d0 y0 hρ0 hn hB0
        exact (Jqm e1 (hall B0 y0 hB0 e)).elim
    · have hlt : B < σ.next := Nat.lt_of_not_le hN
      refine hf.still B hlt fun A d hρ => ?_
      by_cases hn : σs.ro A
      · exact hn
      · exact (hf.named A B d hρ hn g w args' hr ha h0).elim
    · obtain ⟨v1, F1, c1, e1, e2⟩ := hro
      have hlt := hr.wf.lt B _ e1
      refine ⟨hf.still B hlt fun A d hρ => ?_, hf.ro' B ⟨v1, F1, c1, e1, e2⟩⟩
      by_cases hn : σs.ro A
      · exact hn
      · obtain ⟨_, v2, F2, c2, h2⟩ := roA A B d hρ hn
        obtain ⟨o, ho, hview⟩ := hf.view.obj A B d _ hρ e1
        rw [h2] at ho; cases ho
        have := hview.1 rfl
        cases this
def TF (P : Program) (gl : List Nat) (f : FuncId) (args : Array Value) (σ : St) (Q : Value → St → Prop) : Prop := ∃ v σ', SimF P gl f args σ v σ' ∧ Q v σ'
theorem TF.mono {P : Program} {gl : List Nat} {f : FuncId} {args : Array Value} {σ : St} {Q Q' : Value → St → Prop} (h : TF P gl f args σ Q) (hq : ∀ v σ', Q v σ' → Q' v σ') : TF P gl f args σ Q' := by
  obtain ⟨v, σ', a, b⟩ := h; exact ⟨v, σ', a, hq _ _ b⟩
theorem TF.of {P : Program} {gl : List Nat} {f : FuncId} {args : Array Value} {σ : St} {v : Value} {σ' : St} {Q : Value → St → Prop} (h : SimF P gl f args σ v σ') (hq : Q v σ') : TF P gl f args σ Q := ⟨v, σ', h, hq⟩
def Jqx (P : Program) (gl : List Nat) (r : Option (Value × St)) (f : FuncId) (args : Array Value) (σ : St) (K : Value → St → Prop) : Prop := match r with
  | some (v, σ') => K v σ'
  | none => TF P gl f args σ K
def onOp (P : Program) (gl : List Nat) (C : Jd9) (w : Bool) (r : Option ARes) (σ : St) (K : Value → St → Prop) : Prop := match w with
  | true => match r with
    | some (.val v σ') => K v σ'
    | some (.enter f args) => Jqx P gl (C f args σ) f args σ K
    | none => False
  | false => K undef σ
theorem Kb7 {P : Program} {gl : List Nat} {C : Jd9} {f : FuncId} {args : Array Value} {σ : St} {K : Value → St → Prop} : onOp P gl C true (some (.enter f args)) σ K = Jqx P gl (C f args σ) f args σ K := rfl
def wpO (P : Program) (gl : List Nat) (C : Jd9) (ops : Array Oper) (base : Nat) : List Oper → Nat → Env → St → (Env → St → Prop) → Prop
  | [], _, env, σ, Q => Q env σ
  | o :: r, i, env, σ, Q => onOp P gl C (Jbg ops env o) (Jal P (rho env) (base + i) o σ) σ fun v σ' => wpO P gl C ops base r (i + 1) (Jcw env o.dst v) σ' Q
def RunO (P : Program) (gl : List Nat) (ops : Array Oper) (base : Nat) : List Oper → Nat → Env → St → Env → St → Prop
  | [], _, env, σ, env', σ' => env' = env ∧ σ' = σ
  | o :: r, i, env, σ, env', σ' =>
    (Jbg ops env o = true ∧ ∃ v σ1, Jqi P gl (rho env) (base + i) o σ v σ1 ∧ RunO P gl ops base r (i + 1) (Jcw env o.dst v) σ1 env' σ') ∨
    (Jbg ops env o = false ∧ RunO P gl ops base r (i + 1) (Jcw env o.dst undef) σ env' σ')
section
variable {P : Program} {gl : List Nat} {C : Jd9} {ops : Array Oper} {base N : Nat}
theorem Jxk (hC : C.ok P gl) {Q : Env → St → Prop} : ∀ (l : List Oper) (i : Nat) (env : Env) (σ : St), wpO P gl C ops base l i env σ Q → ∃ env' σ', RunO P gl ops base l i env σ env' σ' ∧ Q env' σ'
  | [], i, env, σ, h => ⟨env, σ, ⟨rfl, rfl⟩, h⟩
  | o :: r, i, env, σ, h => by
    simp only [wpO] at h
    cases hw : Jbg ops env o with
    | true =>
      rw [hw] at h
      have go : ∀ v σ1, Jqi P gl (rho env) (base + i) o σ v σ1 → wpO P gl C ops base r (i + 1) (Jcw env o.dst v) σ1 Q → ∃ env' σ', RunO P gl ops base (o :: r) i env σ env' σ' ∧ Q env' σ' := fun v σ1 hs h2 => by
        obtain ⟨env', σ', a, b⟩ := Jxk hC r (i + 1) _ _ h2
        exact ⟨env', σ', .inl ⟨hw, v, σ1, hs, a⟩, b⟩
      cases he : Jal P (rho env) (base + i) o σ with
      | none => rw [he] at h; exact h.elim
      | some q =>
        rw [he] at h
        cases q with
        | val v σ1 => exact go v σ1 (.inl he) h
        | enter f args =>
          rw [Kb7] at h
          cases hc : C f args σ with
          | some p => obtain ⟨v, σ1⟩ := p; rw [hc] at h; exact go v σ1 (.inr (.inl ⟨f, args, he, hC _ _ _ _ _ hc⟩)) h
          | none =>
            rw [hc] at h
            obtain ⟨v, σ1, hs, h2⟩ := h
            exact go v σ1 (.inr (.inl ⟨f, args, he, hs⟩)) h2
    | false =>
      rw [hw] at h
      obtain ⟨env', σ', a, b⟩ := Jxk hC r (i + 1) _ _ h
      exact ⟨env', σ', .inr ⟨hw, a⟩, b⟩
theorem Kll {Ds : List Deferred} {Q : Exit → Act → World → Prop} {env' : Env} {σ' : St} : ∀ (l : List Oper) (i : Nat) (env : Env) (σ : St) (g : Gam) (w : World) (a : Act),
    RunO P gl ops base l i env σ env' σ' → (∀ o ∈ l, Jfj gl N o = true ∧ Jef ops N o = true) → (∀ j o, l[j]? = some o → ops[i + j]? = some o) → i + l.length = ops.size → base + ops.size ≤ σ.next → (∀ j, i ≤ j → j < ops.size → σ.get (base + j) = none) →
    Glob gl g → Rel g σ w → Jco Ds g N env a →
    (∀ a' w' g', Rel g' σ' w' → Jco Ds g' N env' a' → Ext (fun A => base ≤ A) g g' σ σ' w w' → Q .normal a' w') → wpOps P ops Q (List.range' i l.length) a w
  | [], i, env, σ, g, w, a, h, _, _, _, _, _, hg, hr, he, k => by
    obtain ⟨rfl, rfl⟩ := h
    exact k a w g hr he (Ext.refl _ _ _ _)
  | o :: r, i, env, σ, g, w, a, h, hok, hops, hlen, hnext, hfree, hg, hr, he, k => by
    obtain ⟨ok1, ok2⟩ := hok o (by simp)
    simp only [Jfj, Bool.and_eq_true, List.all_eq_true] at ok1
    have hρ : ∀ x ∈ o.op.operands, VRel g (rho env x) (a.eval x) := fun x hx => he.rho hg (ok1.1 x (by simpa using hx))
    have hoi : ops[i]? = some o := by have := hops 0 o rfl; simpa using this
    have hi : i < ops.size := by simp at hlen; omega
    have hw := Jtd he o ok2
    simp only [List.length_cons, List.range'_succ, wpOps, hoi, hw]
    have rest := fun (env2 : Env) (σ2 : St) (g2 : Gam) (w2 : World) (a2 : Act) (h2 : RunO P gl ops base r (i + 1) env2 σ2 env' σ') (hn2 : base + ops.size ≤ σ2.next) (hf2 : ∀ j, i + 1 ≤ j → j < ops.size → σ2.get (base + j) = none)
        (hg2 : Glob gl g2) (hr2 : Rel g2 σ2 w2) (he2 : Jco Ds g2 N env2 a2) (k2 : ∀ a' w' g', Rel g' σ' w' → Jco Ds g' N env' a' → Ext (fun A => base ≤ A) g2 g' σ2 σ' w2 w' → Q .normal a' w') =>
      Kll r (i + 1) env2 σ2 g2 w2 a2 h2 (fun o' ho' => hok o' (by simp [ho'])) (fun j o' hj => by have := hops (j + 1) o' (by simpa using hj); rwa [show i + 1 + j = i + (j + 1) by omega]) (by simp at hlen; omega) hn2 hf2 hg2 hr2 he2 k2
    rcases h with ⟨hwant, v, σ1, hs, h2⟩ | ⟨hwant, h2⟩
    · rw [if_pos hwant]
      left
      refine hs.wp hg hr (hfree i (Nat.le_refl _) hi) (by omega) hρ fun v' w' g' hv hr' hx => ?_
      have hx' : Ext (fun A => base ≤ A) g g' σ σ1 w w' := hx.mono fun A hA => by rcases hA with rfl | hA <;> omega
      refine rest _ σ1 g' w' _ h2 (Nat.le_trans hnext hx.next) (fun j h1 h2 => ?_) (hg.mono hx.le) hr' ((he.mono hx.le).put ok1.2 hv) fun a'' w'' g'' r1 r2 r3 => k a'' w'' g'' r1 r2 (hx'.trans r3)
      have hnone := hfree j (by omega) h2
      have gnone : g (base + j) = none := by
        cases e : g (base + j) with
        | none => rfl
        | some x => obtain ⟨ob, hob, _⟩ := hr.obj _ x e; rw [hnone] at hob; cases hob
      rw [hx.frame (base + j) gnone (by omega)]
      exact hnone
    · rw [if_neg (by rw [hwant]; simp)]
      exact rest _ σ g w _ h2 hnext (fun j h1 h2 => hfree j (by omega) h2) hg hr (he.put ok1.2 (.tuple _ _ rfl fun i h => by simp at h)) k
theorem Krm (hC : C.ok P gl) {id : Nat} {env : Env} {σ : St} {Q : Env → St → Prop} (hok : ∀ o ∈ ops.toList, Jfj gl N o = true ∧ Jef ops N o = true)
    (h : wpO P gl C ops σ.next ops.toList 0 env (σ.bump ops.size) Q) : ∃ env' σ', SimC P gl N (.region id ops false) env σ .normal env' σ' ∧ Q env' σ' := by
  obtain ⟨env', σ', hrun, hq⟩ := Jxk hC _ _ _ _ h
  refine ⟨env', σ', fun Ds g w a hg hr he => ?_, hq⟩
  refine wp_region ?_
  have hrange : List.range ops.size = List.range' 0 ops.toList.length := by rw [List.range_eq_range']; simp
  rw [hrange]
  have hb := Ext.bump (N := fun A => σ.next ≤ A) g σ w ops.size
  refine Kll ops.toList 0 env (σ.bump ops.size) g w a hrun hok (fun j o hj => by simpa using hj) (by simp) (Nat.le_refl _) (fun j _ _ => ?_) hg (hr.bump _) he fun a' w' g' r1 r2 r3 => ⟨rfl, g', r1, r2, hb.trans r3⟩
  cases e : (σ.bump ops.size).get (σ.next + j) with
  | none => rfl
  | some o => have := hr.wf.lt _ o e; omega
def Je2 (l : List (Nat × AObj)) (σ : St) : St := l.foldl (fun σ x => σ.set x.1 x.2) σ
def onQ (P : Program) (gl : List Nat) (C : Jd9) (w : Bool) (cl : Cls) (id : Nat) (ev : St → Option ARes) (τ : St) (pend : List (Nat × AObj)) (K : Value → St → List (Nat × AObj) → Prop) : Prop := match w with
  | false => K undef τ pend
  | true => match cl with
    | .alloc => match ev τ with
      | some (.val v σ1) => match σ1.get id with
        | some ao => K v τ (pend ++ [(id, ao)])
        | none => False
      | _ => False
    | .loud => match ev (Je2 pend τ) with
      | some (.val v σ') => K v σ' []
      | some (.enter f args) => Jqx P gl (C f args (Je2 pend τ)) f args (Je2 pend τ) fun v σ' => K v σ' []
      | none => False
    | _ => match ev τ with
      | some (.val v _) => K v τ pend
      | _ => False
def onQ2 (P : Program) (gl : List Nat) (C : Jd9) (cl : Cls) (id : Nat) (r : Option ARes) (τ : St) (pend : List (Nat × AObj)) (K : Value → St → List (Nat × AObj) → Prop) : Prop := match cl with
    | .alloc => match r with
      | some (.val v σ1) => match σ1.get id with
        | some ao => K v τ (pend ++ [(id, ao)])
        | none => False
      | _ => False
    | .loud => match r with
      | some (.val v σ') => K v σ' []
      | some (.enter f args) => Jqx P gl (C f args τ) f args τ fun v σ' => K v σ' []
      | none => False
    | _ => match r with
      | some (.val v _) => K v τ pend
      | _ => False
def Kqo (o : Option AObj) (K : AObj → Prop) : Prop := match o with
  | some ao => K ao
  | none => False
section
variable {P : Program} {gl : List Nat} {C : Jd9} {id : Nat} {ev : St → Option ARes} {τ : St} {pend : List (Nat × AObj)} {K : Value → St → List (Nat × AObj) → Prop} {v : Value} {σ' : St} {f : FuncId} {args : Array Value}
theorem Kax : onQ P gl C true .pure id ev τ pend K = onQ2 P gl C .pure id (ev τ) τ pend K := rfl
theorem Kaw : onQ P gl C true .read id ev τ pend K = onQ2 P gl C .read id (ev τ) τ pend K := rfl
theorem Jtw : onQ P gl C true .alloc id ev τ pend K = onQ2 P gl C .alloc id (ev τ) τ pend K := rfl
theorem Kay : onQ P gl C true .loud id ev τ pend K = onQ2 P gl C .loud id (ev (Je2 pend τ)) (Je2 pend τ) pend K := rfl
theorem Jty : onQ2 P gl C .pure id (some (.val v σ')) τ pend K = K v τ pend := rfl
theorem Jtx : onQ2 P gl C .read id (some (.val v σ')) τ pend K = K v τ pend := rfl
theorem Jqu : onQ2 P gl C .loud id (some (.enter f args)) τ pend K = Jqx P gl (C f args τ) f args τ fun v σ' => K v σ' [] := rfl
theorem Jqv : onQ2 P gl C .alloc id (some (.val v σ')) τ pend K = Kqo (σ'.get id) fun ao => K v τ (pend ++ [(id, ao)]) := rfl
theorem Jqw {ao : AObj} {K : AObj → Prop} : Kqo (some ao) K = K ao := rfl
end
def wpQ (P : Program) (gl : List Nat) (C : Jd9) (ops : Array Oper) (base : Nat) : List Oper → Nat → Env → St → List (Nat × AObj) → (Env → St → Prop) → Prop
  | [], _, env, τ, pend, Q => Q env (Je2 pend τ)
  | o :: r, i, env, τ, pend, Q => onQ P gl C (Jbg ops env o) (Jac P o.op) (base + i) (Jal P (rho env) (base + i) o) τ pend fun v τ' pend' => wpQ P gl C ops base r (i + 1) (Jcw env o.dst v) τ' pend' Q
theorem Kar {o : Oper} {ρ : Operand → Value} {v : Value} (h : Kbj P ρ o v) : Kdu P ρ o v := h.2
theorem Jup {o : Oper} {ρ : Operand → Value} {id : Nat} {v : Value} {ao : AObj} (h : Kln P ρ o id v ao) : Jrn P ρ o id v ao := h.2
theorem Kah {B : List Nat} (hC : C.ok P gl) (hs : Jc3 P ops B) (hq : ∀ (i : Nat) (o : Oper), ops[i]? = some o → Jac P o.op = .loud → ∀ (k : Nat) (ok : Oper), ops[k]? = some ok → (Jac P ok.op = .alloc → k < i → bit B i k = true) ∧ (Jac P ok.op = .read → bit B i k = true ∨ bit B k i = true))
    {Q : Env → St → Prop} : ∀ (l : List Oper) (env : Env) (τ : St) (Rw : List TRow),
    (∀ j o, l[j]? = some o → ops[Rw.length + j]? = some o) → Rw.length + l.length = ops.size →
    (∀ j, j < Rw.length → ral Rw j = true → ∃ o, ops[j]? = some o ∧ Jac P o.op = .alloc) →
    wpQ P gl C ops base l Rw.length env τ (Jec base B Rw) Q →
    ∃ (R' : List TRow) (env' : Env) (τ' : St), (∃ S, R' = Rw ++ S ∧ S.length = l.length) ∧ Q env' (Jdo base (rao R') (Jde (rlo R') (ral R') B ops.size) τ') ∧
      renv R' env' Rw.length = env ∧ rst R' τ' Rw.length = τ ∧
      ∀ j o, l[j]? = some o → renv R' env' (Rw.length + j + 1) = Jcw (renv R' env' (Rw.length + j)) o.dst (rval R' (Rw.length + j)) ∧
        Jrm P gl ops base B (renv R' env') (rst R' τ') (rval R') (rao R') (rlo R') (ral R') (Rw.length + j) o
  | [], env, τ, Rw, hl, hlen, hal, h => by
    simp only [wpQ] at h
    have h : Q env ((Jec base B Rw).foldl (fun σ x => σ.set x.1 x.2) τ) := h
    rw [Ji2] at h
    simp only [List.length_nil, Nat.add_zero] at hlen
    refine ⟨Rw, env, τ, ⟨[], by simp⟩, by rw [← hlen]; exact h, ?_, ?_, fun j o hj => by simp at hj⟩
    · unfold renv; rw [List.getElem?_eq_none (Nat.le_refl _)]
    · unfold rst; rw [List.getElem?_eq_none (Nat.le_refl _)]
  | o :: l, env, τ, Rw, hl, hlen, hal, h => by
    have hoi : ops[Rw.length]? = some o := by have := hl 0 o rfl; simpa using this
    have behind : ∀ (r0 : TRow) (τ2 : St), r0.env = env → r0.st = τ →
        wpQ P gl C ops base l (Rw.length + 1) (Jcw env o.dst r0.v) τ2 (Jec base B (Rw ++ [r0])) Q → ((r0.k == 2) = true → Jac P o.op = .alloc) →
        (∀ (R' : List TRow) (e' : Env) (τ' : St), (∃ S, R' = Rw ++ r0 :: S) → renv R' e' Rw.length = env → rst R' τ' Rw.length = τ → rst R' τ' (Rw.length + 1) = τ2 → rval R' Rw.length = r0.v → rao R' Rw.length = r0.ao → rlo R' Rw.length = (r0.k == 4) → ral R' Rw.length = (r0.k == 2) →
          Jrm P gl ops base B (renv R' e') (rst R' τ') (rval R') (rao R') (rlo R') (ral R') Rw.length o) →
        ∃ (R' : List TRow) (env' : Env) (τ' : St), (∃ S, R' = Rw ++ S ∧ S.length = (o :: l).length) ∧ Q env' (Jdo base (rao R') (Jde (rlo R') (ral R') B ops.size) τ') ∧
          renv R' env' Rw.length = env ∧ rst R' τ' Rw.length = τ ∧
          ∀ j o', (o :: l)[j]? = some o' → renv R' env' (Rw.length + j + 1) = Jcw (renv R' env' (Rw.length + j)) o'.dst (rval R' (Rw.length + j)) ∧
            Jrm P gl ops base B (renv R' env') (rst R' τ') (rval R') (rao R') (rlo R') (ral R') (Rw.length + j) o' := by
      intro r0 τ2 he hst hrun hk2 hrow
      have hlen2 : (Rw ++ [r0]).length = Rw.length + 1 := by simp
      obtain ⟨R', env', τ', ⟨S, hS, hSl⟩, h1, h2, h3, h4⟩ := Kah hC hs hq l _ τ2 (Rw ++ [r0]) (fun j o' hj => by rw [hlen2]; have := hl (j + 1) o' (by simpa using hj); rwa [show Rw.length + 1 + j = Rw.length + (j + 1) by omega])
        (by rw [hlen2]; simp at hlen; omega) (fun j hj ha => by
          rw [hlen2] at hj
          by_cases e : j = Rw.length
          · subst e
            have : ral (Rw ++ [r0]) Rw.length = (r0.k == 2) := by unfold ral; rw [Jeb]
            exact ⟨o, hoi, hk2 (by rw [← this]; exact ha)⟩
          · have hlt : j < Rw.length := by omega
            rw [Jld hlt] at ha
            exact hal j hlt ha) (by rw [hlen2]; exact hrun)
      have hR' : R' = Rw ++ r0 :: S := by rw [hS]; simp
      have hget : R'[Rw.length]? = some r0 := by rw [hR']; exact Jeb
      have e1 : renv R' env' Rw.length = env := by unfold renv; rw [hget]; exact he
      have e2 : rst R' τ' Rw.length = τ := by unfold rst; rw [hget]; exact hst
      have e3 : rval R' Rw.length = r0.v := by unfold rval; rw [hget]
      have e4 : rlo R' Rw.length = (r0.k == 4) := by unfold rlo; rw [hget]
      have e5 : ral R' Rw.length = (r0.k == 2) := by unfold ral; rw [hget]
      have e6 : rao R' Rw.length = r0.ao := by unfold rao; rw [hget]
      rw [hlen2] at h2 h3 h4
      refine ⟨R', env', τ', ⟨r0 :: S, hR', by simp [hSl]⟩, h1, e1, e2, fun j o' hj => ?_⟩
      cases j with
      | succ j =>
        have := h4 j o' (by simpa using hj)
        rw [show Rw.length + (j + 1) = Rw.length + 1 + j by omega]
        exact this
      | zero =>
        simp only [List.getElem?_cons_zero, Option.some.injEq] at hj
        subst hj
        simp only [Nat.add_zero]
        refine ⟨by rw [h2, e1, e3], hrow R' _ τ' ⟨S, hR'⟩ e1 e2 h3 e3 e6 e4 e5⟩
    simp only [wpQ] at h
    cases hw : Jbg ops env o with
    | true =>
      rw [hw] at h
      have loud : Jac P o.op = .loud → ∀ v σ', Jqi P gl (rho env) (base + Rw.length) o (Je2 (Jec base B Rw) τ) v σ' → wpQ P gl C ops base l (Rw.length + 1) (Jcw env o.dst v) σ' [] Q → _ := fun hcl v σ' hst hk => by
        have hall : ∀ k, k < Rw.length → ral Rw k = true → bit B Rw.length k = true := fun k hk2 ha => by
          obtain ⟨ok, h1, h2⟩ := hal k hk2 ha
          exact (hq _ o hoi hcl k ok h1).1 h2 hk2
        refine behind ⟨v, 4, .iter .empty 0, env, τ⟩ σ' rfl rfl (by rw [Jqp rfl hall]; exact hk) (fun q => by cases q) fun R' e' τ' hS q1 q2 q3 q4 q5 q6 q7 => ?_
        obtain ⟨S, hS⟩ := hS
        refine .inr (.inr (.inr (.inr ⟨by rw [q1]; exact hw, q6, q7, hcl, ?_⟩)))
        have hst : Jqi P gl (rho env) (base + Rw.length) o ((Jec base B Rw).foldl (fun σ x => σ.set x.1 x.2) τ) v σ' := hst
        rw [Ji2] at hst
        refine ⟨rho env, fun x hx => by rw [q1], ?_⟩
        rw [q2, q3, q4]
        have e1 : Jc0 (rlo R') (ral R') B Rw.length = Jde (rlo Rw) (ral Rw) B Rw.length := by
          rw [Jl5 (lo' := rlo Rw) (al' := ral Rw) (fun j hj => by rw [hS]; exact Jk9 hj) (fun j hj => by rw [hS]; exact Jld hj)]
          exact Jt8 hall
        rw [e1, Jj2 (ao' := rao Rw)]
        · exact hst
        · intro k hk2
          rw [hS]; exact Jxz (Jts hk2)
      cases hcl : Jac P o.op with
      | pure =>
        rw [hcl, Kax] at h
        cases he : Jal P (rho env) (base + Rw.length) o τ with
        | none => rw [he] at h; exact h.elim
        | some q =>
          obtain ⟨v, e2, hp⟩ := Jn8 hcl he
          subst e2
          rw [he, Jty] at h
          refine behind ⟨v, 1, .iter .empty 0, env, τ⟩ τ rfl rfl (by rw [Jle (P := P) (ops := ops) hs rfl rfl]; exact h) (fun q => by cases q) fun R' e' τ' _ q1 q2 q3 q4 q5 q6 q7 => ?_
          exact .inr (.inl ⟨by rw [q1]; exact hw, q6, q7, by rw [q3, q2], by rw [q1, q4]; exact Kar hp⟩)
      | read =>
        rw [hcl, Kaw] at h
        cases he : Jal P (rho env) (base + Rw.length) o τ with
        | none => rw [he] at h; exact h.elim
        | some q =>
          obtain ⟨v, e2, hp⟩ := Jj6 hcl he
          subst e2
          rw [he, Jtx] at h
          refine behind ⟨v, 3, .iter .empty 0, env, τ⟩ τ rfl rfl (by rw [Jle (P := P) (ops := ops) hs rfl rfl]; exact h) (fun q => by cases q) fun R' e' τ' _ q1 q2 q3 q4 q5 q6 q7 => ?_
          exact .inr (.inr (.inr (.inl ⟨by rw [q1]; exact hw, q6, q7, by rw [q3, q2], hcl, by rw [q1, q2, q4]; exact he⟩)))
      | alloc =>
        rw [hcl, Jtw] at h
        cases he : Jal P (rho env) (base + Rw.length) o τ with
        | none => rw [he] at h; exact h.elim
        | some q =>
          obtain ⟨v, ao, e2, hp⟩ := Jl9 hcl he
          subst e2
          rw [he, Jqv, show (τ.set (base + Rw.length) ao).get (base + Rw.length) = some ao by simp, Jqw] at h
          refine behind ⟨v, 2, ao, env, τ⟩ τ rfl rfl (by rw [Ket (P := P) (ops := ops) hs rfl]; exact h) (fun _ => hcl) fun R' e' τ' _ q1 q2 q3 q4 q5 q6 q7 => ?_
          exact .inr (.inr (.inl ⟨by rw [q1]; exact hw, q6, q7, by rw [q3, q2], by rw [q1, q4, q5]; exact Jup hp⟩))
      | loud =>
        rw [hcl, Kay] at h
        cases he : Jal P (rho env) (base + Rw.length) o (Je2 (Jec base B Rw) τ) with
        | none => rw [he] at h; exact h.elim
        | some q =>
          rw [he] at h
          cases q with
          | val v σ' => exact loud hcl v σ' (.inl he) h
          | enter f args =>
            rw [Jqu] at h
            cases hc : C f args (Je2 (Jec base B Rw) τ) with
            | some p => obtain ⟨v, σ'⟩ := p; rw [hc] at h; exact loud hcl v σ' (.inr (.inl ⟨f, args, he, hC _ _ _ _ _ hc⟩)) h
            | none =>
              rw [hc] at h
              obtain ⟨v, σ', hsim, h2⟩ := h
              exact loud hcl v σ' (.inr (.inl ⟨f, args, he, hsim⟩)) h2
    | false =>
      rw [hw] at h
      refine behind ⟨undef, 0, .iter .empty 0, env, τ⟩ τ rfl rfl (by rw [Jle (P := P) (ops := ops) hs rfl rfl]; exact h) (fun q => by cases q) fun R' e' τ' _ q1 q2 q3 q4 q5 q6 q7 => ?_
      exact .inl ⟨by rw [q1]; exact hw, q4, q6, q7, by rw [q3, q2]⟩
theorem Krl (hC : C.ok P gl) (hm : P.follows .mixedOrders = true) {id : Nat} (hQ : okQ P ops (Jdi ops) = true) (hok : ∀ o ∈ ops.toList, Jfj gl N o = true ∧ Jef ops N o = true)
    {env : Env} {σ : St} {Q : Env → St → Prop} (h : wpQ P gl C ops σ.next ops.toList 0 env (σ.bump ops.size) [] Q) :
    ∃ env' σ', SimC P gl N (.region id ops true) env σ .normal env' σ' ∧ Q env' σ' := by
  obtain ⟨hdr, hq⟩ := Knd hQ
  have hs := Jtz hdr
  obtain ⟨R', env', τ', ⟨S, hS, hSl⟩, h1, h2, h3, h4⟩ := Kah (base := σ.next) (B := Jdi ops) hC hs hq ops.toList env (σ.bump ops.size) [] (fun j o hj => by simpa using hj) (by simp) (fun j hj => by simp at hj) h
  simp only [List.nil_append] at hS
  subst hS
  simp only [Array.length_toList] at hSl
  simp only [List.length_nil, Nat.zero_add] at h2 h3 h4
  have hlast1 : renv R' env' ops.size = env' := by unfold renv; rw [List.getElem?_eq_none (by omega)]
  have hlast2 : rst R' τ' ops.size = τ' := by unfold rst; rw [List.getElem?_eq_none (by omega)]
  have ht : Trc P gl ops σ.next (Jdi ops) (renv R' env') (rst R' τ') (rval R') (rao R') (rlo R') (ral R') := by
    refine ⟨fun i o ho => (h4 i o (by simpa using ho)).1, fun i o ho => ?_, fun i hi => ?_, fun i hi => ?_⟩
    · rcases (h4 i o (by simpa using ho)).2 with q | q | q | q | q
      · exact .inl q
      · exact .inr (.inl q)
      · exact .inr (.inr (.inl q))
      · obtain ⟨k1, k2, k3, k4, k5, k6⟩ := q
        refine .inr (.inr (.inr (.inl ⟨k1, k2, k3, k4, k5, k6, fun j hj hl b1 b2 => ?_⟩)))
        exfalso
        have hoj : ops[j]? = some ops[j] := Array.getElem?_eq_getElem hj
        rcases (h4 j ops[j] (by simp [hj])).2 with q | q | q | q | q
        · rw [hl] at q; cases q.2.2.1
        · rw [hl] at q; cases q.2.1
        · rw [hl] at q; cases q.2.1
        · rw [hl] at q; cases q.2.1
        · rcases (hq j _ hoj q.2.2.2.1 i o ho).2 k5 with p | p
          · rw [b2] at p; cases p
          · rw [b1] at p; cases p
      · exact .inr (.inr (.inr (.inr ⟨q.1, q.2.1, q.2.2.1, q.2.2.2.2⟩)))
    · have hin : i < ops.size := by
        rcases Nat.lt_or_ge i ops.size with q | q
        · exact q
        · unfold rlo at hi; rw [List.getElem?_eq_none (by omega)] at hi; cases hi
      refine ⟨ops[i], Array.getElem?_eq_getElem hin, ?_⟩
      rcases (h4 i ops[i] (by simp [hin])).2 with q | q | q | q | q
      · rw [hi] at q; cases q.2.2.1
      · rw [hi] at q; cases q.2.1
      · rw [hi] at q; cases q.2.1
      · rw [hi] at q; cases q.2.1
      · exact q.2.2.2.1
    · rcases Nat.lt_or_ge i ops.size with q | q
      · exact q
      · unfold ral at hi; rw [List.getElem?_eq_none (by omega)] at hi; cases hi
  have := Jth (id := id) hm hs ht h2 h3 hok
  rw [hlast1, hlast2] at this
  exact ⟨env', _, this, h1⟩
def sameR (ev : St → Option ARes) (v : Value) (τ : St) : Prop := ev τ = some (.val v τ)
def ordB (ops : Array Oper) (i j : Nat) : Bool := bit (Jdi ops) i j || bit (Jdi ops) j i
def Kaz (b : Bool) (A K : Prop) : Prop := match b with
  | true => K
  | false => A ∧ K
def onW (w : Bool) (A B : Prop) : Prop := match w with
  | false => A
  | true => B
def onCl (cl : Cls) (A B D : Prop) : Prop := match cl with
  | .read => A
  | .loud => B
  | _ => D
def Jlm (ops : Array Oper) (i : Nat) (ev : St → Option ARes) (v : Value) : List (Nat × St × St) → Prop → Prop
  | [], K => K
  | (j, τ, τ') :: l, K => Kaz (ordB ops i j) (sameR ev v τ ∧ sameR ev v τ') (Jlm ops i ev v l K)
def Jln (ops : Array Oper) (j : Nat) (τ τ' : St) : List (Nat × (St → Option ARes) × Value) → Prop → Prop
  | [], K => K
  | (k, ev, v) :: l, K => Kaz (ordB ops k j) (sameR ev v τ ∧ sameR ev v τ') (Jln ops j τ τ' l K)
theorem Jns {b : Bool} {A K : Prop} (h : Kaz b A K) : (b = false → A) ∧ K := by
  cases b with
  | true => exact ⟨fun e => (by cases e), h⟩
  | false => exact ⟨fun _ => h.1, h.2⟩
theorem Jma {ops : Array Oper} {i : Nat} {ev : St → Option ARes} {v : Value} {K : Prop} : ∀ {l : List (Nat × St × St)}, Jlm ops i ev v l K → (∀ j τ τ', (j, τ, τ') ∈ l → ordB ops i j = false → sameR ev v τ ∧ sameR ev v τ') ∧ K
  | [], h => ⟨fun j τ τ' hm => (by cases hm), h⟩
  | (j, τ, τ') :: l, h => by
    obtain ⟨h1, h2⟩ := Jns h
    obtain ⟨h3, h4⟩ := Jma h2
    refine ⟨fun j2 t t' hm ho => ?_, h4⟩
    cases hm with
    | head => exact h1 ho
    | tail _ hm => exact h3 _ _ _ hm ho
theorem Jmb {ops : Array Oper} {j : Nat} {τ τ' : St} {K : Prop} : ∀ {l : List (Nat × (St → Option ARes) × Value)}, Jln ops j τ τ' l K → (∀ k ev v, (k, ev, v) ∈ l → ordB ops k j = false → sameR ev v τ ∧ sameR ev v τ') ∧ K
  | [], h => ⟨fun k ev v hm => (by cases hm), h⟩
  | (k, ev, v) :: l, h => by
    obtain ⟨h1, h2⟩ := Jns h
    obtain ⟨h3, h4⟩ := Jmb h2
    refine ⟨fun k2 e2 v2 hm ho => ?_, h4⟩
    cases hm with
    | head => exact h1 ho
    | tail _ hm => exact h3 _ _ _ hm ho
def wpU (P : Program) (gl : List Nat) (C : Jd9) (ops : Array Oper) (base : Nat) : List Oper → Nat → Env → St → List (Nat × AObj) → List (Nat × (St → Option ARes) × Value) → List (Nat × St × St) → (Env → St → Prop) → Prop
  | [], _, env, τ, pend, _, _, Q => Q env (Je2 pend τ)
  | o :: r, i, env, τ, pend, rs, ls, Q => onW (Jbg ops env o) (wpU P gl C ops base r (i + 1) (Jcw env o.dst undef) τ pend rs ls Q)
    (onQ P gl C true (Jac P o.op) (base + i) (Jal P (rho env) (base + i) o) τ pend fun v τ' pend' =>
      onCl (Jac P o.op) (Jlm ops i (Jal P (rho env) (base + i) o) v ls (wpU P gl C ops base r (i + 1) (Jcw env o.dst v) τ' pend' ((i, Jal P (rho env) (base + i) o, v) :: rs) ls Q))
        (Jln ops i τ τ' rs (wpU P gl C ops base r (i + 1) (Jcw env o.dst v) τ' pend' rs ((i, τ, τ') :: ls) Q))
        (wpU P gl C ops base r (i + 1) (Jcw env o.dst v) τ' pend' rs ls Q))
def okU (P : Program) (ops : Array Oper) (B : List Nat) : Bool :=
  Jqy P ops B && ops.toList.zipIdx.all fun x => match Jac P x.1.op with
    | .loud => ops.toList.zipIdx.all fun y => match Jac P y.1.op with
      | .alloc => !(Nat.blt y.2 x.2) || bit B x.2 y.2
      | _ => true
    | _ => true
theorem Knc {P : Program} {ops : Array Oper} {B : List Nat} (h : okU P ops B = true) : Jqy P ops B = true ∧ ∀ (i : Nat) (o : Oper), ops[i]? = some o → Jac P o.op = .loud → ∀ (k : Nat) (ok : Oper), ops[k]? = some ok →
    (Jac P ok.op = .alloc → k < i → bit B i k = true) := by
  unfold okU at h
  simp only [Bool.and_eq_true, List.all_eq_true] at h
  refine ⟨h.1, fun i o ho hl k ok hk hal hlt => ?_⟩
  have h1 := h.2 (o, i) (by rw [List.mem_zipIdx_iff_getElem?]; simpa using ho)
  simp only [hl, List.all_eq_true] at h1
  have h2 := h1 (ok, k) (by rw [List.mem_zipIdx_iff_getElem?]; simpa using hk)
  simp only [hal, Bool.or_eq_true, Bool.not_eq_true', Nat.blt_eq] at h2
  rcases h2 with h2 | h2
  · have : Nat.blt k i = true := by rw [Nat.blt_eq]; exact hlt
    rw [this] at h2; cases h2
  · exact h2
structure PInv (P : Program) (ops : Array Oper) (base : Nat) (Rw : List TRow) (env : Env) (τ : St) (rs : List (Nat × (St → Option ARes) × Value)) (ls : List (Nat × St × St)) : Prop where
  R : ∀ k o, k < Rw.length → ops[k]? = some o → Jac P o.op = .read → Jbg ops (renv Rw env k) o = true → (k, Jal P (rho (renv Rw env k)) (base + k) o, rval Rw k) ∈ rs
  L : ∀ j, j < Rw.length → rlo Rw j = true → (j, rst Rw τ j, rst Rw τ (j + 1)) ∈ ls
  pair : ∀ k j o, k < Rw.length → j < Rw.length → ops[k]? = some o → Jac P o.op = .read → Jbg ops (renv Rw env k) o = true → rlo Rw j = true → ordB ops k j = false →
    sameR (Jal P (rho (renv Rw env k)) (base + k) o) (rval Rw k) (rst Rw τ j) ∧ sameR (Jal P (rho (renv Rw env k)) (base + k) o) (rval Rw k) (rst Rw τ (j + 1))
section
variable {Rw : List TRow} {r0 : TRow} {env env2 : Env} {τ τ2 : St} {rs : List (Nat × (St → Option ARes) × Value)} {ls : List (Nat × St × St)}
theorem Jig (hst : r0.st = τ) {j : Nat} (h : j ≤ Rw.length) : rst (Rw ++ [r0]) τ2 j = rst Rw τ j := by
  rcases Nat.lt_or_ge j Rw.length with q | q
  · unfold rst; rw [Jk7 q, List.getElem?_eq_getElem q]
  · have : j = Rw.length := by omega
    subst this
    unfold rst; rw [Jeb, List.getElem?_eq_none (Nat.le_refl _)]; exact hst
theorem Kan : rst (Rw ++ [r0]) τ2 (Rw.length + 1) = τ2 := by
  unfold rst; rw [List.getElem?_eq_none (by simp)]
theorem Jm4 {k : Nat} (h : k < Rw.length) : renv (Rw ++ [r0]) env2 k = renv Rw env k := by
  unfold renv; rw [Jk7 h, List.getElem?_eq_getElem h]
theorem Kam {k : Nat} (h : k < Rw.length) : rval (Rw ++ [r0]) k = rval Rw k := by
  unfold rval; rw [Jk7 h]
theorem PInv.step (h : PInv P ops base Rw env τ rs ls) (he : r0.env = env) (hst : r0.st = τ) {o : Oper} (hoi : ops[Rw.length]? = some o) {rs2 : List (Nat × (St → Option ARes) × Value)} {ls2 : List (Nat × St × St)} (hrs : ∀ x ∈ rs, x ∈ rs2) (hls : ∀ x ∈ ls, x ∈ ls2)
    (hr : Jac P o.op = .read → Jbg ops env o = true → (Rw.length, Jal P (rho env) (base + Rw.length) o, r0.v) ∈ rs2 ∧ (r0.k == 4) = false ∧ ∀ j t t', (j, t, t') ∈ ls → ordB ops Rw.length j = false → sameR (Jal P (rho env) (base + Rw.length) o) r0.v t ∧ sameR (Jal P (rho env) (base + Rw.length) o) r0.v t')
    (hl : (r0.k == 4) = true → (Rw.length, τ, τ2) ∈ ls2 ∧ ∀ k ev v, (k, ev, v) ∈ rs → ordB ops k Rw.length = false → sameR ev v τ ∧ sameR ev v τ2) : PInv P ops base (Rw ++ [r0]) env2 τ2 rs2 ls2 := by
  have hlen : (Rw ++ [r0]).length = Rw.length + 1 := by simp
  have e1 : renv (Rw ++ [r0]) env2 Rw.length = env := by unfold renv; rw [Jeb]; exact he
  have e3 : rval (Rw ++ [r0]) Rw.length = r0.v := by unfold rval; rw [Jeb]
  have e4 : rlo (Rw ++ [r0]) Rw.length = (r0.k == 4) := by unfold rlo; rw [Jeb]
  refine ⟨fun k o' hk ho hc hw => ?_, fun j hj hlo => ?_, fun k j o' hk hj ho hc hw hlo hord => ?_⟩
  · rw [hlen] at hk
    by_cases e : k = Rw.length
    · subst e
      rw [hoi] at ho; cases ho
      rw [e1] at hw
      rw [e1, e3]; exact (hr hc hw).1
    · have hk2 : k < Rw.length := by omega
      rw [Jm4 (env := env) hk2] at hw
      rw [Jm4 (env := env) hk2, Kam hk2]
      exact hrs _ (h.R k o' hk2 ho hc hw)
  · rw [hlen] at hj
    by_cases e : j = Rw.length
    · subst e
      rw [Jig hst (Nat.le_refl _), Kan]
      have : rst Rw τ Rw.length = τ := by unfold rst; rw [List.getElem?_eq_none (Nat.le_refl _)]
      rw [this]; exact (hl (by rw [← e4]; exact hlo)).1
    · have hj2 : j < Rw.length := by omega
      rw [Jk9 hj2] at hlo
      rw [Jig hst (by omega), Jig hst (by omega)]
      exact hls _ (h.L j hj2 hlo)
  · rw [hlen] at hk hj
    by_cases e : k = Rw.length
    · subst e
      rw [hoi] at ho; cases ho
      rw [e1] at hw
      obtain ⟨a1, a2, a3⟩ := hr hc hw
      have hj2 : j < Rw.length := by
        rcases Nat.lt_or_ge j Rw.length with q | q
        · exact q
        · have : j = Rw.length := by omega
          subst this
          rw [e4, a2] at hlo; cases hlo
      rw [Jk9 hj2] at hlo
      rw [e1, e3, Jig hst (by omega), Jig hst (by omega)]
      exact a3 j _ _ (h.L j hj2 hlo) hord
    · have hk2 : k < Rw.length := by omega
      rw [Jm4 (env := env) hk2] at hw
      rw [Jm4 (env := env) hk2, Kam hk2]
      by_cases e2 : j = Rw.length
      · subst e2
        rw [Jig hst (Nat.le_refl _), Kan]
        have : rst Rw τ Rw.length = τ := by unfold rst; rw [List.getElem?_eq_none (Nat.le_refl _)]
        rw [this]
        exact (hl (by rw [← e4]; exact hlo)).2 k _ _ (h.R k o' hk2 ho hc hw) hord
      · have hj2 : j < Rw.length := by omega
        rw [Jk9 hj2] at hlo
        rw [Jig hst (by omega), Jig hst (by omega)]
        exact h.pair k j o' hk2 hj2 ho hc hw hlo hord
end
theorem Kag {B : List Nat} (hC : C.ok P gl) (hs : Jc3 P ops B) (hq : ∀ (i : Nat) (o : Oper), ops[i]? = some o → Jac P o.op = .loud → ∀ (k : Nat) (ok : Oper), ops[k]? = some ok → Jac P ok.op = .alloc → k < i → bit B i k = true)
    {Q : Env → St → Prop} : ∀ (l : List Oper) (env : Env) (τ : St) (Rw : List TRow) (rs : List (Nat × (St → Option ARes) × Value)) (ls : List (Nat × St × St)),
    (∀ j o, l[j]? = some o → ops[Rw.length + j]? = some o) → Rw.length + l.length = ops.size →
    (∀ j, j < Rw.length → ral Rw j = true → ∃ o, ops[j]? = some o ∧ Jac P o.op = .alloc) → PInv P ops base Rw env τ rs ls →
    wpU P gl C ops base l Rw.length env τ (Jec base B Rw) rs ls Q →
    ∃ (R' : List TRow) (env' : Env) (τ' : St), (∃ S, R' = Rw ++ S ∧ S.length = l.length) ∧ Q env' (Jdo base (rao R') (Jde (rlo R') (ral R') B ops.size) τ') ∧
      renv R' env' Rw.length = env ∧ rst R' τ' Rw.length = τ ∧
      (∀ j o, l[j]? = some o → renv R' env' (Rw.length + j + 1) = Jcw (renv R' env' (Rw.length + j)) o.dst (rval R' (Rw.length + j)) ∧
        Jrm P gl ops base B (renv R' env') (rst R' τ') (rval R') (rao R') (rlo R') (ral R') (Rw.length + j) o) ∧
      ∀ k j o, ops[k]? = some o → Jac P o.op = .read → Jbg ops (renv R' env' k) o = true → rlo R' j = true → ordB ops k j = false → k < ops.size →  sameR (Jal P (rho (renv R' env' k)) (base + k) o) (rval R' k) (rst R' τ' j) ∧ sameR (Jal P (rho (renv R' env' k)) (base + k) o) (rval R' k) (rst R' τ' (j + 1))
  | [], env, τ, Rw, rs, ls, hl, hlen, hal, hI, h => by
    simp only [wpU] at h
    have h : Q env ((Jec base B Rw).foldl (fun σ x => σ.set x.1 x.2) τ) := h
    rw [Ji2] at h
    simp only [List.length_nil, Nat.add_zero] at hlen
    refine ⟨Rw, env, τ, ⟨[], by simp⟩, by rw [← hlen]; exact h, ?_, ?_, fun j o hj => (by simp at hj), fun k j o ho hc hwk hj hor hks => ?_⟩
    · unfold renv; rw [List.getElem?_eq_none (Nat.le_refl _)]
    · unfold rst; rw [List.getElem?_eq_none (Nat.le_refl _)]
    · have hj2 : j < Rw.length := by
        rcases Nat.lt_or_ge j Rw.length with q | q
        · exact q
        · unfold rlo at hj; rw [List.getElem?_eq_none q] at hj; cases hj
      exact hI.pair k j o (by omega) hj2 ho hc hwk hj hor
  | o :: l, env, τ, Rw, rs, ls, hl, hlen, hal, hI, h => by
    have hoi : ops[Rw.length]? = some o := by have := hl 0 o rfl; simpa using this
    have behind : ∀ (r0 : TRow) (τ2 : St) (rs2 : List (Nat × (St → Option ARes) × Value)) (ls2 : List (Nat × St × St)), r0.env = env → r0.st = τ → PInv P ops base (Rw ++ [r0]) (Jcw env o.dst r0.v) τ2 rs2 ls2 →
        wpU P gl C ops base l (Rw.length + 1) (Jcw env o.dst r0.v) τ2 (Jec base B (Rw ++ [r0])) rs2 ls2 Q → ((r0.k == 2) = true → Jac P o.op = .alloc) →
        (∀ (R' : List TRow) (e' : Env) (τ' : St), (∃ S, R' = Rw ++ r0 :: S) → renv R' e' Rw.length = env → rst R' τ' Rw.length = τ → rst R' τ' (Rw.length + 1) = τ2 → rval R' Rw.length = r0.v → rao R' Rw.length = r0.ao → rlo R' Rw.length = (r0.k == 4) → ral R' Rw.length = (r0.k == 2) →
          Jrm P gl ops base B (renv R' e') (rst R' τ') (rval R') (rao R') (rlo R') (ral R') Rw.length o) →
        ∃ (R' : List TRow) (env' : Env) (τ' : St), (∃ S, R' = Rw ++ S ∧ S.length = (o :: l).length) ∧ Q env' (Jdo base (rao R') (Jde (rlo R') (ral R') B ops.size) τ') ∧
          renv R' env' Rw.length = env ∧ rst R' τ' Rw.length = τ ∧
          (∀ j o', (o :: l)[j]? = some o' → renv R' env' (Rw.length + j + 1) = Jcw (renv R' env' (Rw.length + j)) o'.dst (rval R' (Rw.length + j)) ∧
            Jrm P gl ops base B (renv R' env') (rst R' τ') (rval R') (rao R') (rlo R') (ral R') (Rw.length + j) o') ∧
          ∀ k j o, ops[k]? = some o → Jac P o.op = .read → Jbg ops (renv R' env' k) o = true → rlo R' j = true → ordB ops k j = false → k < ops.size →  sameR (Jal P (rho (renv R' env' k)) (base + k) o) (rval R' k) (rst R' τ' j) ∧ sameR (Jal P (rho (renv R' env' k)) (base + k) o) (rval R' k) (rst R' τ' (j + 1)) := by
      intro r0 τ2 rs2 ls2 he hst hI2 hrun hk2 hrow
      have hlen2 : (Rw ++ [r0]).length = Rw.length + 1 := by simp
      obtain ⟨R', env', τ', ⟨S, hS, hSl⟩, h1, h2, h3, h4, h5⟩ := Kag hC hs hq l _ τ2 (Rw ++ [r0]) rs2 ls2 (fun j o' hj => by rw [hlen2]; have := hl (j + 1) o' (by simpa using hj); rwa [show Rw.length + 1 + j = Rw.length + (j + 1) by omega])
        (by rw [hlen2]; simp at hlen; omega) (fun j hj ha => by
          rw [hlen2] at hj
          by_cases e : j = Rw.length
          · subst e
            have : ral (Rw ++ [r0]) Rw.length = (r0.k == 2) := by unfold ral; rw [Jeb]
            exact ⟨o, hoi, hk2 (by rw [← this]; exact ha)⟩
          · have hlt : j < Rw.length := by omega
            rw [Jld hlt] at ha
            exact hal j hlt ha) hI2 (by rw [hlen2]; exact hrun)
      have hR' : R' = Rw ++ r0 :: S := by rw [hS]; simp
      have hget : R'[Rw.length]? = some r0 := by rw [hR']; exact Jeb
      have e1 : renv R' env' Rw.length = env := by unfold renv; rw [hget]; exact he
      have e2 : rst R' τ' Rw.length = τ := by unfold rst; rw [hget]; exact hst
      have e3 : rval R' Rw.length = r0.v := by unfold rval; rw [hget]
      have e4 : rlo R' Rw.length = (r0.k == 4) := by unfold rlo; rw [hget]
      have e5 : ral R' Rw.length = (r0.k == 2) := by unfold ral; rw [hget]
      have e6 : rao R' Rw.length = r0.ao := by unfold rao; rw [hget]
      rw [hlen2] at h2 h3 h4
      refine ⟨R', env', τ', ⟨r0 :: S, hR', by simp [hSl]⟩, h1, e1, e2, fun j o' hj => ?_, h5⟩
      cases j with
      | succ j =>
        have := h4 j o' (by simpa using hj)
        rw [show Rw.length + (j + 1) = Rw.length + 1 + j by omega]
        exact this
      | zero =>
        simp only [List.getElem?_cons_zero, Option.some.injEq] at hj
        subst hj
        simp only [Nat.add_zero]
        refine ⟨by rw [h2, e1, e3], hrow R' _ τ' ⟨S, hR'⟩ e1 e2 h3 e3 e6 e4 e5⟩
    simp only [wpU] at h
    have quiet : ∀ r0 : TRow, r0.env = env → r0.st = τ → (Jac P o.op = .read → Jbg ops env o = true → False) → (r0.k == 4) = false → PInv P ops base (Rw ++ [r0]) (Jcw env o.dst r0.v) τ rs ls := fun r0 he hst h3 h4 =>
      hI.step he hst hoi (fun x h => h) (fun x h => h) (fun h h' => (h3 h h').elim) (fun h => by rw [h4] at h; cases h)
    cases hw : Jbg ops env o with
    | true =>
      rw [hw] at h
      have h : onQ P gl C true (Jac P o.op) (base + Rw.length) (Jal P (rho env) (base + Rw.length) o) τ (Jec base B Rw) (fun v τ' pend' =>
      onCl (Jac P o.op) (Jlm ops Rw.length (Jal P (rho env) (base + Rw.length) o) v ls (wpU P gl C ops base l (Rw.length + 1) (Jcw env o.dst v) τ' pend' ((Rw.length, Jal P (rho env) (base + Rw.length) o, v) :: rs) ls Q))
        (Jln ops Rw.length τ τ' rs (wpU P gl C ops base l (Rw.length + 1) (Jcw env o.dst v) τ' pend' rs ((Rw.length, τ, τ') :: ls) Q))
        (wpU P gl C ops base l (Rw.length + 1) (Jcw env o.dst v) τ' pend' rs ls Q)) := h
      have loud : Jac P o.op = .loud → ∀ v σ', Jqi P gl (rho env) (base + Rw.length) o (Je2 (Jec base B Rw) τ) v σ' → Jln ops Rw.length τ σ' rs (wpU P gl C ops base l (Rw.length + 1) (Jcw env o.dst v) σ' [] rs ((Rw.length, τ, σ') :: ls) Q) → _ := fun hcl v σ' hst hk => by
        have hall : ∀ k, k < Rw.length → ral Rw k = true → bit B Rw.length k = true := fun k hk2 ha => by
          obtain ⟨ok, h1, h2⟩ := hal k hk2 ha
          exact hq _ o hoi hcl k ok h1 h2 hk2
        obtain ⟨hch, hk⟩ := Jmb hk
        refine behind ⟨v, 4, .iter .empty 0, env, τ⟩ σ' rs ((Rw.length, τ, σ') :: ls) rfl rfl ?_ (by rw [Jqp rfl hall]; exact hk) (fun q => by cases q) fun R' e' τ' hS q1 q2 q3 q4 q5 q6 q7 => ?_
        · exact hI.step rfl rfl hoi (fun x h => h) (fun x h => List.mem_cons_of_mem _ h) (fun h => by rw [hcl] at h; cases h) (fun _ => ⟨List.mem_cons_self, fun k ev v hm ho => hch k ev v hm ho⟩)
        obtain ⟨S, hS⟩ := hS
        refine .inr (.inr (.inr (.inr ⟨by rw [q1]; exact hw, q6, q7, hcl, ?_⟩)))
        have hst : Jqi P gl (rho env) (base + Rw.length) o ((Jec base B Rw).foldl (fun σ x => σ.set x.1 x.2) τ) v σ' := hst
        rw [Ji2] at hst
        refine ⟨rho env, fun x hx => by rw [q1], ?_⟩
        rw [q2, q3, q4]
        have e1 : Jc0 (rlo R') (ral R') B Rw.length = Jde (rlo Rw) (ral Rw) B Rw.length := by
          rw [Jl5 (lo' := rlo Rw) (al' := ral Rw) (fun j hj => by rw [hS]; exact Jk9 hj) (fun j hj => by rw [hS]; exact Jld hj)]
          exact Jt8 hall
        rw [e1, Jj2 (ao' := rao Rw)]
        · exact hst
        · intro k hk2
          rw [hS]; exact Jxz (Jts hk2)
      cases hcl : Jac P o.op with
      | pure =>
        rw [hcl, Kax] at h
        cases he : Jal P (rho env) (base + Rw.length) o τ with
        | none => rw [he] at h; exact h.elim
        | some q =>
          obtain ⟨v, e2, hp⟩ := Jn8 hcl he
          subst e2
          rw [he, Jty] at h
          refine behind ⟨v, 1, .iter .empty 0, env, τ⟩ τ rs ls rfl rfl (quiet _ rfl rfl (fun h => by rw [hcl] at h; cases h) rfl) (by rw [Jle (P := P) (ops := ops) hs rfl rfl]; exact h) (fun q => by cases q) fun R' e' τ' _ q1 q2 q3 q4 q5 q6 q7 => ?_
          exact .inr (.inl ⟨by rw [q1]; exact hw, q6, q7, by rw [q3, q2], by rw [q1, q4]; exact Kar hp⟩)
      | read =>
        rw [hcl, Kaw] at h
        cases he : Jal P (rho env) (base + Rw.length) o τ with
        | none => rw [he] at h; exact h.elim
        | some q =>
          obtain ⟨v, e2, hp⟩ := Jj6 hcl he
          subst e2
          rw [he, Jtx] at h
          have h : Jlm ops Rw.length (Jal P (rho env) (base + Rw.length) o) v ls (wpU P gl C ops base l (Rw.length + 1) (Jcw env o.dst v) τ (Jec base B Rw) ((Rw.length, Jal P (rho env) (base + Rw.length) o, v) :: rs) ls Q) := h
          obtain ⟨hch, h⟩ := Jma h
          refine behind ⟨v, 3, .iter .empty 0, env, τ⟩ τ _ _ rfl rfl ?_ (by rw [Jle (P := P) (ops := ops) hs rfl rfl]; exact h) (fun q => by cases q) fun R' e' τ' _ q1 q2 q3 q4 q5 q6 q7 => ?_
          · exact hI.step rfl rfl hoi (fun x h => List.mem_cons_of_mem _ h) (fun x h => h) (fun _ _ => ⟨List.mem_cons_self, rfl, fun j t t' hm hor => hch j t t' hm hor⟩) (fun h => by cases h)
          exact .inr (.inr (.inr (.inl ⟨by rw [q1]; exact hw, q6, q7, by rw [q3, q2], hcl, by rw [q1, q2, q4]; exact he⟩)))
      | alloc =>
        rw [hcl, Jtw] at h
        cases he : Jal P (rho env) (base + Rw.length) o τ with
        | none => rw [he] at h; exact h.elim
        | some q =>
          obtain ⟨v, ao, e2, hp⟩ := Jl9 hcl he
          subst e2
          rw [he, Jqv, show (τ.set (base + Rw.length) ao).get (base + Rw.length) = some ao by simp, Jqw] at h
          refine behind ⟨v, 2, ao, env, τ⟩ τ rs ls rfl rfl (quiet _ rfl rfl (fun h => by rw [hcl] at h; cases h) rfl) (by rw [Ket (P := P) (ops := ops) hs rfl]; exact h) (fun _ => hcl) fun R' e' τ' _ q1 q2 q3 q4 q5 q6 q7 => ?_
          exact .inr (.inr (.inl ⟨by rw [q1]; exact hw, q6, q7, by rw [q3, q2], by rw [q1, q4, q5]; exact Jup hp⟩))
      | loud =>
        rw [hcl, Kay] at h
        cases he : Jal P (rho env) (base + Rw.length) o (Je2 (Jec base B Rw) τ) with
        | none => rw [he] at h; exact h.elim
        | some q =>
          rw [he] at h
          cases q with
          | val v σ' => exact loud hcl v σ' (.inl he) h
          | enter f args =>
            rw [Jqu] at h
            cases hc : C f args (Je2 (Jec base B Rw) τ) with
            | some p => obtain ⟨v, σ'⟩ := p; rw [hc] at h; exact loud hcl v σ' (.inr (.inl ⟨f, args, he, hC _ _ _ _ _ hc⟩)) h
            | none =>
              rw [hc] at h
              obtain ⟨v, σ', hsim, h2⟩ := h
              exact loud hcl v σ' (.inr (.inl ⟨f, args, he, hsim⟩)) h2
    | false =>
      rw [hw] at h
      refine behind ⟨undef, 0, .iter .empty 0, env, τ⟩ τ rs ls rfl rfl (quiet _ rfl rfl (fun _ h => by rw [hw] at h; cases h) rfl) (by rw [Jle (P := P) (ops := ops) hs rfl rfl]; exact h) (fun q => by cases q) fun R' e' τ' _ q1 q2 q3 q4 q5 q6 q7 => ?_
      exact .inl ⟨by rw [q1]; exact hw, q4, q6, q7, by rw [q3, q2]⟩
theorem Ke9 {i : Nat} {o : Oper} (ho : ops[i]? = some o) : i < ops.size := by
  rcases Nat.lt_or_ge i ops.size with q | q
  · exact q
  · rw [Array.getElem?_eq_none q] at ho; cases ho
theorem Krk (hC : C.ok P gl) (hm : P.follows .mixedOrders = true) {id : Nat} (hQ : okU P ops (Jdi ops) = true) (hok : ∀ o ∈ ops.toList, Jfj gl N o = true ∧ Jef ops N o = true)
    {env : Env} {σ : St} {Q : Env → St → Prop} (h : wpU P gl C ops σ.next ops.toList 0 env (σ.bump ops.size) [] [] [] Q) :
    ∃ env' σ', SimC P gl N (.region id ops true) env σ .normal env' σ' ∧ Q env' σ' := by
  obtain ⟨hdr, hq⟩ := Knc hQ
  have hs := Jtz hdr
  obtain ⟨R', env', τ', ⟨S, hS, hSl⟩, h1, h2, h3, h4, h5⟩ := Kag (base := σ.next) (B := Jdi ops) hC hs hq ops.toList env (σ.bump ops.size) [] [] [] (fun j o hj => by simpa using hj) (by simp) (fun j hj => by simp at hj) ⟨fun k o hk => by simp at hk, fun k hk => by simp at hk, fun k j o hk => by simp at hk⟩ h
  simp only [List.nil_append] at hS
  subst hS
  simp only [Array.length_toList] at hSl
  simp only [List.length_nil, Nat.zero_add] at h2 h3 h4
  have hlast1 : renv R' env' ops.size = env' := by unfold renv; rw [List.getElem?_eq_none (by omega)]
  have hlast2 : rst R' τ' ops.size = τ' := by unfold rst; rw [List.getElem?_eq_none (by omega)]
  have ht : Trc P gl ops σ.next (Jdi ops) (renv R' env') (rst R' τ') (rval R') (rao R') (rlo R') (ral R') := by
    refine ⟨fun i o ho => (h4 i o (by simpa using ho)).1, fun i o ho => ?_, fun i hi => ?_, fun i hi => ?_⟩
    · rcases (h4 i o (by simpa using ho)).2 with q | q | q | q | q
      · exact .inl q
      · exact .inr (.inl q)
      · exact .inr (.inr (.inl q))
      · obtain ⟨k1, k2, k3, k4, k5, k6⟩ := q
        refine .inr (.inr (.inr (.inl ⟨k1, k2, k3, k4, k5, k6, fun j hj hl b1 b2 => ?_⟩)))
        exact h5 i j o ho k5 k1 hl (by unfold ordB; rw [b1, b2]; rfl) (Ke9 ho)
      · exact .inr (.inr (.inr (.inr ⟨q.1, q.2.1, q.2.2.1, q.2.2.2.2⟩)))
    · have hin : i < ops.size := by
        rcases Nat.lt_or_ge i ops.size with q | q
        · exact q
        · unfold rlo at hi; rw [List.getElem?_eq_none (by omega)] at hi; cases hi
      refine ⟨ops[i], Array.getElem?_eq_getElem hin, ?_⟩
      rcases (h4 i ops[i] (by simp [hin])).2 with q | q | q | q | q
      · rw [hi] at q; cases q.2.2.1
      · rw [hi] at q; cases q.2.1
      · rw [hi] at q; cases q.2.1
      · rw [hi] at q; cases q.2.1
      · exact q.2.2.2.1
    · rcases Nat.lt_or_ge i ops.size with q | q
      · exact q
      · unfold ral at hi; rw [List.getElem?_eq_none (by omega)] at hi; cases hi
  have := Jth (id := id) hm hs ht h2 h3 hok
  rw [hlast1, hlast2] at this
  exact ⟨env', _, this, h1⟩
end
def Jxi (P : Program) (gl : List Nat) (N : Nat) (body : Code) (env : Env) (σ : St) (Q : Ex → Env → St → Prop) : Prop :=
  ∃ n ex env' σ', SimR P gl N body n env σ ex env' σ' ∧ Q ex env' σ'
def Ke1 (c : Value) (A B : Prop) : Prop := match c with
  | .bool true => A
  | .bool false => B
  | _ => False
def wpC (P : Program) (gl : List Nat) (N : Nat) (C : Jd9) : Code → Env → St → (Ex → Env → St → Prop) → Prop
  | .skip, env, σ, Q => Q .normal env σ
  | .label _, env, σ, Q => Q .normal env σ
  | .ret, env, σ, Q => Q .ret env σ
  | .exit id, env, σ, Q => Q (.exit id) env σ
  | .region _ ops false, env, σ, Q => wpO P gl C ops σ.next ops.toList 0 env (σ.bump ops.size) (Q .normal)
  | .region _ ops true, env, σ, Q => bif okQ P ops (Jdi ops) then wpQ P gl C ops σ.next ops.toList 0 env (σ.bump ops.size) [] (Q .normal) else wpU P gl C ops σ.next ops.toList 0 env (σ.bump ops.size) [] [] [] (Q .normal)
  | .seq a b, env, σ, Q => wpC P gl N C a env σ fun ex env σ => match ex with
    | .normal => wpC P gl N C b env σ Q
    | .exit id => Q (.exit id) env σ
    | .ret => Q .ret env σ
  | .cond c a b, env, σ, Q => Ke1 (rho env c) (wpC P gl N C a env σ Q) (wpC P gl N C b env σ Q)
  | .block id body, env, σ, Q => wpC P gl N C body env σ fun ex env σ => match ex with
    | .normal => Q .normal env σ
    | .exit id' => if id' = id then Q .normal env σ else Q (.exit id') env σ
    | .ret => Q .ret env σ
  | .loop body, env, σ, Q => Jxi P gl N body env σ Q
  | .scope body, env, σ, Q => wpC P gl N C body env σ Q
  | _, _, _, _ => False
def okC (P : Program) (gl : List Nat) (N : Nat) : Code → Bool
  | .region _ ops dr => ops.toList.all (fun o => Jfj gl N o && Jef ops N o) && (!dr || okU P ops (Jdi ops))
  | .seq a b => okC P gl N a && okC P gl N b
  | .cond c a b => Jki gl c && okC P gl N a && okC P gl N b
  | .block _ c => okC P gl N c
  | .loop c => okC P gl N c
  | .scope c => okC P gl N c
  | .rangeFunc .. => false
  | .goto _ => false
  | .refuse _ => false
  | _ => true
section
variable {P : Program} {gl : List Nat} {N : Nat} {C : Jd9}
theorem Kd7 (hC : C.ok P gl) (hm : P.follows .mixedOrders = true) : ∀ (c : Code) (env : Env) (σ : St) (Q : Ex → Env → St → Prop), okC P gl N c = true → wpC P gl N C c env σ Q → ∃ ex env' σ', SimC P gl N c env σ ex env' σ' ∧ Q ex env' σ' := by
  have triv : ∀ {c : Code} {ex : Ex} {env : Env} {σ : St}, (∀ (Q : Exit → Act → World → Prop) a w, Q ex.to a w → c.wp P Q a w) → SimC P gl N c env σ ex env σ := fun k Ds g w a hg hr he => k _ a w ⟨rfl, g, hr, he, Ext.refl _ _ _ _⟩
  intro c
  induction c with
  | skip => intro env σ Q _ h; exact ⟨.normal, env, σ, triv fun Q a w h => wp_skip h, h⟩
  | label l => intro env σ Q _ h; exact ⟨.normal, env, σ, triv fun Q a w h => wp_label h, h⟩
  | ret => intro env σ Q _ h; exact ⟨.ret, env, σ, triv fun Q a w h => wp_ret h, h⟩
  | exit id => intro env σ Q _ h; exact ⟨.exit id, env, σ, triv fun Q a w h => wp_exit h, h⟩
  | region id ops dr =>
    intro env σ Q hok h
    simp only [okC, Bool.and_eq_true, List.all_eq_true, Bool.or_eq_true, Bool.not_eq_true'] at hok
    cases dr with
    | false =>
      obtain ⟨e, s, h1, h2⟩ := Krm (N := N) (id := id) hC hok.1 h
      exact ⟨.normal, e, s, h1, h2⟩
    | true =>
      have hU := hok.2.resolve_left (by simp)
      have h : (bif okQ P ops (Jdi ops) then wpQ P gl C ops σ.next ops.toList 0 env (σ.bump ops.size) [] (Q .normal) else wpU P gl C ops σ.next ops.toList 0 env (σ.bump ops.size) [] [] [] (Q .normal)) := h
      cases hq : okQ P ops (Jdi ops) with
      | true =>
        rw [hq] at h
        obtain ⟨e, s, h1, h2⟩ := Krl (N := N) (id := id) hC hm hq hok.1 h
        exact ⟨.normal, e, s, h1, h2⟩
      | false =>
        rw [hq] at h
        obtain ⟨e, s, h1, h2⟩ := Krk (N := N) (id := id) hC hm hU hok.1 h
        exact ⟨.normal, e, s, h1, h2⟩
  | seq a b iha ihb =>
    intro env σ Q hok h
    simp only [okC, Bool.and_eq_true] at hok
    obtain ⟨ex, e1, s1, h1, h2⟩ := iha env σ _ hok.1 h
    cases ex with
    | normal =>
      obtain ⟨ex, e2, s2, h3, h4⟩ := ihb e1 s1 Q hok.2 h2
      exact ⟨ex, e2, s2, .seq h1 h3, h4⟩
    | exit id => exact ⟨_, e1, s1, .seq_out h1 (by simp), h2⟩
    | ret => exact ⟨_, e1, s1, .seq_out h1 (by simp), h2⟩
  | cond c a b iha ihb =>
    intro env σ Q hok h
    simp only [okC, Bool.and_eq_true] at hok
    simp only [wpC] at h
    unfold Ke1 at h
    split at h
    · rename_i ht
      obtain ⟨ex, e2, s2, h3, h4⟩ := iha env σ Q hok.1.2 h
      exact ⟨ex, e2, s2, .cond hok.1.1 ht h3, h4⟩
    · rename_i ht
      obtain ⟨ex, e2, s2, h3, h4⟩ := ihb env σ Q hok.2 h
      exact ⟨ex, e2, s2, .cond hok.1.1 ht h3, h4⟩
    · exact h.elim
  | block id c ih =>
    intro env σ Q hok h
    obtain ⟨ex, e1, s1, h1, h2⟩ := ih env σ _ hok h
    have := SimC.block (id := id) h1
    cases ex with
    | normal => exact ⟨.normal, e1, s1, this, h2⟩
    | ret => exact ⟨.ret, e1, s1, this, h2⟩
    | exit id' =>
      simp only at this h2
      by_cases e : id' = id
      · rw [if_pos e] at this h2; exact ⟨_, e1, s1, this, h2⟩
      · rw [if_neg e] at this h2; exact ⟨_, e1, s1, this, h2⟩
  | loop c ih =>
    intro env σ Q _ h
    obtain ⟨n, ex, e1, s1, h1, h2⟩ := h
    exact ⟨ex, e1, s1, .loop h1, h2⟩
  | scope c ih =>
    intro env σ Q hok h
    obtain ⟨ex, e1, s1, h1, h2⟩ := ih env σ Q hok h
    exact ⟨ex, e1, s1, .scope h1, h2⟩
  | rangeFunc f ps as b _ _ => intro env σ Q hok h; cases hok
  | goto l => intro env σ Q hok h; cases hok
  | refuse why => intro env σ Q hok h; cases hok
theorem Jxi.ind (hC : C.ok P gl) (hm : P.follows .mixedOrders = true) {body : Code} (hok : okC P gl N body = true) {Q : Ex → Env → St → Prop} (I : Nat → Env → St → Prop) {n : Nat} {env : Env} {σ : St} (h0 : I n env σ)
    (step : ∀ k env σ, I k env σ → wpC P gl N C body env σ fun ex env' σ' => match ex with
      | .normal => ∃ k', k' < k ∧ I k' env' σ'
      | .exit id => Q (.exit id) env' σ'
      | .ret => Q .ret env' σ') : Jxi P gl N body env σ Q := by
  induction n using Nat.strongRecOn generalizing env σ with
  | _ n ih =>
    obtain ⟨ex, e1, s1, h1, h2⟩ := Kd7 (N := N) hC hm body env σ _ hok (step n env σ h0)
    cases ex with
    | normal =>
      obtain ⟨k', hk, hI⟩ := h2
      obtain ⟨m, ex, e2, s2, h3, h4⟩ := ih k' hk hI
      exact ⟨m + 1, ex, e2, s2, .more h1 h3, h4⟩
    | exit id => exact ⟨1, _, e1, s1, .last h1 (by simp), h2⟩
    | ret => exact ⟨1, _, e1, s1, .last h1 (by simp), h2⟩
theorem TF.body (hC : C.ok P gl) (hm : P.follows .mixedOrders = true) {f : FuncId} {fn : Func} {c : Code} {args : Array Value} {σ : St} {Q : Value → St → Prop} (hf : P.funcs[f]? = some fn) (hb : fn.body = some c) (hok : okC P gl fn.ntmps c = true) (hsz : args.size ≤ fn.ntmps)
    (h : wpC P gl fn.ntmps C c (Jfl args.toList 0 .nil) σ fun ex env' σ' => match ex with
      | .exit _ => False
      | _ => match Ja2 P env' σ' fn.results.toList with
        | some l => Q (packed l) σ'
        | none => False) : TF P gl f args σ Q := by
  obtain ⟨ex, env', σ', hsim, hq⟩ := Kd7 (N := fn.ntmps) hC hm c _ _ _ hok h
  have fin : (ex = .normal ∨ ex = .ret) → (match Ja2 P env' σ' fn.results.toList with
        | some l => Q (packed l) σ'
        | none => False) → TF P gl f args σ Q := by
    intro hex hq
    cases hrv : Ja2 P env' σ' fn.results.toList with
    | none => rw [hrv] at hq; exact hq.elim
    | some l =>
      rw [hrv] at hq
      refine ⟨packed l, σ', fun g w args' hg hr ha => ?_, hq⟩
      refine calls_of_wp hf hb (wp_mono (hsim [] g w _ hg hr (Jx7 ha hsz)) ?_)
      rintro e a' w' ⟨rfl, g', r1, r2, r3⟩
      obtain ⟨v', hrun, hrel⟩ := Jpd (P := P) r2 r1 hrv
      rcases hex with rfl | rfl
      · exact ⟨r2.defers, _, hrun, v', g', rfl, hrel, r1, r3⟩
      · exact ⟨r2.defers, _, hrun, v', g', rfl, hrel, r1, r3⟩
  cases ex with
  | normal => exact fin (.inl rfl) hq
  | ret => exact fin (.inr rfl) hq
  | exit id => exact hq.elim
end
theorem Jao {α β : Type} {P : Program} (m : Sem α) (f : α → Sem β) : Jar P (m >>= f) = (Jar P m).bind fun a => Jar P (f a) := by
  show Jar P (Sem.bind m f) = _
  induction m with
  | pure a => rfl
  | program k ih => exact ih P
  | mark m k ih => exact ih
  | _ => rfl
@[simp] theorem Jcn {α : Type} {P : Program} (a : α) : Jar P (pure a : Sem α) = some a := rfl
theorem Jaz {P : Program} {t : TypeId} {d : TypeDesc} (h : P.underlying t = some d) : Jar P (underlying t) = some d := by
  simp [underlying, Jao, program, Jar, h]
def sBin (P : Program) (op : BinOp) (t : TypeId) (x y : Operand) (a b : Value) (σ : St) : Option ARes :=
  if Ja5 a && Ja5 b then match Jar P (do eqGuard op t x y a b; binOp op t a b) with
    | some v => if Ja5 v then some (.val v σ) else none
    | none => none
  else none
theorem Jug {P : Program} {ρ : Operand → Value} {op : BinOp} {t yt : TypeId} {x y : Operand} {d : Option Nat} {ty : TypeId} {pos : String} {af : Array Edge} {gd : Option (Nat × Bool)} {σ : St} :
    Ja7 P ρ { dst := d, op := .binOp op t x y yt, type := ty, pos := pos, after := af, guard := gd } σ = sBin P op t x y (ρ x) (ρ y) σ := by
  unfold Ja7 sBin
  have h1 : Jdh ρ (.binOp op t x y yt) = (Ja5 (ρ x) && Ja5 (ρ y)) := by simp [Jdh, Op.operands]
  have h2 : execOp ρ { dst := d, op := .binOp op t x y yt, type := ty, pos := pos, after := af, guard := gd } = (do let v ← (do eqGuard op t x y (ρ x) (ρ y); binOp op t (ρ x) (ρ y)); pure (.value v)) := rfl
  simp only [h1, h2, Je1, Bool.not_false, Bool.and_true, Jao]
  cases Jar P (eqGuard op t x y (ρ x) (ρ y)) with
  | none => rfl
  | some u =>
    simp only [Option.bind_some]
    cases Jar P (binOp op t (ρ x) (ρ y)) <;> rfl
section
variable {P : Program} {t : TypeId} {x y : Operand} {σ : St} {k : IntKind} {a b : Int}
theorem Jcy {op : BinOp} {v v1 v2 : Value} (h1 : Ja5 v1 = true) (h2 : Ja5 v2 = true) (hg : Jar P (eqGuard op t x y v1 v2) = some ()) (hb : Jar P (binOp op t v1 v2) = some v) (hv : Ja5 v = true) : sBin P op t x y v1 v2 σ = some (.val v σ) := by
  unfold sBin; rw [if_pos (by simp [h1, h2])]
  simp only [Jao, hg, Option.bind_some, hb, hv, if_true]
theorem Jcv {op : BinOp} {k k' : IntKind} : Jar P (eqGuard op t x y (.int k a) (.int k' b)) = some () := by cases op <;> rfl
theorem Jl6 {op : BinOp} {a b : ByteArray} : Jar P (eqGuard op t x y (.string a) (.string b)) = some () := by cases op <;> rfl
theorem Jq5 {op : BinOp} {a b : Bool} : Jar P (eqGuard op t x y (.bool a) (.bool b)) = some () := by cases op <;> rfl
theorem Kmx : sBin P .add t x y (.int k a) (.int k b) σ = some (.val (.int k (k.wrap (a + b))) σ) := Jcy rfl rfl Jcv (by simp [binOp, Op.intArith]) rfl
theorem Kmm : sBin P .sub t x y (.int k a) (.int k b) σ = some (.val (.int k (k.wrap (a - b))) σ) := Jcy rfl rfl Jcv (by simp [binOp, Op.intArith]) rfl
theorem Kmr : sBin P .mul t x y (.int k a) (.int k b) σ = some (.val (.int k (k.wrap (a * b))) σ) := Jcy rfl rfl Jcv (by simp [binOp, Op.intArith]) rfl
theorem Kmp (h : b ≠ 0) : sBin P .quo t x y (.int k a) (.int k b) σ = some (.val (.int k (k.wrap (a.tdiv b))) σ) := Jcy rfl rfl Jcv (by simp [binOp, Op.intDiv, h]) rfl
theorem Kmo (h : b ≠ 0) : sBin P .rem t x y (.int k a) (.int k b) σ = some (.val (.int k (a.tmod b)) σ) := Jcy rfl rfl Jcv (by simp [binOp, Op.intDiv, h]) rfl
theorem Kms : sBin P .lss t x y (.int k a) (.int k b) σ = some (.val (.bool (decide (a < b))) σ) := Jcy rfl rfl Jcv (by simp [binOp, Op.intCmp]) rfl
theorem Kmt : sBin P .leq t x y (.int k a) (.int k b) σ = some (.val (.bool (decide (a ≤ b))) σ) := Jcy rfl rfl Jcv (by simp [binOp, Op.intCmp]) rfl
theorem Kmu : sBin P .gtr t x y (.int k a) (.int k b) σ = some (.val (.bool (decide (b < a))) σ) := Jcy rfl rfl Jcv (by simp [binOp, Op.intCmp]) rfl
theorem Kmv : sBin P .geq t x y (.int k a) (.int k b) σ = some (.val (.bool (decide (b ≤ a))) σ) := Jcy rfl rfl Jcv (by simp [binOp, Op.intCmp]) rfl
theorem Kmw : sBin P .eql t x y (.int k a) (.int k b) σ = some (.val (.bool (decide (a = b))) σ) := Jcy rfl rfl Jcv (by simp [binOp, Op.intCmp, Kfk]) rfl
theorem Kmq : sBin P .neq t x y (.int k a) (.int k b) σ = some (.val (.bool (!decide (a = b))) σ) := Jcy rfl rfl Jcv (by simp [binOp, Op.intCmp, Kfk, bne]) rfl
theorem Kmn {k' : IntKind} {n : Nat} (h : n ≤ k.bits) : sBin P .shr t x y (.int k a) (.int k' (n : Int)) σ = some (.val (.int k (a.fdiv (2 ^ n))) σ) :=
  Jcy rfl rfl Jcv (by
    have : ¬ ((n : Int) < 0) := by omega
    have h2 : min ((n : Int).toNat) k.bits = n := by simp; omega
    simp only [binOp, Op.shift, if_neg this, h2]; rfl) rfl
theorem Kej {a b : ByteArray} : sBin P .eql t x y (.string a) (.string b) σ = some (.val (.bool (a.toList == b.toList)) σ) := Jcy rfl rfl Jl6 (by simp [binOp, Op.stringOp]) rfl
theorem Keh {a b : ByteArray} : sBin P .neq t x y (.string a) (.string b) σ = some (.val (.bool (!(a.toList == b.toList))) σ) := Jcy rfl rfl Jl6 (by simp [binOp, Op.stringOp]) rfl
theorem Jrc {a b : Bool} (h : P.underlying t = some .bool) : Jar P (Op.equal t (.bool a) (.bool b)) = some (a == b) := by
  have e : Op.equal t (.bool a) (.bool b) = Op.equalIn (9999 + 1) t (.bool a) (.bool b) := rfl
  rw [e, Op.equalIn, Jao, Jaz h]
  rfl
theorem Kek {a b : Bool} (h : P.underlying t = some .bool) : sBin P .eql t x y (.bool a) (.bool b) σ = some (.val (.bool (a == b)) σ) := Jcy rfl rfl Jq5 (by
  have e : binOp .eql t (.bool a) (.bool b) = (do pure (.bool (← Op.equal t (.bool a) (.bool b)))) := rfl
  rw [e, Jao, Jrc h]; rfl) rfl
theorem Kei {a b : Bool} (h : P.underlying t = some .bool) : sBin P .neq t x y (.bool a) (.bool b) σ = some (.val (.bool (!(a == b))) σ) := Jcy rfl rfl Jq5 (by
  have e : binOp .neq t (.bool a) (.bool b) = (do pure (.bool (!(← Op.equal t (.bool a) (.bool b))))) := rfl
  rw [e, Jao, Jrc h]; rfl) rfl
end
theorem Jbf (k : IntKind) (n : Nat) (h : n < limN (Kfv k)) : k.wrap (n : Int) = (n : Int) := by
  have := wrap_small (Kfv k) n h
  rw [Jrx] at this
  exact this
theorem Jbt (a b : Nat) (h : a + b < 9223372036854775808) : IntKind.i64.wrap ((a : Int) + (b : Int)) = ((a + b : Nat) : Int) := by
  rw [← Int.natCast_add]; exact Jbf .i64 _ h
theorem Jjx (a b : Nat) (h1 : b ≤ a) (h : a < 9223372036854775808) : IntKind.i64.wrap ((a : Int) - (b : Int)) = ((a - b : Nat) : Int) := by
  rw [← Int.ofNat_sub h1]; exact Jbf .i64 _ (show a - b < 9223372036854775808 by omega)
theorem Ke6 (a b : Nat) (h : a * b < 9223372036854775808) : IntKind.i64.wrap ((a : Int) * (b : Int)) = ((a * b : Nat) : Int) := by
  rw [← Int.natCast_mul]; exact Jbf .i64 _ h
theorem wrap_i64 {a : Int} (h0 : -9223372036854775808 ≤ a) (h1 : a < 9223372036854775808) : IntKind.i64.wrap a = a := by
  simp only [IntKind.wrap, IntKind.bits, IntKind.signed]
  simp
  split <;> omega
theorem wrap_u8 {a : Int} (h0 : 0 ≤ a) (h1 : a < 256) : IntKind.u8.wrap a = a := by
  simp only [IntKind.wrap, IntKind.bits, IntKind.signed]
  simp; omega
theorem wrap_u32 {a : Int} (h0 : 0 ≤ a) (h1 : a < 4294967296) : IntKind.u32.wrap a = a := by
  simp only [IntKind.wrap, IntKind.bits, IntKind.signed]
  simp; omega
theorem wrap_u64 {a : Int} (h0 : 0 ≤ a) (h1 : a < 18446744073709551616) : IntKind.u64.wrap a = a := by
  simp only [IntKind.wrap, IntKind.bits, IntKind.signed]
  simp; omega
theorem wrap_i32 {a : Int} (h0 : -2147483648 ≤ a) (h1 : a < 2147483648) : IntKind.i32.wrap a = a := by
  simp only [IntKind.wrap, IntKind.bits, IntKind.signed]
  simp
  split <;> omega
section
variable {P : Program} {t : TypeId} {x y : Operand} {σ : St} {k k' : IntKind} {a b m : Int}
theorem Jql (h0 : 0 ≤ m) (h : m ≤ 64) : sBin P .shr t x y (.int .i64 a) (.int k' m) σ = some (.val (.int .i64 (a.fdiv (2 ^ m.toNat))) σ) := by
  have := Kmn (P := P) (t := t) (x := x) (y := y) (σ := σ) (k := .i64) (k' := k') (a := a) (n := m.toNat) (by simp [IntKind.bits]; omega)
  rwa [Int.toNat_of_nonneg h0] at this
end
def sOne (P : Program) (f : Value → Sem Value) (a : Value) (σ : St) : Option ARes :=
  if Ja5 a then match Jar P (f a) with
    | some v => if Ja5 v then some (.val v σ) else none
    | none => none
  else none
theorem Jxo {P : Program} {f : Value → Sem Value} {a v : Value} {σ : St} (h1 : Ja5 a = true) (h2 : Jar P (f a) = some v) (h3 : Ja5 v = true) : sOne P f a σ = some (.val v σ) := by
  unfold sOne; rw [if_pos h1, h2]; simp [h3]
theorem Jyb {P : Program} {ρ : Operand → Value} {op : UnOp} {t : TypeId} {x : Operand} {d : Option Nat} {ty : TypeId} {pos : String} {af : Array Edge} {gd : Option (Nat × Bool)} {σ : St} :
    Ja7 P ρ { dst := d, op := .unOp op t x, type := ty, pos := pos, after := af, guard := gd } σ = sOne P (Op.unary op) (ρ x) σ := by
  unfold Ja7 sOne
  have h1 : Jdh ρ (.unOp op t x) = Ja5 (ρ x) := by simp [Jdh, Op.operands]
  have h2 : execOp ρ { dst := d, op := .unOp op t x, type := ty, pos := pos, after := af, guard := gd } = (do let v ← Op.unary op (ρ x); pure (.value v)) := rfl
  simp only [h1, h2, Je1, Bool.not_false, Bool.and_true, Jao]
  cases Jar P (Op.unary op (ρ x)) <;> rfl
theorem Jr4 {P : Program} {ρ : Operand → Value} {s e : TypeId} {x : Operand} {d : Option Nat} {ty : TypeId} {pos : String} {af : Array Edge} {gd : Option (Nat × Bool)} {σ : St} :
    Ja7 P ρ { dst := d, op := .convert s e x, type := ty, pos := pos, after := af, guard := gd } σ = sOne P (convert s e) (ρ x) σ := by
  unfold Ja7 sOne
  have h1 : Jdh ρ (.convert s e x) = Ja5 (ρ x) := by simp [Jdh, Op.operands]
  have h2 : execOp ρ { dst := d, op := .convert s e x, type := ty, pos := pos, after := af, guard := gd } = (do let v ← convert s e (ρ x); pure (.value v)) := rfl
  simp only [h1, h2, Je1, Bool.not_false, Bool.and_true, Jao]
  cases Jar P (convert s e (ρ x)) <;> rfl
section
variable {P : Program} {σ : St}
theorem Kmi {b : Bool} : sOne P (Op.unary .not) (.bool b) σ = some (.val (.bool !b) σ) := Jxo rfl rfl rfl
theorem Kmj {k : IntKind} {n : Int} : sOne P (Op.unary .neg) (.int k n) σ = some (.val (.int k (k.wrap (0 - n))) σ) := Jxo rfl rfl rfl
theorem Kmk {s e : TypeId} {k k' : IntKind} {n : Int} {d : TypeDesc} (hs : P.underlying s = some d) (he : P.underlying e = some (.int k)) : sOne P (convert s e) (.int k' n) σ = some (.val (.int k (k.wrap n)) σ) :=
  Jxo rfl (by
    simp only [convert, Jao, Jaz hs, Jaz he, Option.bind_some]
    cases d <;> rfl) rfl
end
universe u
set_option linter.defProp false
inductive Tok {α : Sort u} (a : α) : Type where
  | mk
section
variable (P : Program) (gl : List Nat) (C : Jd9)
def zTF (f : FuncId) (args : Array Value) (σ : St) (K : Value → St → Prop) (_ : Tok K) : Prop := TF P gl f args σ K
def Jcf (r : Option (Value × St)) (f : FuncId) (args : Array Value) (σ : St) (K : Value → St → Prop) (_ : Tok K) : Prop := Jqx P gl r f args σ K
def zOp (w : Bool) (r : Option ARes) (σ : St) (K : Value → St → Prop) (_ : Tok K) : Prop := onOp P gl C w r σ K
def zO (ops : Array Oper) (base : Nat) (l : List Oper) (i : Nat) (env : Env) (σ : St) (Q : Env → St → Prop) (_ : Tok (ops, l, Q)) : Prop := wpO P gl C ops base l i env σ Q
def zQ1 (w : Bool) (cl : Cls) (id : Nat) (ev : St → Option ARes) (τ : St) (pend : List (Nat × AObj)) (K : Value → St → List (Nat × AObj) → Prop) (_ : Tok (ev, K)) : Prop := onQ P gl C w cl id ev τ pend K
def zQ2 (cl : Cls) (id : Nat) (r : Option ARes) (τ : St) (pend : List (Nat × AObj)) (K : Value → St → List (Nat × AObj) → Prop) (_ : Tok K) : Prop := onQ2 P gl C cl id r τ pend K
def zObj (o : Option AObj) (K : AObj → Prop) (_ : Tok K) : Prop := Kqo o K
def zQ (ops : Array Oper) (base : Nat) (l : List Oper) (i : Nat) (env : Env) (τ : St) (pend : List (Nat × AObj)) (Q : Env → St → Prop) (_ : Tok (ops, l, Q)) : Prop := wpQ P gl C ops base l i env τ pend Q
def zU (ops : Array Oper) (base : Nat) (l : List Oper) (i : Nat) (env : Env) (τ : St) (pend : List (Nat × AObj)) (rs : List (Nat × (St → Option ARes) × Value)) (ls : List (Nat × St × St)) (Q : Env → St → Prop) (_ : Tok (ops, l, rs, ls, Q)) : Prop := wpU P gl C ops base l i env τ pend rs ls Q
def zW (w : Bool) (A B : Prop) (_ : Tok (A, B)) : Prop := onW w A B
def zCl (cl : Cls) (A B D : Prop) (_ : Tok (A, B, D)) : Prop := onCl cl A B D
def zRd (ops : Array Oper) (i : Nat) (ev : St → Option ARes) (v : Value) (l : List (Nat × St × St)) (K : Prop) (_ : Tok (ops, ev, v, l, K)) : Prop := Jlm ops i ev v l K
def zLd (ops : Array Oper) (i : Nat) (τ τ' : St) (l : List (Nat × (St → Option ARes) × Value)) (K : Prop) (_ : Tok (ops, l, K)) : Prop := Jln ops i τ τ' l K
def zPr (ops : Array Oper) (i j : Nat) (A K : Prop) (_ : Tok (ops, A, K)) : Prop := Kaz (ordB ops i j) A K
def zIf (c : Value) (A B : Prop) (_ : Tok (A, B)) : Prop := Ke1 c A B
def Jci (N : Nat) (body : Code) (env : Env) (σ : St) (Q : Ex → Env → St → Prop) (_ : Tok (body, Q)) : Prop := Jxi P gl N body env σ Q
def zC (N : Nat) (c : Code) (env : Env) (σ : St) (Q : Ex → Env → St → Prop) (_ : Tok (c, Q)) : Prop := wpC P gl N C c env σ Q
def zX (ex : Ex) (A : Prop) (B : Nat → Prop) (D : Prop) (_ : Tok (A, B, D)) : Prop := match ex with
  | .normal => A
  | .exit id => B id
  | .ret => D
end
theorem nr {α : Sort u} {a b : α} (h : a = b) : a = b := h
section
variable {P : Program} {gl : List Nat} {C : Jd9} {N : Nat}
theorem Kri {ops : Array Oper} {base i : Nat} {env : Env} {σ : St} {Q : Env → St → Prop} : zO P gl C ops base [] i env σ Q .mk = Q env σ := nr rfl
theorem Kp1 {ops : Array Oper} {base i : Nat} {o : Oper} {r : List Oper} {env : Env} {σ : St} {Q : Env → St → Prop} :
    zO P gl C ops base (o :: r) i env σ Q .mk = zOp P gl C (Jbg ops env o) (Jal P (rho env) (base + i) o σ) σ (fun v σ' => zO P gl C ops base r (i + 1) (Jcw env o.dst v) σ' Q .mk) .mk := nr rfl
theorem Kp0 {v : Value} {σ σ' : St} {K : Value → St → Prop} : zOp P gl C true (some (.val v σ')) σ K .mk = K v σ' := nr rfl
theorem Kd1 {f : FuncId} {args : Array Value} {σ : St} {K : Value → St → Prop} : zOp P gl C true (some (.enter f args)) σ K .mk = Jcf P gl (C f args σ) f args σ K .mk := nr rfl
theorem Klz {r : Option ARes} {σ : St} {K : Value → St → Prop} : zOp P gl C false r σ K .mk = K undef σ := nr rfl
theorem Kbl {v : Value} {f : FuncId} {args : Array Value} {σ σ' : St} {K : Value → St → Prop} : Jcf P gl (some (v, σ')) f args σ K .mk = K v σ' := nr rfl
theorem Kbm {f : FuncId} {args : Array Value} {σ : St} {K : Value → St → Prop} : Jcf P gl none f args σ K .mk = zTF P gl f args σ K .mk := nr rfl
theorem Jak {f : FuncId} {args : Array Value} {σ : St} {K : Value → St → Prop} : zTF P gl f args σ K .mk = TF P gl f args σ K := nr rfl
theorem Krh {ops : Array Oper} {base i : Nat} {env : Env} {τ : St} {pend : List (Nat × AObj)} {Q : Env → St → Prop} : zQ P gl C ops base [] i env τ pend Q .mk = Q env (Je2 pend τ) := nr rfl
theorem Kpz {ops : Array Oper} {base i : Nat} {o : Oper} {r : List Oper} {env : Env} {τ : St} {pend : List (Nat × AObj)} {Q : Env → St → Prop} :
    zQ P gl C ops base (o :: r) i env τ pend Q .mk = zQ1 P gl C (Jbg ops env o) (Jac P o.op) (base + i) (Jal P (rho env) (base + i) o) τ pend (fun v τ' pend' => zQ P gl C ops base r (i + 1) (Jcw env o.dst v) τ' pend' Q .mk) .mk := nr rfl
section
variable {id : Nat} {ev : St → Option ARes} {τ : St} {pend : List (Nat × AObj)} {K : Value → St → List (Nat × AObj) → Prop} {v : Value} {σ' : St} {f : FuncId} {args : Array Value}
theorem Klu {cl : Cls} : zQ1 P gl C false cl id ev τ pend K .mk = K undef τ pend := nr rfl
theorem Klw : zQ1 P gl C true .pure id ev τ pend K .mk = zQ2 P gl C .pure id (ev τ) τ pend K .mk := nr rfl
theorem Klv : zQ1 P gl C true .read id ev τ pend K .mk = zQ2 P gl C .read id (ev τ) τ pend K .mk := nr rfl
theorem Kdz : zQ1 P gl C true .alloc id ev τ pend K .mk = zQ2 P gl C .alloc id (ev τ) τ pend K .mk := nr rfl
theorem Klx : zQ1 P gl C true .loud id ev τ pend K .mk = zQ2 P gl C .loud id (ev (Je2 pend τ)) (Je2 pend τ) pend K .mk := nr rfl
theorem Kls : zQ2 P gl C .pure id (some (.val v σ')) τ pend K .mk = K v τ pend := nr rfl
theorem Klr : zQ2 P gl C .read id (some (.val v σ')) τ pend K .mk = K v τ pend := nr rfl
theorem Klt : zQ2 P gl C .loud id (some (.val v σ')) τ pend K .mk = K v σ' [] := nr rfl
theorem Kdx : zQ2 P gl C .loud id (some (.enter f args)) τ pend K .mk = Jcf P gl (C f args τ) f args τ (fun v σ' => K v σ' []) .mk := nr rfl
theorem Kdy : zQ2 P gl C .alloc id (some (.val v σ')) τ pend K .mk = zObj (σ'.get id) (fun ao => K v τ (pend ++ [(id, ao)])) .mk := nr rfl
theorem Kd2 {ao : AObj} {K : AObj → Prop} : zObj (some ao) K .mk = K ao := nr rfl
end
theorem Krg {ops : Array Oper} {base i : Nat} {env : Env} {τ : St} {pend : List (Nat × AObj)} {rs : List (Nat × (St → Option ARes) × Value)} {ls : List (Nat × St × St)} {Q : Env → St → Prop} : zU P gl C ops base [] i env τ pend rs ls Q .mk = Q env (Je2 pend τ) := nr rfl
theorem Kpx {ops : Array Oper} {base i : Nat} {o : Oper} {r : List Oper} {env : Env} {τ : St} {pend : List (Nat × AObj)} {rs : List (Nat × (St → Option ARes) × Value)} {ls : List (Nat × St × St)} {Q : Env → St → Prop} :
    zU P gl C ops base (o :: r) i env τ pend rs ls Q .mk = zW (Jbg ops env o) (zU P gl C ops base r (i + 1) (Jcw env o.dst undef) τ pend rs ls Q .mk) (zQ1 P gl C true (Jac P o.op) (base + i) (Jal P (rho env) (base + i) o) τ pend (fun v τ' pend' =>
      zCl (Jac P o.op) (zRd ops i (Jal P (rho env) (base + i) o) v ls (zU P gl C ops base r (i + 1) (Jcw env o.dst v) τ' pend' ((i, Jal P (rho env) (base + i) o, v) :: rs) ls Q .mk) .mk)
        (zLd ops i τ τ' rs (zU P gl C ops base r (i + 1) (Jcw env o.dst v) τ' pend' rs ((i, τ, τ') :: ls) Q .mk) .mk)
        (zU P gl C ops base r (i + 1) (Jcw env o.dst v) τ' pend' rs ls Q .mk) .mk) .mk) .mk := nr rfl
theorem Kpw {A B : Prop} : zW true A B .mk = B := nr rfl
theorem Klp {A B : Prop} : zW false A B .mk = A := nr rfl
theorem Kl2 {A B D : Prop} : zCl .read A B D .mk = A := nr rfl
theorem Kl4 {A B D : Prop} : zCl .loud A B D .mk = B := nr rfl
theorem Kl3 {A B D : Prop} : zCl .pure A B D .mk = D := nr rfl
theorem Kd4 {A B D : Prop} : zCl .alloc A B D .mk = D := nr rfl
theorem Kpy {ops : Array Oper} {i : Nat} {ev : St → Option ARes} {v : Value} {K : Prop} : zRd ops i ev v [] K .mk = K := nr rfl
theorem Klq {ops : Array Oper} {i j : Nat} {ev : St → Option ARes} {v : Value} {τ τ' : St} {l : List (Nat × St × St)} {K : Prop} : zRd ops i ev v ((j, τ, τ') :: l) K .mk = zPr ops i j (sameR ev v τ ∧ sameR ev v τ') (zRd ops i ev v l K .mk) .mk := nr rfl
theorem Kp2 {ops : Array Oper} {i : Nat} {τ τ' : St} {K : Prop} : zLd ops i τ τ' [] K .mk = K := nr rfl
theorem Kl0 {ops : Array Oper} {i k : Nat} {ev : St → Option ARes} {v : Value} {τ τ' : St} {l : List (Nat × (St → Option ARes) × Value)} {K : Prop} : zLd ops i τ τ' ((k, ev, v) :: l) K .mk = zPr ops k i (sameR ev v τ ∧ sameR ev v τ') (zLd ops i τ τ' l K .mk) .mk := nr rfl
theorem Kly {ops : Array Oper} {i j : Nat} {A K : Prop} (h : ordB ops i j = true) : zPr ops i j A K .mk = K := by unfold zPr; rw [h]; rfl
theorem Kd0 {ops : Array Oper} {i j : Nat} {A K : Prop} (h : ordB ops i j = false) : zPr ops i j A K .mk = (A ∧ K) := by unfold zPr; rw [h]; rfl
theorem Kef {ev : St → Option ARes} {v : Value} {τ : St} : sameR ev v τ = (ev τ = some (.val v τ)) := nr rfl
theorem Ka0 {ops : Array Oper} {B : List Nat} {b : Bool} (h : okQ P ops B = b) : okQ P ops B = b := h
theorem Jrs {ops : Array Oper} {i j : Nat} {b : Bool} (h : ordB ops i j = b) : ordB ops i j = b := h
theorem Kl1 {A B : Prop} : zIf (.bool true) A B .mk = A := nr rfl
theorem Kd3 {A B : Prop} : zIf (.bool false) A B .mk = B := nr rfl
theorem Jtb {A D : Prop} {B : Nat → Prop} : zX .normal A B D .mk = A := nr rfl
theorem Kdv {A D : Prop} {B : Nat → Prop} {id : Nat} : zX (.exit id) A B D .mk = B id := nr rfl
theorem Kpq {A D : Prop} {B : Nat → Prop} : zX .ret A B D .mk = D := nr rfl
section
variable {env : Env} {σ : St} {Q : Ex → Env → St → Prop}
theorem Kp3 : zC P gl C N .skip env σ Q .mk = Q .normal env σ := nr rfl
theorem Kl6 {l : Nat} : zC P gl C N (.label l) env σ Q .mk = Q .normal env σ := nr rfl
theorem Krj : zC P gl C N .ret env σ Q .mk = Q .ret env σ := nr rfl
theorem Kp5 {id : Nat} : zC P gl C N (.exit id) env σ Q .mk = Q (.exit id) env σ := nr rfl
theorem Jb8 {id : Nat} {ops : List Oper} : zC P gl C N (.region id ⟨ops⟩ false) env σ Q .mk = zO P gl C ⟨ops⟩ σ.next ops 0 env (σ.bump ops.length) (Q .normal) .mk := nr rfl
theorem Kd5 {id : Nat} {ops : List Oper} (h : okQ P ⟨ops⟩ (Jdi ⟨ops⟩) = true) : zC P gl C N (.region id ⟨ops⟩ true) env σ Q .mk = zQ P gl C ⟨ops⟩ σ.next ops 0 env (σ.bump ops.length) [] (Q .normal) .mk := by
  show (bif okQ P ⟨ops⟩ (Jdi ⟨ops⟩) then _ else _) = _
  rw [h]; rfl
theorem Kl7 {id : Nat} {ops : List Oper} (h : okQ P ⟨ops⟩ (Jdi ⟨ops⟩) = false) : zC P gl C N (.region id ⟨ops⟩ true) env σ Q .mk = zU P gl C ⟨ops⟩ σ.next ops 0 env (σ.bump ops.length) [] [] [] (Q .normal) .mk := by
  show (bif okQ P ⟨ops⟩ (Jdi ⟨ops⟩) then _ else _) = _
  rw [h]; rfl
theorem Jey {a b : Code} : zC P gl C N (.seq a b) env σ Q .mk = zC P gl C N a env σ (fun ex env σ => zX ex (zC P gl C N b env σ Q .mk) (fun id => Q (.exit id) env σ) (Q .ret env σ) .mk) .mk := by
  show wpC P gl N C (.seq a b) env σ Q = _
  rw [wpC]
  unfold zC zX
  congr
theorem Kp6 {c : Operand} {a b : Code} : zC P gl C N (.cond c a b) env σ Q .mk = zIf (rho env c) (zC P gl C N a env σ Q .mk) (zC P gl C N b env σ Q .mk) .mk := nr rfl
theorem Kl8 {id : Nat} {c : Code} : zC P gl C N (.block id c) env σ Q .mk = zC P gl C N c env σ (fun ex env σ => zX ex (Q .normal env σ) (fun id' => if id' = id then Q .normal env σ else Q (.exit id') env σ) (Q .ret env σ) .mk) .mk := by
  show wpC P gl N C (.block id c) env σ Q = _
  rw [wpC]
  unfold zC zX
  congr
theorem Kp4 {c : Code} : zC P gl C N (.loop c) env σ Q .mk = Jci P gl N c env σ Q .mk := nr rfl
theorem Kl5 {c : Code} : zC P gl C N (.scope c) env σ Q .mk = zC P gl C N c env σ Q .mk := nr rfl
end
def zRes (r : Option (List Value)) (K : List Value → Prop) (_ : Tok K) : Prop := match r with
  | some l => K l
  | none => False
theorem Kdw {l : List Value} {K : List Value → Prop} : zRes (some l) K .mk = K l := nr rfl
theorem TF.walk (hC : C.ok P gl) (hm : P.follows .mixedOrders = true) {f : FuncId} {fn : Func} {args : Array Value} {σ : St} {Q : Value → St → Prop} (hf : P.funcs[f]? = some fn)
    (hok : (match fn.body with | some c => okC P gl fn.ntmps c && decide (fn.params.size ≤ fn.ntmps) | none => false) = true) (hsz : args.size = fn.params.size)
    (h : ∀ c, fn.body = some c → zC P gl C fn.ntmps c (Jfl args.toList 0 .nil) σ (fun ex env' σ' => zX ex (zRes (Ja2 P env' σ' fn.results.toList) (fun l => Q (packed l) σ') .mk) (fun _ => False) (zRes (Ja2 P env' σ' fn.results.toList) (fun l => Q (packed l) σ') .mk) .mk) .mk) : TF P gl f args σ Q := by
  cases hb : fn.body with
  | none => rw [hb] at hok; cases hok
  | some c =>
    rw [hb] at hok
    simp only [Bool.and_eq_true, decide_eq_true_eq] at hok
    refine TF.body hC hm hf hb hok.1 (by omega) ?_
    have h := h c hb
    unfold zC at h
    have e : (fun ex env' σ' => zX ex (zRes (Ja2 P env' σ' fn.results.toList) (fun l => Q (packed l) σ') .mk) (fun _ => False) (zRes (Ja2 P env' σ' fn.results.toList) (fun l => Q (packed l) σ') .mk) .mk) =
        (fun (ex : Ex) (env' : Env) (σ' : St) => match ex with
      | .exit _ => False
      | _ => match Ja2 P env' σ' fn.results.toList with
        | some l => Q (packed l) σ'
        | none => False) := by
      funext ex env' σ'
      cases ex <;> simp only [zX] <;> (try (unfold zRes; cases Ja2 P env' σ' fn.results.toList <;> rfl))
    rw [e] at h
    exact h
theorem Jay (hC : C.ok P gl) (hm : P.follows .mixedOrders = true) {body : Code} {Q : Ex → Env → St → Prop} (I : Nat → Env → St → Prop) {n : Nat} {env : Env} {σ : St} (hok : okC P gl N body = true) (h0 : I n env σ)
    (step : ∀ k env σ, I k env σ → zC P gl C N body env σ (fun ex env' σ' => zX ex (∃ k', k' < k ∧ I k' env' σ') (fun id => Q (.exit id) env' σ') (Q .ret env' σ') .mk) .mk) : Jci P gl N body env σ Q .mk := by
  refine Jxi.ind hC hm hok I h0 fun k env σ hI => ?_
  have h := step k env σ hI
  unfold zC at h
  have e : (fun ex env' σ' => zX ex (∃ k', k' < k ∧ I k' env' σ') (fun id => Q (.exit id) env' σ') (Q .ret env' σ') .mk) = (fun (ex : Ex) (env' : Env) (σ' : St) => match ex with
      | .normal => ∃ k', k' < k ∧ I k' env' σ'
      | .exit id => Q (.exit id) env' σ'
      | .ret => Q .ret env' σ') := by
    funext ex env' σ'
    cases ex <;> rfl
  rw [e] at h
  exact h
end
section
variable {P : Program} {ρ : Operand → Value} {id : Nat} {σ : St} {d : Option Nat} {ty : TypeId} {pos : String} {af : Array Edge} {gd : Option (Nat × Bool)} {t s e : TypeId} {x y c : Operand}
def ovr (a b : Option ARes) : Option ARes := match a with
  | some r => some r
  | none => b
theorem Km5 {r : ARes} {b : Option ARes} : ovr (some r) b = some r := nr rfl
theorem Km6 {b : Option ARes} : ovr none b = b := nr rfl
def Kr4 (r : Option St) : Option ARes := match r with
  | some σ' => some (.val undef σ')
  | none => none
theorem Kcf {σ' : St} : Kr4 (some σ') = some (.val undef σ') := nr rfl
theorem Kbn {v : Value} : valOf σ (some v) = some (.val v σ) := nr rfl
theorem Krz : Jal P ρ id { dst := d, op := .move x, type := ty, pos := pos, after := af, guard := gd } σ = some (.val (ρ x) σ) := nr rfl
theorem Knf : Jal P ρ id { dst := d, op := .assign x, type := ty, pos := pos, after := af, guard := gd } σ = some (.val (ρ x) σ) := nr rfl
def Kmh (σ : St) (c a b : Value) : Option ARes := match c with
  | .bool t => some (.val (if t then a else b) σ)
  | _ => none
theorem Kbp {a b : Value} : Kmh σ (.bool true) a b = some (.val a σ) := nr rfl
theorem Jxn {a b : Value} : Kmh σ (.bool false) a b = some (.val b σ) := nr rfl
theorem Kbq {a b : Value} {t : Bool} : Kmh σ (.bool t) a b = some (.val (if t = true then a else b) σ) := nr rfl
theorem Krx : Jal P ρ id { dst := d, op := .pick c x y, type := ty, pos := pos, after := af, guard := gd } σ = Kmh σ (ρ c) (ρ x) (ρ y) := nr rfl
def Kpt (id : Nat) (σ : St) (z : Option Value) : Option ARes := match z with
  | some z => some (.val (ptrTo id) (Jfx id z.cells σ))
  | none => none
theorem Jxp {z : Value} : Kpt id σ (some z) = some (.val (ptrTo id) (Jfx id z.cells σ)) := nr rfl
theorem Kqy : Jal P ρ id { dst := d, op := .alloc e, type := ty, pos := pos, after := af, guard := gd } σ = Kpt id σ (Jg4 P e) := nr rfl
theorem Ksk : Jal P ρ id { dst := d, op := .box e x, type := ty, pos := pos, after := af, guard := gd } σ = some (.val (ptrTo id) (Jfx id (ρ x).cells σ)) := nr rfl
theorem Kqx {parts : Array (Nat × Operand)} : Jal P ρ id { dst := d, op := .build t parts, type := ty, pos := pos, after := af, guard := gd } σ = valOf σ (Jcc P t (parts.map fun (i, x) => (i, ρ x))) := nr rfl
theorem Jt0 {len : Nat} {parts : Array (Nat × Operand)} : Jal P ρ id { dst := d, op := .buildSlice t len parts, type := ty, pos := pos, after := af, guard := gd } σ = Ja1 P t len id (parts.map fun (i, x) => (i, ρ x)) σ := nr rfl
theorem Kr0 : Jal P ρ id { dst := d, op := .load t x, type := ty, pos := pos, after := af, guard := gd } σ = valOf σ (Jh1 P t (ρ x) σ) := nr rfl
theorem Kqp : Jal P ρ id { dst := d, op := .store t x y, type := ty, pos := pos, after := af, guard := gd } σ = Kr4 (Jha P t (ρ x) (ρ y) σ) := by
  show (match Jha P t (ρ x) (ρ y) σ with
    | some σ' => some (ARes.val undef σ')
    | none => none) = _
  cases Jha P t (ρ x) (ρ y) σ <;> rfl
def sNil (σ : St) (v : Value) : Option ARes := match v with
  | .pointer (some a) => some (.val (.pointer (some a)) σ)
  | .iface t v => some (.val (.iface t v) σ)
  | .func (.func f) a c => some (.val (.func (.func f) a c) σ)
  | _ => none
theorem Kml {a : Addr} : sNil σ (.pointer (some a)) = some (.val (.pointer (some a)) σ) := nr rfl
theorem Keg {f : FuncId} {a c : Array Value} : sNil σ (.func (.func f) a c) = some (.val (.func (.func f) a c) σ) := nr rfl
theorem Kb9 : Jal P ρ id { dst := d, op := .nilCheck x, type := ty, pos := pos, after := af, guard := gd } σ = sNil σ (ρ x) := nr rfl
def sEq (σ : St) (op : BinOp) (r : Option Bool) : Option ARes := match op with
  | .eql => match r with
    | some b => some (.val (.bool b) σ)
    | none => none
  | .neq => match r with
    | some b => some (.val (.bool !b) σ)
    | none => none
  | _ => none
theorem Kqb {b : Bool} : sEq σ .eql (some b) = some (.val (.bool b) σ) := nr rfl
theorem Kqa {b : Bool} : sEq σ .neq (some b) = some (.val (.bool !b) σ) := nr rfl
theorem Ksl {op : BinOp} {yt : TypeId} : Jal P ρ id { dst := d, op := .binOp op t x y yt, type := ty, pos := pos, after := af, guard := gd } σ = ovr (sBin P op t x y (ρ x) (ρ y) σ) (sEq σ op (opEq P t (ρ x) (ρ y))) := by
  have := Jug (P := P) (ρ := ρ) (op := op) (t := t) (yt := yt) (x := x) (y := y) (d := d) (ty := ty) (pos := pos) (af := af) (gd := gd) (σ := σ)
  unfold Jal
  simp only [this]
  cases sBin P op t x y (ρ x) (ρ y) σ with
  | some r => rfl
  | none => cases op <;> first | rfl | (cases opEq P t (ρ x) (ρ y) <;> rfl)
theorem o_un {op : UnOp} : Jal P ρ id { dst := d, op := .unOp op t x, type := ty, pos := pos, after := af, guard := gd } σ = sOne P (Op.unary op) (ρ x) σ := by
  unfold Jal; exact Jyb
theorem Kr2 : Jal P ρ id { dst := d, op := .convert s e x, type := ty, pos := pos, after := af, guard := gd } σ = ovr (Jbq P s e id (ρ x) σ) (sOne P (convert s e) (ρ x) σ) := by
  have := Jr4 (P := P) (ρ := ρ) (s := s) (e := e) (x := x) (d := d) (ty := ty) (pos := pos) (af := af) (gd := gd) (σ := σ)
  unfold Jal
  simp only [this]
  cases Jbq P s e id (ρ x) σ <;> rfl
theorem Kca {f : FuncId} {first captured : Array Operand} : Jal P ρ id { dst := d, op := .makeFunc (.func f) first captured, type := ty, pos := pos, after := af, guard := gd } σ = some (.val (.func (.func f) (first.map ρ) (captured.map ρ)) σ) := nr rfl
theorem Jx2 : Jal P ρ id { dst := d, op := .makeSlice t x y, type := ty, pos := pos, after := af, guard := gd } σ = Jcq P t id (ρ x) (ρ y) σ := nr rfl
theorem Jx4 {f : Nat} : Jal P ρ id { dst := d, op := .fieldAddr s x f, type := ty, pos := pos, after := af, guard := gd } σ = valOf σ (Jee P s f (ρ x)) := nr rfl
theorem Kqu {f : Nat} : Jal P ρ id { dst := d, op := .field t x f, type := ty, pos := pos, after := af, guard := gd } σ = valOf σ (Jru P t f (ρ x)) := nr rfl
theorem Jx3 : Jal P ρ id { dst := d, op := .indexAddr t x y, type := ty, pos := pos, after := af, guard := gd } σ = valOf σ (Jed P t (ρ x) (ρ y)) := nr rfl
theorem Ke3 {ix : Nat} : Jal P ρ id { dst := d, op := .extract x ix, type := ty, pos := pos, after := af, guard := gd } σ = valOf σ (Jes ix (ρ x)) := nr rfl
theorem Kqr : Jal P ρ id { dst := d, op := .range t x, type := ty, pos := pos, after := af, guard := gd } σ = Jii P t id (ρ x) σ := nr rfl
theorem Kry {isS : Bool} : Jal P ρ id { dst := d, op := .next x isS, type := ty, pos := pos, after := af, guard := gd } σ = Jqr isS (ρ x) σ := nr rfl
theorem Kqw {args : Array Operand} {at' : Array TypeId} : Jal P ρ id { dst := d, op := .call { callee := .value x, args := args, argTypes := at' }, type := ty, pos := pos, after := af, guard := gd } σ = Ji6 P (ρ x) (args.map ρ) σ := nr rfl
theorem Kng {sT xT : TypeId} : Jal P ρ id { dst := d, op := .call { callee := .builtin .append, args := #[x, y], argTypes := #[sT, xT] }, type := ty, pos := pos, after := af, guard := gd } σ = Ji8 P sT xT id (ρ x) (ρ y) σ := nr rfl
theorem Kr1 {sT xT : TypeId} : Jal P ρ id { dst := d, op := .call { callee := .builtin .copy, args := #[x, y], argTypes := #[sT, xT] }, type := ty, pos := pos, after := af, guard := gd } σ = Kau P sT (ρ x) (ρ y) σ := nr rfl
theorem Kqs {e : TypeId} (h : P.underlying t = some (.slice e)) : Jal P ρ id { dst := d, op := .call { callee := .builtin .len, args := #[x], argTypes := #[t] }, type := ty, pos := pos, after := af, guard := gd } σ = valOf σ (Kb2 (ρ x)) := by
  unfold Jal; simp only [h]
theorem Kqh {env : Env} {t : Nat} : rho env (.tmp t) = eget env t := nr rfl
theorem Keq {env : Env} {v : Value} : rho env (.const v) = v := nr rfl
theorem Kbw {env : Env} {b : Nat} : rho env (.global b) = .pointer (some ⟨b, 0, none⟩) := nr rfl
theorem Km2 {env : Env} {f : FuncId} : rho env (.func f) = .func (.func f) #[] #[] := nr rfl
theorem Kcs {env : Env} {d : Nat} {v : Value} : Jcw env (some d) v = eput env d v := nr rfl
theorem Kct {env : Env} {v : Value} : Jcw env none v = env := nr rfl
theorem Jxm {ops : Array Oper} {env : Env} {op : Op} : Jbg ops env { dst := d, op := op, type := ty, pos := pos, after := af, guard := none } = true := nr rfl
theorem Jx8 {i : Nat} {env : Env} : Jfl [] i env = env := nr rfl
theorem Jt9 {i : Nat} {env : Env} {v : Value} {r : List Value} : Jfl (v :: r) i env = Jfl r (i + 1) (eput env i v) := nr rfl
theorem Jxw {env : Env} : Ja2 P env σ [] = some [] := nr rfl
def Kr9 (v : Value) (r : Option (List Value)) : Option (List Value) := match r with
  | some l => some (v :: l)
  | none => none
theorem Kcx {v : Value} {l : List Value} : Kr9 v (some l) = some (v :: l) := nr rfl
theorem Jxv {env : Env} {t : Nat} {r : List ResultVar} : Ja2 P env σ (.tmp t :: r) = Kr9 (eget env t) (Ja2 P env σ r) := nr rfl
theorem Jag {v : Value} : packed [v] = v := nr rfl
theorem Kbz : packed [] = .tuple #[] := nr rfl
theorem Jjz {v u : Value} {l : List Value} : packed (v :: u :: l) = .tuple (v :: u :: l).toArray := nr rfl
end
theorem Jum {σ : St} {A ver F : Nat} {c : List Value} (h : σ.get A = some (.cells true ver F c)) : σ.cells? A = some c := by
  simp [St.cells?, h, St.rd]
theorem Jgr (σ : St) (a b : Nat) : (σ.bump a).bump b = σ.bump (a + b) := by simp [St.bump, Nat.add_assoc]
theorem SimF.unbump {P : Program} {gl : List Nat} {f : FuncId} {args : Array Value} {σ : St} {v : Value} {n : Nat} (h : SimF P gl f args σ v (σ.bump n)) : SimF P gl f args σ v σ := by
  intro g w args' hg hr ha
  refine (h g w args' hg hr ha).mono ?_
  rintro e w' ⟨v', g', rfl, hv, hr', hx⟩
  have hr2 : Rel g' σ w' := by
    refine ⟨hr.wf, hr'.blk, fun A x hA => ?_, hr'.share, hr'.order, hr'.tab⟩
    obtain ⟨o, ho, hs⟩ := hr'.obj A x hA
    exact ⟨o, ho, Jg3.mono (Gam.le_refl _) rfl (fun _ _ _ _ _ h => h) hs⟩
  exact ⟨v', g', rfl, hv, hr2, hx.le, hx.new, hx.fresh, hx.size, hx.keep, hx.frame, hx.ro, Nat.le_refl _, hx.os, hx.out, hx.tape⟩
def sy0 := And.intro @Kri (And.intro @Kp1 (And.intro @Kp0 (And.intro @Kd1 (And.intro @Klz (And.intro @Kbl (And.intro @Kbm (And.intro @Krh (And.intro @Kpz (And.intro @Klu (And.intro @Klw (@Klv)))))))))))
def sy1 := And.intro @Kdz (And.intro @Klx (And.intro @Kls (And.intro @Klr (And.intro @Klt (And.intro @Kdx (And.intro @Kdy (And.intro @Kd2 (And.intro @Kl1 (And.intro @Kd3 (And.intro @Jtb (@Kdv)))))))))))
def sy2 := And.intro @Kpq (And.intro @Kp3 (And.intro @Kl6 (And.intro @Krj (And.intro @Kp5 (And.intro @Jb8 (And.intro @Kd5 (And.intro @Jey (And.intro @Kp6 (And.intro @Kl8 (And.intro @Kp4 (@Kl5)))))))))))
def sy3 := And.intro @Kdw (And.intro @Km5 (And.intro @Km6 (And.intro @Kcf (And.intro @Kbn (And.intro @Krz (And.intro @Knf (And.intro @Kbp (And.intro @Jxn (And.intro @Kbq (And.intro @Krx (@Jxp)))))))))))
def sy4 := And.intro @Kqy (And.intro @Ksk (And.intro @Kqx (And.intro @Jt0 (And.intro @Kr0 (And.intro @Kqp (And.intro @Kml (And.intro @Keg (And.intro @Kb9 (And.intro @Kqb (And.intro @Kqa (@Ksl)))))))))))
def sy5 := And.intro @o_un (And.intro @Kr2 (And.intro @Kca (And.intro @Jx2 (And.intro @Jx4 (And.intro @Kqu (And.intro @Jx3 (And.intro @Ke3 (And.intro @Kqr (And.intro @Kry (And.intro @Kqw (@Kng)))))))))))
def sy6 := And.intro @Kr1 (And.intro @Kqh (And.intro @Keq (And.intro @Kbw (And.intro @Km2 (And.intro @Kcs (And.intro @Kct (And.intro @Jxm (And.intro @Jx8 (And.intro @Jt9 (And.intro @Jxw (@Kcx)))))))))))
def sy7 := And.intro @Jxv (And.intro @Jag (And.intro @Kbz (And.intro @Jjz (And.intro @Kmx (And.intro @Kmm (And.intro @Kmr (And.intro @Kms (And.intro @Kmt (And.intro @Kmu (And.intro @Kmv (@Kmw)))))))))))
def sy9 := And.intro @Kl7 (And.intro @Krg (And.intro @Kpx (And.intro @Kpw (And.intro @Klp (And.intro @Kl2 (And.intro @Kl4 (And.intro @Kl3 (@Kd4))))))))
def sy10 := And.intro @Kpy (And.intro @Klq (And.intro @Kp2 (And.intro @Kl0 (And.intro @Kly (And.intro @Kd0 (@Kef))))))
def sy8 := And.intro @Kmq (And.intro @Kej (And.intro @Keh (And.intro @Kmi (And.intro @Kmj (@Jgr)))))
section
variable {P : Program} {ρ : Operand → Value} {id : Nat} {σ : St} {d : Option Nat} {ty : TypeId} {pos : String} {af : Array Edge} {gd : Option (Nat × Bool)} {t s e : TypeId} {x y c : Operand}
def oneO : Option (List Value) → Option Value
  | some [x] => some x
  | _ => none
theorem Ke0 {v : Value} : oneO (some [v]) = some v := nr rfl
def aggO : Option (List Value) → Option Value
  | some l => some (.agg l.toArray)
  | none => none
theorem Kf3 {l : List Value} : aggO (some l) = some (.agg l.toArray) := nr rfl
theorem Jdf (h : Jny P t = some none) (A o : Nat) (σ : St) : Jh1 P t (.pointer (some ⟨A, o, none⟩)) σ = oneO (σ.read? A o 1) := by
  simp only [Jh1, h, oneO]
  cases σ.read? A o 1 with
  | none => rfl
  | some l => match l with
    | [] => rfl
    | [x] => rfl
    | _ :: _ :: _ => rfl
theorem Jl4 {n : Nat} (h : Jny P t = some (some n)) (A o : Nat) (σ : St) : Jh1 P t (.pointer (some ⟨A, o, none⟩)) σ = aggO (σ.read? A o n) := by
  simp only [Jh1, h, aggO]
  cases σ.read? A o n <;> rfl
def rdG (σ : St) (ob : Option AObj) (a n : Nat) : Option (List Value) := match ob with
  | some (.cells own ver fam c) => if σ.rd own ver fam then sub? c a n else none
  | _ => none
theorem Jrq (A o n : Nat) : σ.read? A o n = rdG σ (σ.get A) o n := by
  unfold St.read? St.cells? rdG
  cases σ.get A with
  | none => rfl
  | some ob => cases ob with
    | cells own v F c => simp only; split <;> rfl
    | _ => rfl
theorem Jxy {v F : Nat} {c : List Value} {o n : Nat} : rdG σ (some (.cells true v F c)) o n = sub? c o n := by simp [rdG, St.rd]
theorem Jqn {v F : Nat} {c : List Value} {o n : Nat} (h : σ.famO F = none) : rdG σ (some (.cells false v F c)) o n = sub? c o n := by simp [rdG, St.rd, h]
theorem Kmf {a : Value} {c : List Value} : sub? (a :: c) 0 1 = some [a] := by simp [sub?]
theorem Kme {a : Value} {c : List Value} {n m : Nat} : sub? (a :: c) (n + 1) m = sub? c n m := by simp [sub?]; split <;> split <;> first | rfl | omega
def Kr8 (a : Value) : Option (List Value) → Option (List Value)
  | some l => some (a :: l)
  | none => none
theorem Kcw {a : Value} {l : List Value} : Kr8 a (some l) = some (a :: l) := nr rfl
theorem Kmc {c : List Value} : sub? c 0 0 = some [] := by simp [sub?]
theorem Kmd {a : Value} {c : List Value} {m : Nat} : sub? (a :: c) 0 (m + 1) = Kr8 a (sub? c 0 m) := by
  simp only [sub?, List.length_cons, Nat.zero_add, List.drop_zero]
  by_cases h : m ≤ c.length
  · rw [if_pos h, if_pos (by omega)]; rfl
  · rw [if_neg h, if_neg (by omega)]; rfl
theorem Jbx {c : List Value} {n : Nat} (h : c.length = n) : sub? c 0 n = some c := by subst h; simp [sub?]
theorem Kps {c : List Value} {o : Nat} {v : Value} (h : c[o]? = some v) : sub? c o 1 = some [v] := by
  obtain ⟨hlt, hv⟩ := List.getElem?_eq_some_iff.1 h
  simp only [sub?]
  rw [if_pos (by omega)]
  congr 1
  apply List.ext_getElem?
  intro i
  cases i with
  | zero => simp [hlt, hv]
  | succ i => simp; omega
def putG (σ : St) (ob : Option AObj) (A a n : Nat) (vs : List Value) : Option St := match ob with
  | some (.cells true ver F c) => if vs.length = n ∧ a + n ≤ c.length ∧ vs.all (·.oneCell') = true then some (σ.set A (.cells true (ver + 1) F (lay c a vs))) else none
  | _ => none
theorem st_n {n : Nat} (h : sz? P t = some n) (A a : Nat) (v : Value) (σ : St) : Jha P t (.pointer (some ⟨A, a, none⟩)) v σ = putG σ (σ.get A) A a n v.cells.toList := by
  have e : v.cells.toList.length = v.cells.size := by simp
  have e2 : Jha P t (.pointer (some ⟨A, a, none⟩)) v σ = if v.cells.size = n then (match σ.get A with
        | some (.cells true ver F c) => if a + n ≤ c.length && v.cells.toList.all (·.oneCell') then some (σ.set A (.cells true (ver + 1) F (lay c a v.cells.toList))) else none
        | _ => none) else none := by simp only [Jha, h]; rfl
  rw [e2]
  cases σ.get A with
  | none => simp [putG]
  | some ob =>
    cases ob with
    | cells own ver F c =>
      cases own with
      | true =>
        simp only [putG, e]
        by_cases h1 : v.cells.size = n
        · rw [if_pos h1]
          by_cases h2 : a + n ≤ c.length
          · cases h3 : v.cells.toList.all (·.oneCell') <;> simp [h1, h2]
          · simp [h2]
        · rw [if_neg h1, if_neg (fun q => h1 q.1)]
      | false => simp [putG]
    | _ => simp [putG]
theorem Kap {A a n ver F : Nat} {c vs : List Value} (h0 : vs.length = n) (h1 : a + n ≤ c.length) (h2 : vs.all (·.oneCell') = true) : putG σ (some (.cells true ver F c)) A a n vs = some (σ.set A (.cells true (ver + 1) F (lay c a vs))) := by
  simp only [putG]; rw [if_pos ⟨h0, h1, h2⟩]
theorem Kq3 {c : List Value} : lay c 0 [] = c := by simp [lay]
theorem Knl {a v : Value} {c vs : List Value} : lay (a :: c) 0 (v :: vs) = v :: lay c 0 vs := by simp [lay]
theorem Knk {a : Value} {c vs : List Value} {n : Nat} : lay (a :: c) (n + 1) vs = a :: lay c n vs := by
  simp only [lay, List.take_succ_cons, List.cons_append]
  rw [show n + 1 + vs.length = (n + vs.length) + 1 by omega, List.drop_succ_cons]
theorem Kew {cs : List Value} : Jfx id ⟨cs⟩ σ = σ.set id (.cells true 0 id cs) := nr rfl
theorem Ker : ptrTo id = .pointer (some ⟨id, 0, none⟩) := nr rfl
theorem Kbo {n m : Nat} : sliceTo id n m = .slice (some ⟨id, 0, none⟩) n (m + 1) := nr rfl
theorem Kfl : Je2 [] σ = σ := nr rfl
theorem Kcl {A : Nat} {o : AObj} {l : List (Nat × AObj)} : Je2 ((A, o) :: l) σ = Je2 l (σ.set A o) := nr rfl
theorem Kfm {l m : List (Nat × AObj)} : Je2 (l ++ m) σ = Je2 m (Je2 l σ) := by simp [Je2]
def appE (i : TypeInfo) (s : Value) (id : Nat) (src : Option (Nat × List Value)) (σ : St) : Option ARes := match src with
  | some (n, nc) => match s with
          | .slice base len k =>
            if n = 0 then some (.val s σ)
            else if len + n ≤ 9223372036854775807 ∧ (2 * (len + n) + 1000) * i.bytes ≤ 281474976710656 then
              match k with
              | 0 => if len = 0 then some (.val (sliceTo id n i.size) (σ.set id (.cells true 0 id nc))) else none
              | k' + 1 => match base with
                | some ⟨A, o, none⟩ => if k' = i.size ∧ nc.all (·.oneCell') = true then match σ.get A with
                    | some (.cells true ver F c) => if o + len * i.size ≤ c.length then some (.val (sliceTo id (len + n) i.size) (Jj8 σ A id ver F c o (o + len * i.size) nc)) else none
                    | _ => none
                  else none
                | _ => none
            else none
          | _ => none
  | none => none
theorem ap {sT xT : TypeId} {i : TypeInfo} {z : Array Value} (hu : P.underlying sT = some (.slice e)) (hi : P.info? e = some i) (hz : Jcp P e i.size = some z) (id : Nat) (sv xv : Value) (σ : St) :
    Ji8 P sT xT id sv xv σ = appE i sv id (Jh6 P xT i z xv σ) σ := by
  simp only [Ji8, hu, hi, hz]
  rfl
theorem Kf2 {i : TypeInfo} {b : Option Addr} {l k : Nat} {nc : List Value} : appE i (.slice b l k) id (some (0, nc)) σ = some (.val (.slice b l k) σ) := nr rfl
theorem Jnc {i : TypeInfo} {b : Option Addr} {n : Nat} {nc : List Value} (h0 : n ≠ 0) (h1 : n ≤ 9223372036854775807) (h2 : (2 * n + 1000) * i.bytes ≤ 281474976710656) :
    appE i (.slice b 0 0) id (some (n, nc)) σ = some (.val (.slice (some ⟨id, 0, none⟩) n (i.size + 1)) (σ.set id (.cells true 0 id nc))) := by
  simp only [appE, if_neg h0, Nat.zero_add]
  rw [if_pos ⟨h1, h2⟩]; rfl
theorem Kn1 {i : TypeInfo} {A len n ver F : Nat} {c nc : List Value} (hA : σ.get A = some (.cells true ver F c)) (hc : c.length = len * i.size) (h0 : n ≠ 0) (h1 : len + n ≤ 9223372036854775807) (h2 : (2 * (len + n) + 1000) * i.bytes ≤ 281474976710656) (h3 : nc.all (·.oneCell') = true) :
    appE i (.slice (some ⟨A, 0, none⟩) len (i.size + 1)) id (some (n, nc)) σ = some (.val (.slice (some ⟨id, 0, none⟩) (len + n) (i.size + 1))
      (((((σ.set A (.cells false ver F c)).set id (.cells true ver F (c ++ nc))).setFam F id).setHint A (len * i.size)).setHint id (len * i.size + nc.length))) := by
  simp only [appE, if_neg h0]
  rw [if_pos ⟨h1, h2⟩]
  simp only [h3, and_self, if_true, hA, Nat.zero_add]
  rw [if_pos (by omega)]
  have e1 : c.take (len * i.size) = c := List.take_of_length_le (by omega)
  simp only [Jj8, hc, if_true, e1, List.drop_zero, Nat.sub_zero]
  rfl
def Kqk (n : Nat) (r : Option (List Value)) : Option (Nat × List Value) := match r with
  | some l => some (n, l)
  | none => none
theorem Kby {n : Nat} {l : List Value} : Kqk n (some l) = some (n, l) := nr rfl
theorem Jd2 {xT : TypeId} {i : TypeInfo} {z : Array Value} (h : P.underlying xT = some (.slice e)) {B o n k : Nat} (h0 : n ≠ 0) : Jh6 P xT i z (.slice (some ⟨B, o, none⟩) n k) σ = Kqk n (σ.read? B o (n * i.size)) := by
  simp only [Jh6, h, len?, src?, Nat.le_refl, if_true, if_neg h0, Kqk]
  cases σ.read? B o (n * i.size) <;> rfl
theorem Jhi {xT : TypeId} {i : TypeInfo} {z : Array Value} (h : P.underlying xT = some (.slice e)) : Jh6 P xT i z (.slice none 0 0) σ = some (0, []) := by simp [Jh6, h, len?, src?]
theorem Jof {xT : TypeId} {i : TypeInfo} {z : Array Value} (h : P.underlying xT = some .string) (h1 : i.size = 1) {s : ByteArray} : Jh6 P xT i z (.string s) σ = some (s.size, bytesOf s) := by
  have e : (bytesOf s).take s.size = bytesOf s := List.take_of_length_le (by simp [bytesOf])
  simp [Jh6, h, len?, src?, h1, e]
theorem Jnb {n : Nat} : bnd n none = some n := nr rfl
theorem Jlo {n : Nat} {k : IntKind} {i : Int} (h : 0 ≤ i) : bnd n (some (.int k i)) = some i.toNat := by
  cases i with
  | ofNat m => rfl
  | negSucc m => omega
def slE (n A o len k : Nat) (l h : Option Nat) : Option Value := match l, h with
  | some l, some h => if l ≤ h ∧ h ≤ len ∧ (k = 0 ∨ k = n + 1) then some (.slice (some ⟨A, o + l * n, none⟩) (h - l) k) else none
  | _, _ => none
theorem Kak {n A o len k l h : Nat} (h1 : l ≤ h) (h2 : h ≤ len) (h3 : k = 0 ∨ k = n + 1) : slE n A o len k (some l) (some h) = some (.slice (some ⟨A, o + l * n, none⟩) (h - l) k) := by
  simp only [slE]; rw [if_pos ⟨h1, h2, h3⟩]
theorem Jg7 {n : Nat} (hu : P.underlying t = some (.slice e)) (hs : sz? P e = some n) (A o len k : Nat) (lo hi : Option Value) : Jhb P t (.slice (some ⟨A, o, none⟩) len k) lo hi none = slE n A o len k (bnd 0 lo) (bnd len hi) := by
  simp only [Jhb, hu, hs, slE]
  cases bnd len hi <;> cases bnd 0 lo <;> rfl
end
section
variable {P : Program} {ρ : Operand → Value} {id : Nat} {σ : St} {d : Option Nat} {ty : TypeId} {pos : String} {af : Array Edge} {gd : Option (Nat × Bool)} {t s e : TypeId} {x y c : Operand} {k k' : IntKind}
theorem Jjv {kk : IntKind} (h : P.underlying s = some (.int kk)) (id : Nat) (v : Value) (σ : St) : Jbq P s e id v σ = none := by
  unfold Jbq; rw [h]
theorem cvi {kk : IntKind} (hs : P.underlying s = some (.int kk)) (he : P.underlying e = some (.int k)) (k' : IntKind) (n : Int) (σ : St) : sOne P (convert s e) (.int k' n) σ = some (.val (.int k (k.wrap n)) σ) := Kmk hs he
theorem Ksv {b : TypeId} (h1 : P.underlying s = some .string) (h2 : P.underlying e = some (.slice b)) (h3 : P.underlying b = some (.int .u8)) (id : Nat) (v : ByteArray) (σ : St) :
    Jbq P s e id (.string v) σ = some (.val (.slice (some ⟨id, 0, none⟩) v.size 2) (σ.set id (.cells true 0 id (bytesOf v)))) := by
  simp only [Jbq, h1, h2, h3]; rfl
def strR (σ : St) (r : Option Value) : Option ARes := match r with
  | some v => some (.val v σ)
  | none => none
theorem Kd8 {v : Value} : strR σ (some v) = some (.val v σ) := nr rfl
theorem Ksw {b : TypeId} (h1 : P.underlying s = some (.slice b)) (h2 : P.underlying e = some .string) (h3 : P.underlying b = some (.int .u8)) (id : Nat) (a : Option Addr) (n kk : Nat) (σ : St) :
    Jbq P s e id (.slice a n kk) σ = strR σ (Jbi (.slice a n kk) σ) := by
  simp only [Jbq, h1, h2, h3, strR]
  cases Jbi (.slice a n kk) σ <;> rfl
theorem Jr6 (l : List UInt8) : bytes? (l.map Jib) = some l := by
  induction l with
  | nil => rfl
  | cons a l ih =>
    have hb : (a.toNat : Int) < 256 := by have := a.toNat_lt; omega
    simp [bytes?, Jib, ih]
theorem Jmc : Jbi (.slice none 0 0) σ = some (.string ⟨#[]⟩) := nr rfl
theorem Knz {A o n kk : Nat} {l : List UInt8} (h : σ.read? A o n = some (l.map Jib)) (hn : l.length = n) : Jbi (.slice (some ⟨A, o, none⟩) n kk) σ = some (.string ⟨l.toArray⟩) := by
  simp only [Jbi, h, Jr6]
  split
  · have : l = [] := List.length_eq_zero_iff.1 (by omega)
    subst this; rfl
  · simp [strOf]
def Jhz (P : Program) (t : TypeId) (v : Value) (lo hi mx : Option Value) (σ : St) : Option ARes :=
  ovr (if Ja5 v && (lo.toList ++ hi.toList ++ mx.toList).all Ja5 then (match Jar P (Instr.sliceAt t v lo hi mx) with
    | some r => if Ja5 r then some (.val r σ) else none
    | none => none) else none) (valOf σ (Jhb P t v lo hi mx))
theorem Kqq {lo hi mx : Option Operand} : Jal P ρ id { dst := d, op := .slice t x lo hi mx, type := ty, pos := pos, after := af, guard := gd } σ = Jhz P t (ρ x) (lo.map ρ) (hi.map ρ) (mx.map ρ) σ := by
  have hf : Ja7 P ρ { dst := d, op := .slice t x lo hi mx, type := ty, pos := pos, after := af, guard := gd } σ = if Ja5 (ρ x) && ((lo.map ρ).toList ++ (hi.map ρ).toList ++ (mx.map ρ).toList).all Ja5 then (match Jar P (Instr.sliceAt t (ρ x) (lo.map ρ) (hi.map ρ) (mx.map ρ)) with
    | some r => if Ja5 r then some (.val r σ) else none
    | none => none) else none := by
    unfold Ja7
    have h1 : Jdh ρ (.slice t x lo hi mx) = (Ja5 (ρ x) && ((lo.map ρ).toList ++ (hi.map ρ).toList ++ (mx.map ρ).toList).all Ja5) := by
      cases lo <;> cases hi <;> cases mx <;> simp [Jdh, Op.operands, Bool.and_assoc]
    have h2 : execOp ρ { dst := d, op := .slice t x lo hi mx, type := ty, pos := pos, after := af, guard := gd } = (do let v ← Instr.sliceAt t (ρ x) (lo.map ρ) (hi.map ρ) (mx.map ρ); pure (.value v)) := rfl
    simp only [h1, h2, Je1, Bool.not_false, Bool.and_true, Jao]
    split
    · cases Jar P (Instr.sliceAt t (ρ x) (lo.map ρ) (hi.map ρ) (mx.map ρ)) <;> rfl
    · rfl
  unfold Jal
  simp only [hf, Jhz, ovr]
  rfl
theorem Jtj {a : Addr} {n kk : Nat} {lo hi mx : Option Value} : Jhz P t (.slice (some a) n kk) lo hi mx σ = valOf σ (Jhb P t (.slice (some a) n kk) lo hi mx) := by
  simp only [Jhz]
  have : Ja5 (.slice (some a) n kk) = false := rfl
  rw [this]; simp [ovr]
theorem Jdv {n : Nat} {i : Int} {code : BoundsCode} (h0 : 0 ≤ i) (h : i ≤ n) : Jar P (Instr.sliceBound (.int k i) n code) = some i.toNat := by
  simp only [Instr.sliceBound, asIntOf, Jao, Jcn, Option.bind_some]
  rw [if_pos ⟨h0, h⟩]; rfl
theorem Jun {n m : Nat} {o : Option Value} (h : bnd n o = some m) : (o = none ∧ n = m) ∨ ∃ k : IntKind, o = some (Value.int k (m : Int)) := by
  cases o with
  | none => simp only [bnd, Option.some.injEq] at h; exact .inl ⟨rfl, h⟩
  | some q =>
    unfold bnd at h
    split at h
    · rename_i e; cases e
    · rename_i k n e
      cases e
      cases h
      exact .inr ⟨k, rfl⟩
    · cases h
theorem Jk4 {v : ByteArray} {lo hi : Option Value} (hu : P.underlying t = some .string) (hf : (lo.toList ++ hi.toList).all Ja5 = true) {l h : Nat} (hl : bnd 0 lo = some l) (hh : bnd v.size hi = some h) (h1 : l ≤ h) (h2 : h ≤ v.size) :
    Jhz P t (.string v) lo hi none σ = some (.val (.string (v.extract l h)) σ) := by
  have key : Jar P (Instr.sliceAt t (.string v) lo hi none) = some (.string (v.extract l h)) := by
    have hb : Jar P (Instr.sliceBounds false v.size v.size lo hi none) = some (l, h, v.size) := by
      rcases Jun hl with ⟨rfl, rfl⟩ | ⟨kl, rfl⟩ <;> rcases Jun hh with ⟨rfl, rfl⟩ | ⟨kh, rfl⟩ <;>
        simp only [Instr.sliceBounds, Jao, Jcn, Option.bind_some, Option.isSome_none] <;>
        (first
          | rfl
          | (simp only [Jdv (P := P) (k := kl) (n := h) (i := (l : Int)) (Int.natCast_nonneg _) (Int.ofNat_le.2 h1), Jdv (P := P) (k := kh) (n := v.size) (i := (h : Int)) (Int.natCast_nonneg _) (Int.ofNat_le.2 h2), Jao, Jcn, Option.bind_some, Int.toNat_natCast]; done)
          | (simp only [Jdv (P := P) (k := kl) (n := v.size) (i := (l : Int)) (Int.natCast_nonneg _) (Int.ofNat_le.2 h1), Jao, Jcn, Option.bind_some, Int.toNat_natCast]; done)
          | (simp only [Jdv (P := P) (k := kh) (n := v.size) (i := (h : Int)) (Int.natCast_nonneg _) (Int.ofNat_le.2 h2), Jao, Jcn, Option.bind_some, Int.toNat_natCast]; done))
    unfold Instr.sliceAt
    rw [Jao, Jaz hu, Option.bind_some]
    show Jar P (Instr.slice t (Value.string v) lo hi none) = _
    unfold Instr.slice
    rw [Jao, Jaz hu, Option.bind_some]
    show Jar P (Instr.sliceBounds false v.size v.size lo hi none >>= fun q => pure (Value.string (v.extract q.1 q.2.1))) = _
    rw [Jao, hb]
    rfl
  simp only [Jhz, Option.toList_none, List.append_nil, hf, key]
  rfl
theorem Jr1 {n : Int} : Ja5 (.int k n) = true := rfl
theorem Krn {v : ByteArray} {i : Int} (hu : P.underlying t = some .string) (h0 : 0 ≤ i) (h1 : i ≤ v.size) : Jhz P t (.string v) (some (.int k i)) none none σ = some (.val (.string (v.extract i.toNat v.size)) σ) :=
  Jk4 hu (by simp [Jr1]) (Jlo h0) Jnb (by omega) (Nat.le_refl _)
theorem Kro {v : ByteArray} {i : Int} (hu : P.underlying t = some .string) (h0 : 0 ≤ i) (h1 : i ≤ v.size) : Jhz P t (.string v) none (some (.int k i)) none σ = some (.val (.string (v.extract 0 i.toNat)) σ) :=
  Jk4 hu (by simp [Jr1]) Jnb (Jlo h0) (Nat.zero_le _) (by omega)
theorem Kmg {v : ByteArray} {i j : Int} (hu : P.underlying t = some .string) (h0 : 0 ≤ i) (h1 : i ≤ j) (h2 : j ≤ v.size) : Jhz P t (.string v) (some (.int k i)) (some (.int k' j)) none σ = some (.val (.string (v.extract i.toNat j.toNat)) σ) :=
  Jk4 hu (by simp [Jr1]) (Jlo h0) (Jlo (by omega)) (by omega) (by omega)
theorem Jqz {i : Int} (hu : P.underlying t = some (.slice e)) {n : Nat} (hs : sz? P e = some n) (h0 : i = 0) : Jhz P t (.slice none 0 0) none (some (.int k i)) none σ = some (.val (.slice none 0 0) σ) := by
  subst h0
  have q : Jhb P t (.slice none 0 0) none (some (.int k 0)) none = some (.slice none 0 0) := by simp only [Jhb, hu, hs]; rfl
  have key : Jar P (Instr.sliceAt t (.slice none 0 0) none (some (.int k 0)) none) = (Jar P (sizeOf e)).bind fun _ => some (.slice none 0 0) := by
    unfold Instr.sliceAt
    rw [Jao, Jaz hu, Option.bind_some]
    show Jar P (Instr.slice t (Value.slice none 0 0) none (some (Value.int k 0)) none) = _
    unfold Instr.slice
    rw [Jao, Jaz hu, Option.bind_some]
    show Jar P (Instr.sliceBounds true 0 0 none (some (Value.int k 0)) none >>= fun q => sizeOf e >>= fun size => pure (Value.slice (if q.2.2 = q.1 then none else (none : Option Addr).map (·.add (q.1 * size))) (q.2.1 - q.1) (q.2.2 - q.1))) = _
    have hb : Jar P (Instr.sliceBounds true 0 0 none (some (.int k 0)) none) = some (0, 0, 0) := by rfl
    rw [Jao, hb, Option.bind_some, Jao]
    rfl
  unfold Jhz
  rw [q]
  simp only [key]
  cases Jar P (sizeOf e) <;> simp [ovr, valOf, Ja5, flat0]
theorem Jr3 {b : Builtin} {args : List Operand} {at' : Array TypeId} (hb : ∀ vs, invoke (.builtin b at' ty ((⟨args⟩ : Array Operand).map fun | .const _ => true | _ => false)) vs = (do let v ← (match b with | .len => Builtin.len_ at' ty vs | .min => Builtin.min_ at' ty vs | .max => Builtin.max_ at' ty vs | _ => stuck "x"); pure (.value v))) :
    execOp ρ { dst := d, op := .call { callee := .builtin b, args := ⟨args⟩, argTypes := at' }, type := ty, pos := pos, after := af, guard := gd } = (do let v ← (match b with | .len => Builtin.len_ at' ty ⟨args.map ρ⟩ | .min => Builtin.min_ at' ty ⟨args.map ρ⟩ | .max => Builtin.max_ at' ty ⟨args.map ρ⟩ | _ => stuck "x"); pure (.value v)) := by
  have hm : (⟨args⟩ : Array Operand).map ρ = ⟨args.map ρ⟩ := by simp
  unfold execOp Go.resolve
  simp only [hm, pure_bind]
  exact hb _
def Jif (P : Program) (σ : St) (f : Array Value → Sem Value) (l : List Value) : Option ARes := if l.all Ja5 then (match Jar P (f ⟨l⟩) with
    | some r => if Ja5 r then some (.val r σ) else none
    | none => none) else none
theorem Jll {b : Builtin} {args : List Operand} {at' : Array TypeId} {f : Array Value → Sem Value} (hb : execOp ρ { dst := d, op := .call { callee := .builtin b, args := ⟨args⟩, argTypes := at' }, type := ty, pos := pos, after := af, guard := gd } = (do let v ← f ⟨args.map ρ⟩; pure (.value v))) :
    Ja7 P ρ { dst := d, op := .call { callee := .builtin b, args := ⟨args⟩, argTypes := at' }, type := ty, pos := pos, after := af, guard := gd } σ = Jif P σ f (args.map ρ) := by
  unfold Ja7 Jif
  have h1 : Jdh ρ (.call { callee := .builtin b, args := ⟨args⟩, argTypes := at' }) = (args.map ρ).all Ja5 := by
    simp [Jdh, Op.operands, Call.operands, List.all_map, Function.comp_def]
  simp only [h1, hb, Je1, Bool.not_false, Bool.and_true, Jao]
  split
  · cases Jar P (f ⟨args.map ρ⟩) <;> rfl
  · rfl
theorem Kne (h : P.underlying t = some .string) (ρ : Operand → Value) (id : Nat) (σ : St) (d : Option Nat) (ty : TypeId) (pos : String) (af : Array Edge) (gd : Option (Nat × Bool)) (x : Operand) :
    Jal P ρ id { dst := d, op := .call { callee := .builtin .len, args := #[x], argTypes := #[t] }, type := ty, pos := pos, after := af, guard := gd } σ = Jif P σ (Builtin.len_ #[t] ty) [ρ x] := by
  unfold Jal
  simp only [h]
  exact Jll (args := [x]) (Jr3 (b := .len) (fun vs => rfl))
theorem Ksi {args : List Operand} {at' : Array TypeId} : Jal P ρ id { dst := d, op := .call { callee := .builtin .min, args := ⟨args⟩, argTypes := at' }, type := ty, pos := pos, after := af, guard := gd } σ = Jif P σ (Builtin.min_ at' ty) (args.map ρ) := by
  unfold Jal
  exact Jll (Jr3 (b := .min) (fun vs => rfl))
theorem Ksj {args : List Operand} {at' : Array TypeId} : Jal P ρ id { dst := d, op := .call { callee := .builtin .max, args := ⟨args⟩, argTypes := at' }, type := ty, pos := pos, after := af, guard := gd } σ = Jif P σ (Builtin.max_ at' ty) (args.map ρ) := by
  unfold Jal
  exact Jll (Jr3 (b := .max) (fun vs => rfl))
theorem Kr6 (h : P.underlying t = some .string) (ty : TypeId) (v : ByteArray) (σ : St) : Jif P σ (Builtin.len_ #[t] ty) [.string v] = some (.val (.int .i64 v.size) σ) := by
  have : Jar P (Builtin.len_ #[t] ty #[.string v]) = some (.int .i64 v.size) := by
    simp [Builtin.len_, Jao, Jaz h, goInt]
  unfold Jif
  rw [if_pos (by rfl)]
  simp only [this]
  rfl
theorem Jdb (h : P.underlying t = some (.slice e)) (ρ : Operand → Value) (id : Nat) (σ : St) (d : Option Nat) (ty : TypeId) (pos : String) (af : Array Edge) (gd : Option (Nat × Bool)) (x : Operand) :
    Jal P ρ id { dst := d, op := .call { callee := .builtin .len, args := #[x], argTypes := #[t] }, type := ty, pos := pos, after := af, guard := gd } σ = valOf σ (Kb2 (ρ x)) := Kqs h
theorem Km7 {a : Option Addr} {n kk : Nat} : Kb2 (.slice a n kk) = some (.int .i64 n) := nr rfl
theorem Kqz {at' : Array TypeId} {a b : Int} : Jif P σ (Builtin.min_ at' ty) [.int k a, .int k b] = some (.val (.int k (min a b)) σ) := by
  have : Jar P (Builtin.min_ at' ty #[.int k a, .int k b]) = some (.int k (min a b)) := by
    have e : (if b < a then b else a) = min a b := by rw [Int.min_def]; split <;> split <;> omega
    simp [Builtin.min_, Builtin.min2, Jao, e]
  unfold Jif
  rw [if_pos (by rfl)]
  simp only [this]
  rfl
theorem Kq0 {at' : Array TypeId} {a b : Int} : Jif P σ (Builtin.max_ at' ty) [.int k a, .int k b] = some (.val (.int k (max a b)) σ) := by
  have : Jar P (Builtin.max_ at' ty #[.int k a, .int k b]) = some (.int k (max a b)) := by
    have e : (if a < b then b else a) = max a b := by rw [Int.max_def]; split <;> split <;> omega
    simp [Builtin.max_, Builtin.max2, Jao, e]
  unfold Jif
  rw [if_pos (by rfl)]
  simp only [this]
  rfl
def Kal (P : Program) (t : TypeId) (v i : Value) (σ : St) : Option ARes :=
  ovr (if Ja5 v && Ja5 i then (match Jar P (Instr.index t v i) with
    | some r => if Ja5 r then some (.val r σ) else none
    | none => none) else none) (valOf σ (Ji7 P t v i))
theorem Kqt : Jal P ρ id { dst := d, op := .index t x y, type := ty, pos := pos, after := af, guard := gd } σ = Kal P t (ρ x) (ρ y) σ := by
  have hf : Ja7 P ρ { dst := d, op := .index t x y, type := ty, pos := pos, after := af, guard := gd } σ = if Ja5 (ρ x) && Ja5 (ρ y) then (match Jar P (Instr.index t (ρ x) (ρ y)) with
    | some r => if Ja5 r then some (.val r σ) else none
    | none => none) else none := by
    unfold Ja7
    have h1 : Jdh ρ (.index t x y) = (Ja5 (ρ x) && Ja5 (ρ y)) := by simp [Jdh, Op.operands]
    have h2 : execOp ρ { dst := d, op := .index t x y, type := ty, pos := pos, after := af, guard := gd } = (do let v ← Instr.index t (ρ x) (ρ y); pure (.value v)) := rfl
    simp only [h1, h2, Je1, Bool.not_false, Bool.and_true, Jao]
    split
    · cases Jar P (Instr.index t (ρ x) (ρ y)) <;> rfl
    · rfl
  unfold Jal
  simp only [hf, Kal, ovr]
  rfl
theorem Kr7 (hu : P.underlying t = some .string) (v : ByteArray) (k : IntKind) (i : Int) (σ : St) (h0 : 0 ≤ i) (h1 : i < v.size) : Kal P t (.string v) (.int k i) σ = some (.val (.int .u8 ((v.data.toList.getD i.toNat 0).toNat : Int)) σ) := by
  have hlt : i.toNat < v.size := by omega
  have hg : v[i.toNat]? = some (v.data.toList.getD i.toNat 0) := by
    have hl : v.data.toList.length = v.size := by simp
    have e1 : v.data.toList.getD i.toNat 0 = v[i.toNat] := by
      rw [List.getD_eq_getElem?_getD, List.getElem?_eq_getElem (by omega)]
      simp; rfl
    rw [e1]
    exact getElem?_pos v i.toNat hlt
  have key : Jar P (Instr.index t (.string v) (.int k i)) = some (.int .u8 ((v.data.toList.getD i.toNat 0).toNat : Int)) := by
    simp only [Instr.index, asIntOf, Jao, Jcn, Option.bind_some, Jaz hu, if_pos h0, hg]
  unfold Kal
  rw [if_pos (by rfl), key]
  rfl
theorem Je3 {n : Nat} (hu : P.underlying t = some (.slice e)) (hs : sz? P e = some n) (A o len kk : Nat) (k : IntKind) (i : Int) (h0 : 0 ≤ i) (h1 : i < len) : Jed P t (.slice (some ⟨A, o, none⟩) len kk) (.int k i) = some (.pointer (some ⟨A, o + i.toNat * n, none⟩)) := by
  obtain ⟨m, rfl⟩ := Int.eq_ofNat_of_zero_le h0
  simp only [Jed, hu, hs]
  rw [if_pos (by omega)]; rfl
theorem Jba {off f : Nat} (h : Jya P s f = some off) (A o : Nat) : Jee P s f (.pointer (some ⟨A, o, none⟩)) = some (.pointer (some ⟨A, o + off, none⟩)) := by
  simp only [Jee, h]
theorem Krv (hu : P.underlying t = some .string) (id : Nat) (v : ByteArray) (σ : St) : Jii P t id (.string v) σ = some (.val (.pointer (some ⟨id, 0, none⟩)) (σ.set id (.iter v 0))) := by
  simp only [Jii, hu]; rfl
def Kce (σ : St) (A : Nat) (o : Option AObj) : Option ARes := match o with
  | some (.iter s pos) => if pos < s.size then
        some (.val (.tuple #[.bool true, .int .i64 (pos : Nat), .int .i32 ((Utf8.decode s pos).1 : Nat)]) (σ.set A (.iter s (pos + (Utf8.decode s pos).2))))
      else some (.val (.tuple #[.bool false]) σ)
  | _ => none
theorem Kni {A : Nat} : Jqr true (.pointer (some ⟨A, 0, none⟩)) σ = Kce σ A (σ.get A) := by
  unfold Jqr Kce
  simp only
  cases σ.get A with
  | none => rfl
  | some o => cases o <;> rfl
theorem Ji9 {A pos : Nat} {v : ByteArray} (h : pos < v.size) : Kce σ A (some (.iter v pos)) = some (.val (.tuple #[.bool true, .int .i64 (pos : Nat), .int .i32 ((Utf8.decode v pos).1 : Nat)]) (σ.set A (.iter v (pos + (Utf8.decode v pos).2)))) := by
  simp only [Kce, if_pos h]
theorem Jt2 {A pos : Nat} {v : ByteArray} (h : ¬ pos < v.size) : Kce σ A (some (.iter v pos)) = some (.val (.tuple #[.bool false]) σ) := by
  simp only [Kce, if_neg h]
theorem Kss {a : Value} {l : List Value} : Jes 0 (.tuple ⟨a :: l⟩) = some a := nr rfl
theorem Ksr {a : Value} {l : List Value} {n : Nat} : Jes (n + 1) (.tuple ⟨a :: l⟩) = Jes n (.tuple ⟨l⟩) := by simp [Jes]
theorem Ksm {f : FuncId} {a c args : List Value} : Ji6 P (.func (.func f) ⟨a⟩ ⟨c⟩) ⟨args⟩ σ = Jb6 P f ⟨a ++ args ++ c⟩ σ := by simp [Ji6]
theorem Jas {f : FuncId} {fn : Func} (hf : P.funcs[f]? = some fn) (hn : (fn.name == "runtime.NumGoroutine") = false) (hb : fn.body.isNone = false) (args : Array Value) (σ : St) : Jb6 P f args σ = some (.enter f args) := by
  simp only [Jb6, hf, hn, hb]; rfl
theorem Kq1 {l : List Operand} {ρ : Operand → Value} : (⟨l⟩ : Array Operand).map ρ = ⟨l.map ρ⟩ := by simp
theorem Jbs {c : Array Value} : Value.cells (.agg c) = c := nr rfl
end
end Go.Ev
