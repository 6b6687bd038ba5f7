/-
  The evaluator of code, over any program: a region that draws its order comes to what the evaluator says, whichever order is drawn: the trace in the text's order, and the proof for every order. No condition.
-/
import Derived.Test.YtedojhheppepdaaGreatDoorEv14
namespace Go.Ev
open Go
set_option linter.unusedVariables false
set_option linter.unusedSimpArgs false

/-! ## What surely stands before what -/
def bit (B : List Nat) (i j : Nat) : Bool := (B.getD i 0).testBit j
def edgeBits (B : List Nat) (l : List Edge) : Nat := l.foldl (fun s e => if Region.binds .any e then s ||| 2 ^ e.on ||| B.getD e.on 0 else s) 0

theorem edgeBits_ex (B : List Nat) (j : Nat) : ∀ (l : List Edge) (s : Nat), (l.foldl (fun s e => if Region.binds .any e then s ||| 2 ^ e.on ||| B.getD e.on 0 else s) s).testBit j = true →
    s.testBit j = true ∨ ∃ e ∈ l, Region.binds .any e = true ∧ (e.on = j ∨ bit B e.on j = true)
  | [], s, h => .inl h
  | e :: l, s, h => by
    rw [List.foldl_cons] at h
    rcases edgeBits_ex B j l _ h with h1 | ⟨e', h1, h2⟩
    · split at h1
      · rename_i hb
        rw [Nat.testBit_or, Nat.testBit_or, Nat.testBit_two_pow] at h1
        simp only [Bool.or_eq_true, decide_eq_true_eq] at h1
        rcases h1 with (h1 | h1) | h1
        · exact .inl h1
        · exact .inr ⟨e, List.mem_cons_self, hb, .inl h1⟩
        · exact .inr ⟨e, List.mem_cons_self, hb, .inr h1⟩
      · exact .inl h1
    · exact .inr ⟨e', List.mem_cons_of_mem _ h1, h2⟩

/-- What a region must meet, of its text alone. -/
structure OkDraw (P : Program) (ops : Array Oper) (B : List Nat) : Prop where
  edge : ∀ i o, ops[i]? = some o → ∀ e ∈ o.after, Region.binds .any e = true → e.on < i
  ex : ∀ i o j, ops[i]? = some o → bit B i j = true → ∃ e ∈ o.after, Region.binds .any e = true ∧ (e.on = j ∨ bit B e.on j = true)
  out : ∀ i j, ops.size ≤ i → bit B i j = false
  tr : ∀ i j k, bit B i j = true → bit B j k = true → bit B i k = true
  reads : ∀ i o k ok d, ops[i]? = some o → ops[k]? = some ok → k ≠ i → ok.dst = some d → d ∈ o.looksAt ops → bit B i k = true ∨ bit B k i = true
  writes : ∀ i o k ok d, ops[i]? = some o → ops[k]? = some ok → k ≠ i → ok.dst = some d → o.dst = some d → bit B i k = true ∨ bit B k i = true
  louds : ∀ i o k ok, ops[i]? = some o → ops[k]? = some ok → k ≠ i → clsOf P o.op = .loud → clsOf P ok.op = .loud → bit B i k = true ∨ bit B k i = true

theorem OkDraw.lt {P : Program} {ops : Array Oper} {B : List Nat} (h : OkDraw P ops B) : ∀ (i j : Nat), bit B i j = true → j < i := by
  intro i
  induction i using Nat.strongRecOn with
  | _ i ih =>
    intro j hb
    have hi : i < ops.size := by
      rcases Nat.lt_or_ge i ops.size with k | k
      · exact k
      · rw [h.out i j k] at hb; cases hb
    have ho : ops[i]? = some ops[i] := Array.getElem?_eq_getElem hi
    obtain ⟨e, he, hbd, h1⟩ := h.ex i _ j ho hb
    have hlt := h.edge i _ ho e he hbd
    rcases h1 with rfl | h1
    · exact hlt
    · exact Nat.lt_trans (ih e.on hlt j h1) hlt
/-- Where all edges' ends of i have been done, so has been what surely stands before i. -/
theorem OkDraw.down {P : Program} {ops : Array Oper} {B : List Nat} (h : OkDraw P ops B) {D : Nat → Bool} (hD : ∀ i o, D i = true → ops[i]? = some o → ∀ e ∈ o.after, Region.binds .any e = true → D e.on = true) :
    ∀ (i : Nat) (o : Oper), ops[i]? = some o → (∀ e ∈ o.after, Region.binds .any e = true → D e.on = true) → ∀ j, bit B i j = true → D j = true := by
  intro i
  induction i using Nat.strongRecOn with
  | _ i ih =>
    intro o ho hall j hb
    obtain ⟨e, he, hbd, h1⟩ := h.ex i o j ho hb
    have hlt := h.edge i o ho e he hbd
    have hDe := hall e he hbd
    rcases h1 with rfl | h1
    · exact hDe
    · have hi : i < ops.size := (Array.getElem?_eq_some_iff.1 ho).1
      have ho2 : ops[e.on]? = some (ops[e.on]'(by omega)) := Array.getElem?_eq_getElem (by omega)
      exact ih e.on hlt _ ho2 (hD e.on _ hDe ho2) j h1

/-- What an operation does: as the evaluator says · as a known call · in any world the same. -/
def StepR (P : Program) (gl : List Nat) (ρ : Operand → Value) (id : Nat) (o : Oper) (σ : St) (v : Value) (σ' : St) : Prop :=
  evalOp P ρ id o σ = some (.val v σ') ∨ (∃ f args, evalOp P ρ id o σ = some (.enter f args) ∧ SimF P gl f args σ v σ') ∨
  (σ' = σ ∧ ∀ (g : Gam) (ρ' : Operand → Value) (w : World), (∀ x ∈ o.op.operands, VRel g (ρ x) (ρ' x)) → ∃ v', (execOp ρ' o).run P w = .ok (.value v') w ∧ VRel g v v') ∨
  (clsOf P o.op = .loud ∧ (σ.Wf → evalOp P ρ id o σ = some (.val v σ')))

theorem StepR.wp {P : Program} {gl : List Nat} {ρ : Operand → Value} {id : Nat} {o : Oper} {σ σ' : St} {v : Value} (h : StepR P gl ρ id o σ v σ')
    {g : Gam} {w : World} {a : Act} (hg : Glob gl g) (hr : Rel g σ w) (hid : σ.get id = none) (hlt : id < σ.next) (hρ : ∀ x ∈ o.op.operands, VRel g (ρ x) (a.eval x))
    {K : Act → World → Prop} {Q : Exit → Act → World → Prop} (k : ∀ v' w' g', VRel g' v v' → Rel g' σ' w' → Ext (fun A => A = id ∨ σ.next ≤ A) g g' σ σ' w w' → K (a.put o.dst v') w') : o.wp P a w K Q := by
  unfold Oper.wp
  rcases h with he | ⟨f, args, he, hc⟩ | ⟨rfl, hx⟩ | ⟨_, he⟩
  · obtain ⟨n, w', g', v', e, hn, hv, hr', hx⟩ := evalOp_ok he hr hid hlt hρ
    rw [e]
    have := k v' w' g' hv hr' (hx.mono fun _ h => .inl h)
    rcases hn with rfl | ⟨rfl, rfl⟩
    · exact this
    · exact this
  · obtain ⟨args', e, ha⟩ := evalOp_ok he hr hid hlt hρ
    rw [e]
    refine (hc g w args' hg hr ha).mono ?_
    rintro e w' ⟨v', g', rfl, hv, hr', hx⟩
    exact k v' w' g' hv hr' (hx.mono fun _ h => .inr h)
  · obtain ⟨v', e, hv⟩ := hx g a.eval w hρ
    rw [e]
    exact k v' w g hv hr (Ext.refl _ _ _ _)
  · obtain ⟨n, w', g', v', e, hn, hv, hr', hx⟩ := evalOp_ok (he hr.wf) hr hid hlt hρ
    rw [e]
    have := k v' w' g' hv hr' (hx.mono fun _ h => .inl h)
    rcases hn with rfl | ⟨rfl, rfl⟩
    · exact this
    · exact this

/-- What an operation that looks at no memory does in any world. -/
def PureW (P : Program) (ρ : Operand → Value) (o : Oper) (v : Value) : Prop :=
  ∀ (g : Gam) (ρ' : Operand → Value) (w : World), (∀ x ∈ o.op.operands, VRel g (ρ x) (ρ' x)) → ∃ v', (execOp ρ' o).run P w = .ok (.value v') w ∧ VRel g v v'

theorem PureW.congr {P : Program} {ρ ρ2 : Operand → Value} {o : Oper} {v : Value} (h : PureW P ρ o v) (he : ∀ x ∈ o.op.operands, ρ x = ρ2 x) : PureW P ρ2 o v :=
  fun g ρ' w hr => h g ρ' w fun x hx => by rw [he x hx]; exact hr x hx
/-- What an operation that makes one block does in any world. -/
def AllocW (P : Program) (ρ : Operand → Value) (o : Oper) (id : Nat) (v : Value) (ao : AObj) : Prop :=
  (∀ own ver F c, ao = .cells own ver F c → F = id) ∧
  ∀ (g : Gam) (ρ' : Operand → Value) (w : World), (∀ x ∈ o.op.operands, VRel g (ρ x) (ρ' x)) → ∃ (ob : Obj) (n : Nat) (v' : Value) (w1 : World), w1.heap = w.heap ∧ w1.os = w.os ∧ w1.output = w.output ∧ w1.tape = w.tape ∧
    (execOp ρ' o).run P w = .ok (.value v') (newW w1 ob) ∧ (∀ g' : Gam, Gam.le g g' → g' id = some ⟨w.heap.size, 0, n⟩ → VRel g' v v') ∧ NewSays g n ao ob
theorem AllocW.congr {P : Program} {ρ ρ2 : Operand → Value} {o : Oper} {id : Nat} {v : Value} {ao : AObj} (h : AllocW P ρ o id v ao) (he : ∀ x ∈ o.op.operands, ρ x = ρ2 x) : AllocW P ρ2 o id v ao :=
  ⟨h.1, fun g ρ' w hr => h.2 g ρ' w fun x hx => by rw [he x hx]; exact hr x hx⟩

/-! ## The trace in the text's order -/
/-- Has a block been installed before p? -/
def gone (lo : Nat → Bool) (B : List Nat) (p k : Nat) : Bool := (List.range p).any fun j => lo j && bit B j k
def instAt (lo al : Nat → Bool) (B : List Nat) (j : Nat) : List Nat := (List.range j).filter fun k => al k && bit B j k && !gone lo B j k
def pendAt (lo al : Nat → Bool) (B : List Nat) (p : Nat) : List Nat := (List.range p).filter fun k => al k && !gone lo B p k
def instL (base : Nat) (ao : Nat → AObj) (l : List Nat) (τ : St) : St := l.foldl (fun τ k => τ.set (base + k) (ao k)) τ

structure Trc (P : Program) (gl : List Nat) (ops : Array Oper) (base : Nat) (B : List Nat) (e : Nat → Env) (τ : Nat → St) (val : Nat → Value) (ao : Nat → AObj) (lo al : Nat → Bool) : Prop where
  env : ∀ i o, ops[i]? = some o → e (i + 1) = eputo (e i) o.dst (val i)
  step : ∀ i o, ops[i]? = some o →
    (wantedA ops (e i) o = false ∧ val i = undef ∧ lo i = false ∧ al i = false ∧ τ (i + 1) = τ i) ∨
    (wantedA ops (e i) o = true ∧ lo i = false ∧ al i = false ∧ τ (i + 1) = τ i ∧ PureW P (rho (e i)) o (val i)) ∨
    (wantedA ops (e i) o = true ∧ lo i = false ∧ al i = true ∧ τ (i + 1) = τ i ∧ AllocW P (rho (e i)) o (base + i) (val i) (ao i)) ∨
    (wantedA ops (e i) o = true ∧ lo i = false ∧ al i = false ∧ τ (i + 1) = τ i ∧ clsOf P o.op = .read ∧ evalOp P (rho (e i)) (base + i) o (τ i) = some (.val (val i) (τ i)) ∧
      ∀ j, j < ops.size → lo j = true → bit B i j = false → bit B j i = false → evalOp P (rho (e i)) (base + i) o (τ j) = some (.val (val i) (τ j)) ∧ evalOp P (rho (e i)) (base + i) o (τ (j + 1)) = some (.val (val i) (τ (j + 1)))) ∨
    (wantedA ops (e i) o = true ∧ lo i = true ∧ al i = false ∧ ∃ ρ, (∀ x ∈ o.op.operands, ρ x = rho (e i) x) ∧ StepR P gl ρ (base + i) o (instL base ao (instAt lo al B i) (τ i)) (val i) (τ (i + 1)))
  loud : ∀ i, lo i = true → ∃ o, ops[i]? = some o ∧ clsOf P o.op = .loud
  inn : ∀ i, al i = true → i < ops.size

theorem Trc.quiet {P : Program} {gl : List Nat} {ops : Array Oper} {base : Nat} {B : List Nat} {e : Nat → Env} {τ : Nat → St} {val : Nat → Value} {ao : Nat → AObj} {lo al : Nat → Bool} (h : Trc P gl ops base B e τ val ao lo al) {i : Nat} (hi : i < ops.size) (hl : lo i = false) : τ (i + 1) = τ i := by
  rcases h.step i _ (Array.getElem?_eq_getElem hi) with k | k | k | k | k
  · exact k.2.2.2.2
  · exact k.2.2.2.1
  · exact k.2.2.2.1
  · exact k.2.2.2.1
  · rw [hl] at k; cases k.2.1
theorem Trc.between {P : Program} {gl : List Nat} {ops : Array Oper} {base : Nat} {B : List Nat} {e : Nat → Env} {τ : Nat → St} {val : Nat → Value} {ao : Nat → AObj} {lo al : Nat → Bool} (h : Trc P gl ops base B e τ val ao lo al) (i : Nat) : ∀ (d : Nat), i + d ≤ ops.size → (∀ j, i ≤ j → j < i + d → lo j = false) → τ (i + d) = τ i
  | 0, _, _ => rfl
  | d + 1, hd, hn => by
    have h1 := h.between i d (by omega) (fun j a b => hn j a (by omega))
    have h2 := h.quiet (i := i + d) (by omega) (hn _ (by omega) (by omega))
    rw [← h1, ← h2]; rfl

/-! ## The relation in the midst of a region -/
def pdn (n : Nat) (D al lo : Nat → Bool) (B : List Nat) (p k : Nat) : Bool := decide (k < n) && D k && al k && !gone lo B p k
/-- The names of the state, and those of blocks that are made already and not installed, as far as S says. -/
def gp (base n : Nat) (PD : Nat → Bool) (H : Nat → CA) (g : Gam) (S : Nat → Bool) : Gam := fun A => if base ≤ A ∧ A < base + n ∧ PD (A - base) = true ∧ S (A - base) = true then some (H (A - base)) else g A

theorem gp_in {base n : Nat} {PD : Nat → Bool} {H : Nat → CA} {g : Gam} {S : Nat → Bool} {k : Nat} (hk : k < n) (hp : PD k = true) (hs : S k = true) : gp base n PD H g S (base + k) = some (H k) := by
  unfold gp
  have e : base + k - base = k := by omega
  rw [if_pos ⟨by omega, by omega, by rw [e]; exact hp, by rw [e]; exact hs⟩, e]
theorem gp_out {base n : Nat} {PD : Nat → Bool} {H : Nat → CA} {g : Gam} {S : Nat → Bool} {A : Nat} (h : ∀ k, k < n → PD k = true → S k = true → A ≠ base + k) : gp base n PD H g S A = g A := by
  unfold gp
  split
  · rename_i hc
    exact (h (A - base) (by omega) hc.2.2.1 hc.2.2.2 (by omega)).elim
  · rfl
theorem gp_cases {base n : Nat} {PD : Nat → Bool} {H : Nat → CA} {g : Gam} {S : Nat → Bool} {A : Nat} {x : CA} (h : gp base n PD H g S A = some x) : (∃ k, k < n ∧ PD k = true ∧ S k = true ∧ A = base + k ∧ x = H k) ∨ g A = some x := by
  unfold gp at h
  split at h
  · rename_i hc
    cases h
    exact .inl ⟨A - base, by omega, hc.2.2.1, hc.2.2.2, by omega, rfl⟩
  · exact .inr h
theorem gp_mono {base n : Nat} {PD : Nat → Bool} {H : Nat → CA} {g : Gam} {S S' : Nat → Bool} (hg : ∀ k, k < n → PD k = true → g (base + k) = none) (h : ∀ k, PD k = true → S k = true → S' k = true) : Gam.le (gp base n PD H g S) (gp base n PD H g S') := by
  intro A x e
  rcases gp_cases e with ⟨k, k1, k2, k3, rfl, rfl⟩ | e
  · exact gp_in k1 k2 (h k k2 k3)
  · rw [gp_out]
    · exact e
    · intro k k1 k2 _ eA
      subst eA
      rw [hg k k1 k2] at e; cases e
theorem gp_le {base n : Nat} {PD : Nat → Bool} {H : Nat → CA} {g : Gam} {S : Nat → Bool} (hg : ∀ k, k < n → PD k = true → g (base + k) = none) : Gam.le g (gp base n PD H g S) := by
  intro A x e
  rw [gp_out]
  · exact e
  · intro k k1 k2 _ eA
    subst eA
    rw [hg k k1 k2] at e; cases e

structure DInv (P : Program) (gl : List Nat) (N : Nat) (ops : Array Oper) (base : Nat) (B : List Nat) (e : Nat → Env) (τ : Nat → St) (val : Nat → Value) (ao : Nat → AObj) (lo al : Nat → Bool) (g0 : Gam) (σ0 : St) (w0 : World)
    (D : Nat → Bool) (p : Nat) (g : Gam) (H : Nat → CA) (a : Act) (w : World) : Prop where
  pn : p ≤ ops.size
  below : ∀ j, j < p → lo j = true → D j = true
  above : ∀ j, p ≤ j → lo j = true → D j = false
  here : p = ops.size ∨ lo p = true
  rel : Rel g (τ p) w
  ext : Ext (fun A => base ≤ A) g0 g σ0 (τ p) w0 w
  free : ∀ k, k < ops.size → (lo k = true → p ≤ k) → (al k = true → gone lo B p k = false) → (τ p).get (base + k) = none
  next : base + ops.size ≤ (τ p).next
  pend : ∀ k, pdn ops.size D al lo B p k = true → ∃ ob, w.heap[(H k).block]? = some ob ∧ (H k).base = 0 ∧ NewSays (gp base ops.size (pdn ops.size D al lo B p) H g (bit B k)) (H k).size (ao k) ob ∧ (∀ A x, g A = some x → x.block ≠ (H k).block) ∧ w0.heap.size ≤ (H k).block
  dist : ∀ k k', pdn ops.size D al lo B p k = true → pdn ops.size D al lo B p k' = true → (H k).block = (H k').block → k = k'
  slot : ∀ t, (∃ i o, D i = true ∧ ops[i]? = some o ∧ o.dst = some t ∧ (∀ i' o', D i' = true → ops[i']? = some o' → o'.dst = some t → i' ≤ i) ∧ VRel (gp base ops.size (pdn ops.size D al lo B p) H g (fun k => k == i || bit B i k)) (val i) (a.tmps.getD t undef)) ∨
    ((∀ i o, D i = true → ops[i]? = some o → o.dst ≠ some t) ∧ VRel g (eget (e 0) t) (a.tmps.getD t undef))
  defers : a.defers = []
  size : a.tmps.size = N
  closed : ∀ i o, D i = true → ops[i]? = some o → ∀ ed ∈ o.after, Region.binds .any ed = true → D ed.on = true
  inn : ∀ i, D i = true → i < ops.size

section inv
variable {P : Program} {gl : List Nat} {N : Nat} {call : CallF} {ops : Array Oper} {base : Nat} {B : List Nat} {e : Nat → Env} {τ : Nat → St} {val : Nat → Value} {ao : Nat → AObj} {lo al : Nat → Bool} {g0 : Gam} {σ0 : St} {w0 : World}
  {D : Nat → Bool} {p : Nat} {g : Gam} {H : Nat → CA} {a : Act} {w : World}

theorem Trc.excl (h : Trc P gl ops base B e τ val ao lo al) {k : Nat} (ha : al k = true) : lo k = false := by
  rcases h.step k _ (Array.getElem?_eq_getElem (h.inn k ha)) with q | q | q | q | q
  · exact q.2.2.1
  · exact q.2.1
  · exact q.2.1
  · exact q.2.1
  · rw [q.2.2.1] at ha; cases ha

theorem pdn_spec {n : Nat} {k : Nat} : pdn n D al lo B p k = true ↔ k < n ∧ D k = true ∧ al k = true ∧ gone lo B p k = false := by
  simp [pdn, and_assoc]

theorem DInv.gnone (ht : Trc P gl ops base B e τ val ao lo al) (h : DInv P gl N ops base B e τ val ao lo al g0 σ0 w0 D p g H a w) {k : Nat} (hk : k < ops.size) (hp : pdn ops.size D al lo B p k = true) : g (base + k) = none := by
  obtain ⟨_, _, ha, hg⟩ := pdn_spec.1 hp
  have := h.free k hk (fun hl => by rw [ht.excl ha] at hl; cases hl) (fun _ => hg)
  cases e2 : g (base + k) with
  | none => rfl
  | some x => obtain ⟨ob, hob, _⟩ := h.rel.obj _ x e2; rw [this] at hob; cases hob

/-- The last writer of a slot ahead of i, in the text's order. -/
theorem eget_last (ht : Trc P gl ops base B e τ val ao lo al) (t : Nat) : ∀ (i : Nat), i ≤ ops.size →
    (∃ k o, k < i ∧ ops[k]? = some o ∧ o.dst = some t ∧ (∀ k' o', k' < i → ops[k']? = some o' → o'.dst = some t → k' ≤ k) ∧ eget (e i) t = val k) ∨ ((∀ k o, k < i → ops[k]? = some o → o.dst ≠ some t) ∧ eget (e i) t = eget (e 0) t)
  | 0, _ => .inr ⟨fun k o h => by omega, rfl⟩
  | i + 1, hi => by
    have ho : ops[i]? = some (ops[i]'(by omega)) := Array.getElem?_eq_getElem (by omega)
    have he := ht.env i _ ho
    by_cases hd : (ops[i]'(by omega)).dst = some t
    · left
      refine ⟨i, _, Nat.lt_succ_self _, ho, hd, fun k' o' h1 _ _ => by omega, ?_⟩
      rw [he, hd]; simp [eputo, eget_eput]
    · have hsame : eget (e (i + 1)) t = eget (e i) t := by
        rw [he]
        cases hdd : (ops[i]'(by omega)).dst with
        | none => rfl
        | some d =>
          simp only [eputo, eget_eput]
          rw [if_neg (fun e2 => hd (by rw [hdd, e2]))]
      rcases eget_last ht t i (by omega) with ⟨k, o, h1, h2, h3, h4, h5⟩ | ⟨h1, h2⟩
      · left
        refine ⟨k, o, by omega, h2, h3, fun k' o' q1 q2 q3 => ?_, hsame.trans h5⟩
        by_cases hk : k' = i
        · subst hk; rw [ho] at q2; cases q2; exact (hd q3).elim
        · exact h4 k' o' (by omega) q2 q3
      · right
        refine ⟨fun k o q1 q2 => ?_, hsame.trans h2⟩
        by_cases hk : k = i
        · subst hk; rw [ho] at q2; cases q2; exact hd
        · exact h1 k o (by omega) q2

/-- A slot that a ready operation looks at holds what the text's order says. -/
theorem DInv.look (hs : OkDraw P ops B) (ht : Trc P gl ops base B e τ val ao lo al) (h : DInv P gl N ops base B e τ val ao lo al g0 σ0 w0 D p g H a w) {i : Nat} {o : Oper} (ho : ops[i]? = some o) (hni : D i = false)
    (hr : ∀ ed ∈ o.after, Region.binds .any ed = true → D ed.on = true) {t : Nat} (hl : t ∈ o.looksAt ops) : VRel (gp base ops.size (pdn ops.size D al lo B p) H g (bit B i)) (eget (e i) t) (a.tmps.getD t undef) := by
  have hi : i < ops.size := (Array.getElem?_eq_some_iff.1 ho).1
  have hdown := hs.down h.closed i o ho hr
  have later : ∀ k ok, D k = true → ops[k]? = some ok → ok.dst = some t → k < i := by
    intro k ok hk hok hd
    rcases Nat.lt_trichotomy k i with q | q | q
    · exact q
    · subst q; rw [hni] at hk; cases hk
    · rcases hs.reads i o k ok t ho hok (by omega) hd hl with b | b
      · have := hs.lt i k b; omega
      · have := hs.down h.closed k ok hok (h.closed k ok hk hok) i b
        rw [hni] at this; cases this
  have hgn : ∀ k, k < ops.size → pdn ops.size D al lo B p k = true → g (base + k) = none := fun k hk hp => h.gnone ht hk hp
  rcases eget_last ht t i (by omega) with ⟨k, ok, h1, h2, h3, h4, h5⟩ | ⟨h1, h2⟩
  · have hb : bit B i k = true := by
      rcases hs.reads i o k ok t ho h2 (by omega) h3 hl with b | b
      · exact b
      · have := hs.lt k i b; omega
    have hDk := hdown k hb
    rcases h.slot t with ⟨j, oj, q1, q2, q3, q4, q5⟩ | ⟨q1, _⟩
    · have hkj := q4 k ok hDk h2 h3
      have hji := later j oj q1 q2 q3
      have hjk := h4 j oj hji q2 q3
      have : j = k := by omega
      subst this
      rw [h5]
      refine q5.mono (gp_mono hgn fun k' hk' hS => ?_)
      simp only [Bool.or_eq_true, beq_iff_eq] at hS
      rcases hS with rfl | hS
      · exact hb
      · exact hs.tr i j k' hb hS
    · exact (q1 k ok hDk h2 h3).elim
  · rcases h.slot t with ⟨j, oj, q1, q2, q3, _⟩ | ⟨_, q2⟩
    · exact (h1 j oj (later j oj q1 q2 q3) q2 q3).elim
    · rw [h2]; exact q2.mono (gp_le hgn)

theorem mem_looks_op {o : Oper} {t : Nat} (h : Operand.tmp t ∈ o.op.operands) : t ∈ o.looksAt ops := by
  unfold Oper.looksAt
  refine List.mem_append_left _ ?_
  rw [List.mem_filterMap]
  exact ⟨.tmp t, by simpa using h, rfl⟩

theorem DInv.opnds (hs : OkDraw P ops B) (ht : Trc P gl ops base B e τ val ao lo al) (h : DInv P gl N ops base B e τ val ao lo al g0 σ0 w0 D p g H a w) (hg0 : Glob gl g0) {i : Nat} {o : Oper} (ho : ops[i]? = some o) (hni : D i = false)
    (hr : ∀ ed ∈ o.after, Region.binds .any ed = true → D ed.on = true) (hok : okOper gl N o = true) : ∀ x ∈ o.op.operands, VRel (gp base ops.size (pdn ops.size D al lo B p) H g (bit B i)) (rho (e i) x) (a.eval x) := by
  intro x hx
  simp only [okOper, Bool.and_eq_true, List.all_eq_true] at hok
  have hx2 := hok.1 x (by simpa using hx)
  have hgn : ∀ k, k < ops.size → pdn ops.size D al lo B p k = true → g (base + k) = none := fun k hk hp => h.gnone ht hk hp
  cases x with
  | tmp t => exact h.look hs ht ho hni hr (mem_looks_op hx)
  | const v => exact flatV_rel hx2
  | global b =>
    obtain ⟨n, e1⟩ := hg0 b hx2
    exact .ptr b 0 _ (gp_le hgn _ _ (h.ext.le _ _ e1))
  | func f => exact .func _ _ _ _ _ rfl (fun i h => by simp at h) rfl (fun i h => by simp at h)

theorem DInv.wanted (hs : OkDraw P ops B) (ht : Trc P gl ops base B e τ val ao lo al) (h : DInv P gl N ops base B e τ val ao lo al g0 σ0 w0 D p g H a w) {i : Nat} {o : Oper} (ho : ops[i]? = some o) (hni : D i = false)
    (hr : ∀ ed ∈ o.after, Region.binds .any ed = true → D ed.on = true) (hok : okGuard ops N o = true) : Region.wanted o (yielded ops a.tmps) = wantedA ops (e i) o := by
  unfold Region.wanted wantedA
  unfold okGuard at hok
  cases hgd : o.guard with
  | none => rfl
  | some q =>
    obtain ⟨j, want⟩ := q
    rw [hgd] at hok
    simp only at hok ⊢
    have : yielded ops a.tmps j = yieldsA ops (e i) j := by
      unfold yielded yieldsA
      cases hd : (ops[j]?).bind (·.dst) with
      | none => rfl
      | some d =>
        rw [hd] at hok
        have hlt : d < a.tmps.size := by rw [h.size]; simpa using hok
        have hl : d ∈ o.looksAt ops := by
          unfold Oper.looksAt
          refine List.mem_append_right _ ?_
          rw [hgd]; simp only [hd]; simp
        have hv := h.look hs ht ho hni hr hl
        simp only [Option.bind_some, Array.getElem?_eq_getElem hlt]
        have e2 : a.tmps.getD d undef = a.tmps[d] := by simp [hlt]
        rw [e2] at hv
        generalize a.tmps[d] = v' at hv
        generalize eget (e i) d = v at hv
        cases hv <;> rfl
    rw [this]
end inv
end Go.Ev
