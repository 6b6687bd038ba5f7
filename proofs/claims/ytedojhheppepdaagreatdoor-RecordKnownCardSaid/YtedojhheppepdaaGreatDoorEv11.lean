/-
  The evaluator of code, over any program: environments, rows of operations, code, functions; what it says holds of the model ('SimF'). Regions that draw their order stand in the next part. No condition.
-/
import Derived.Test.YtedojhheppepdaaGreatDoorEv10
namespace Go.Ev
open Go
set_option linter.unusedVariables false
set_option linter.unusedSimpArgs false

/-! ## Environments -/
abbrev Env := Tr Value
def eget (env : Env) (t : Nat) : Value := (env.get (path t)).getD undef
def eput (env : Env) (d : Nat) (v : Value) : Env := env.set (path d) v
def eputo (env : Env) (d : Option Nat) (v : Value) : Env := match d with | some d => eput env d v | none => env
theorem eget_eput (env : Env) (d t : Nat) (v : Value) : eget (eput env d v) t = if d = t then v else eget env t := by
  unfold eget eput
  rw [Tr.get_set]
  by_cases h : d = t
  · simp [h]
  · rw [if_neg h, if_neg (fun e => h (path_inj e))]
def rho (env : Env) : Operand → Value
  | .tmp t => eget env t
  | .const v => v
  | .global g => .pointer (some ⟨g, 0, none⟩)
  | .func f => .func (.func f) #[] #[]

/-- What may stand as an operand; gl: the package-level variables that are known. -/
def okOperand (gl : List Nat) : Operand → Bool
  | .const v => flatV v
  | .global g => gl.contains g
  | _ => true
def okOper (gl : List Nat) (N : Nat) (o : Oper) : Bool :=
  o.op.operands.toList.all (okOperand gl) && (match o.dst with | some d => d < N | none => true)

/-- The known package-level variables lie where their numbers say. -/
def Glob (gl : List Nat) (g : Gam) : Prop := ∀ b, gl.contains b = true → ∃ n, g b = some ⟨b, 0, n⟩
theorem Glob.mono {gl : List Nat} {g g' : Gam} (h : Glob gl g) (hg : Gam.le g g') : Glob gl g' := fun b hb => let ⟨n, e⟩ := h b hb; ⟨n, hg _ _ e⟩

structure EnvRel (g : Gam) (N : Nat) (env : Env) (a : Act) : Prop where
  defers : a.defers = []
  size : a.tmps.size = N
  slot : ∀ t, VRel g (eget env t) (a.tmps.getD t undef)
theorem EnvRel.mono {g g' : Gam} {N : Nat} {env : Env} {a : Act} (h : EnvRel g N env a) (hg : Gam.le g g') : EnvRel g' N env a := ⟨h.defers, h.size, fun t => (h.slot t).mono hg⟩
theorem EnvRel.rho {g : Gam} {gl : List Nat} {N : Nat} {env : Env} {a : Act} (h : EnvRel g N env a) (hg : Glob gl g) {x : Operand} (hx : okOperand gl x = true) : VRel g (rho env x) (a.eval x) := by
  cases x with
  | tmp t => exact h.slot t
  | const v => exact flatV_rel hx
  | global b =>
    obtain ⟨n, e⟩ := hg b hx
    exact .ptr b 0 _ e
  | func f => exact .func _ _ _ _ _ rfl (fun i h => by simp at h) rfl (fun i h => by simp at h)
theorem EnvRel.put {g : Gam} {N : Nat} {env : Env} {a : Act} (h : EnvRel g N env a) {d : Option Nat} (hd : (match d with | some d => decide (d < N) | none => true) = true) {v v' : Value} (hv : VRel g v v') :
    EnvRel g N (eputo env d v) (a.put d v') := by
  cases d with
  | none => exact h
  | some d =>
    have hd : d < N := by simpa using hd
    refine ⟨h.defers, by simp [Act.put, h.size], fun t => ?_⟩
    simp only [eputo, eget_eput, Act.put]
    by_cases e : d = t
    · subst e
      rw [if_pos rfl]
      have : d < a.tmps.size := by rw [h.size]; exact hd
      simp [this]; exact hv
    · rw [if_neg e]
      have := h.slot t
      have e2 : (a.tmps.setIfInBounds d v').getD t undef = a.tmps.getD t undef := by
        simp only [Array.getD_eq_getD_getElem?, Array.getElem?_setIfInBounds, if_neg e]
      rw [e2]; exact this

/-- Is an operation wanted? As Region.wanted. -/
def yieldsA (ops : Array Oper) (env : Env) (j : Nat) : Option Bool :=
  match (ops[j]?).bind (·.dst) with
  | some d => match eget env d with
    | .bool b => some b
    | _ => none
  | none => none
def wantedA (ops : Array Oper) (env : Env) (o : Oper) : Bool :=
  match o.guard with
  | none => true
  | some (j, want) => yieldsA ops env j == some want
/-- Each guard's slot lies in the frame. -/
def okGuard (ops : Array Oper) (N : Nat) (o : Oper) : Bool :=
  match o.guard with
  | none => true
  | some (j, _) => match (ops[j]?).bind (·.dst) with
    | some d => d < N
    | none => true
theorem wanted_eq {g : Gam} {N : Nat} {ops : Array Oper} {env : Env} {a : Act} (h : EnvRel g N env a) (o : Oper) (hg : okGuard ops N o = true) : Region.wanted o (yielded ops a.tmps) = wantedA ops env o := by
  unfold Region.wanted wantedA
  unfold okGuard at hg
  cases ho : o.guard with
  | none => rfl
  | some p =>
    obtain ⟨j, want⟩ := p
    rw [ho] at hg
    simp only at hg ⊢
    have : yielded ops a.tmps j = yieldsA ops env j := by
      unfold yielded yieldsA
      cases hd : (ops[j]?).bind (·.dst) with
      | none => rfl
      | some d =>
        rw [hd] at hg
        have hlt : d < a.tmps.size := by rw [h.size]; simpa using hg
        have hs := h.slot d
        simp only [Option.bind_some, Array.getElem?_eq_getElem hlt]
        have e : a.tmps.getD d undef = a.tmps[d] := by simp [hlt]
        rw [e] at hs
        generalize a.tmps[d] = v' at hs
        generalize eget env d = v at hs
        cases hs <;> rfl
    rw [this]

/-! ## Rows of operations, in the text's order -/
abbrev CallF := FuncId → Array Value → St → Option (Value × St)

def stepOp (P : Program) (call : CallF) (env : Env) (id : Nat) (o : Oper) (σ : St) : Option (Value × St) :=
  match evalOp P (rho env) id o σ with
  | some (.val v σ') => some (v, σ')
  | some (.enter f args) => call f args σ
  | none => none
def evalOps (P : Program) (call : CallF) (ops : Array Oper) (base : Nat) : List Oper → Nat → Env → St → Option (Env × St)
  | [], _, env, σ => some (env, σ)
  | o :: r, i, env, σ =>
    if wantedA ops env o then
      match stepOp P call env (base + i) o σ with
      | some (v, σ') => evalOps P call ops base r (i + 1) (eputo env o.dst v) σ'
      | none => none
    else evalOps P call ops base r (i + 1) (eputo env o.dst undef) σ

/-- A call does what is said, in whatever world stands to the state. -/
def SimF (P : Program) (gl : List Nat) (f : FuncId) (args : Array Value) (σ : St) (v : Value) (σ' : St) : Prop :=
  ∀ g w args', Glob gl g → Rel g σ w → ARel g args args' → Calls P f args' w fun e w' => ∃ v' g', e = .returned v' ∧ VRel g' v v' ∧ Rel g' σ' w' ∧ Ext (fun A => σ.next ≤ A) g g' σ σ' w w'
/-- An evaluator of calls that says what holds. -/
def CallF.ok (P : Program) (gl : List Nat) (call : CallF) : Prop := ∀ f args σ v σ', call f args σ = some (v, σ') → SimF P gl f args σ v σ'

/-- One operation, run from a state that stands to the world: the walk goes on with what the evaluator says. -/
theorem stepOp_ok {P : Program} {gl : List Nat} {call : CallF} (hc : call.ok P gl) {env : Env} {id : Nat} {o : Oper} {σ σ' : St} {v : Value} (h : stepOp P call env id o σ = some (v, σ'))
    {g : Gam} {w : World} {a : Act} (hg : Glob gl g) (hr : Rel g σ w) (hid : σ.get id = none) (hlt : id < σ.next) (hρ : ∀ x ∈ o.op.operands, VRel g (rho env x) (a.eval x))
    {K : Act → World → Prop} {Q : Exit → Act → World → Prop} (k : ∀ v' w' g', VRel g' v v' → Rel g' σ' w' → Ext (fun A => A = id ∨ σ.next ≤ A) g g' σ σ' w w' → K (a.put o.dst v') w') : o.wp P a w K Q := by
  unfold stepOp at h
  unfold Oper.wp
  split at h
  · rename_i v2 σ2 he
    simp only [Option.some.injEq, Prod.mk.injEq] at h
    obtain ⟨rfl, rfl⟩ := h
    obtain ⟨n, w', g', v', e, hn, hv, hr', hx⟩ := evalOp_ok he hr hid hlt hρ
    rw [e]
    have := k v' w' g' hv hr' (hx.mono fun _ h => .inl h)
    rcases hn with rfl | ⟨rfl, rfl⟩
    · exact this
    · exact this
  · rename_i f args he
    obtain ⟨args', e, ha⟩ := evalOp_ok he hr hid hlt hρ
    rw [e]
    refine (hc _ _ _ _ _ h g w args' hg hr ha).mono ?_
    rintro e w' ⟨v', g', rfl, hv, hr', hx⟩
    exact k v' w' g' hv hr' (hx.mono fun _ h => .inr h)
  · cases h

theorem stepOp_next {P : Program} {gl : List Nat} {call : CallF} (hn : ∀ f args σ v σ', call f args σ = some (v, σ') → σ.next ≤ σ'.next) : True := trivial

theorem evalOps_ok {P : Program} {gl : List Nat} {call : CallF} (hc : call.ok P gl) {ops : Array Oper} {N base : Nat} {Q : Exit → Act → World → Prop} {env' : Env} {σ' : St} : ∀ (l : List Oper) (i : Nat) (env : Env) (σ : St) (g : Gam) (w : World) (a : Act),
    evalOps P call ops base l i env σ = some (env', σ') → (∀ o ∈ l, okOper gl N o = true ∧ okGuard ops N o = true) → (∀ j o, l[j]? = some o → ops[i + j]? = some o) → i + l.length = ops.size → base + ops.size ≤ σ.next → (∀ j, i ≤ j → j < ops.size → σ.get (base + j) = none) →
    Glob gl g → Rel g σ w → EnvRel g N env a →
    (∀ a' w' g', Rel g' σ' w' → EnvRel g' N env' a' → Ext (fun A => base ≤ A) g g' σ σ' w w' → Q .normal a' w') → wpOps P ops Q (List.range' i l.length) a w
  | [], i, env, σ, g, w, a, h, _, _, _, _, _, hg, hr, he, k => by
    simp only [evalOps, Option.some.injEq, Prod.mk.injEq] at h
    obtain ⟨rfl, rfl⟩ := h
    exact k a w g hr he (Ext.refl _ _ _ _)
  | o :: r, i, env, σ, g, w, a, h, hok, hops, hlen, hnext, hfree, hg, hr, he, k => by
    obtain ⟨ok1, ok2⟩ := hok o (by simp)
    simp only [okOper, Bool.and_eq_true, List.all_eq_true] at ok1
    have hρ : ∀ x ∈ o.op.operands, VRel g (rho env x) (a.eval x) := fun x hx => he.rho hg (ok1.1 x (by simpa using hx))
    have hoi : ops[i]? = some o := by have := hops 0 o rfl; simpa using this
    have hi : i < ops.size := by simp at hlen; omega
    have hw := wanted_eq he o ok2
    simp only [List.length_cons, List.range'_succ, wpOps, hoi, hw]
    simp only [evalOps] at h
    have rest := fun (env2 : Env) (σ2 : St) (g2 : Gam) (w2 : World) (a2 : Act) (h2 : evalOps P call ops base r (i + 1) env2 σ2 = some (env', σ')) (hn2 : base + ops.size ≤ σ2.next) (hf2 : ∀ j, i + 1 ≤ j → j < ops.size → σ2.get (base + j) = none)
        (hg2 : Glob gl g2) (hr2 : Rel g2 σ2 w2) (he2 : EnvRel g2 N env2 a2) (k2 : ∀ a' w' g', Rel g' σ' w' → EnvRel g' N env' a' → Ext (fun A => base ≤ A) g2 g' σ2 σ' w2 w' → Q .normal a' w') =>
      evalOps_ok hc r (i + 1) env2 σ2 g2 w2 a2 h2 (fun o' ho' => hok o' (by simp [ho'])) (fun j o' hj => by have := hops (j + 1) o' (by simpa using hj); rwa [show i + 1 + j = i + (j + 1) by omega]) (by simp at hlen; omega) hn2 hf2 hg2 hr2 he2 k2
    split at h
    · rename_i hwant
      rw [if_pos hwant]
      split at h
      · rename_i v σ1 hs
        left
        refine stepOp_ok hc hs hg hr (hfree i (Nat.le_refl _) hi) (by omega) hρ fun v' w' g' hv hr' hx => ?_
        have hx' : Ext (fun A => base ≤ A) g g' σ σ1 w w' := hx.mono fun A hA => by rcases hA with rfl | hA <;> omega
        refine rest _ σ1 g' w' _ h (Nat.le_trans hnext hx.next) (fun j h1 h2 => ?_) (hg.mono hx.le) hr' ((he.mono hx.le).put ok1.2 hv) fun a'' w'' g'' r1 r2 r3 => k a'' w'' g'' r1 r2 (hx'.trans r3)
        have hnone := hfree j (by omega) h2
        have gnone : g (base + j) = none := by
          cases e : g (base + j) with
          | none => rfl
          | some x => obtain ⟨ob, hob, _⟩ := hr.obj _ x e; rw [hnone] at hob; cases hob
        rw [hx.frame (base + j) gnone (by omega)]
        exact hnone
      · cases h
    · rename_i hwant
      rw [if_neg hwant]
      exact rest _ σ g w _ h hnext (fun j h1 h2 => hfree j (by omega) h2) hg hr (he.put ok1.2 (.tuple _ _ rfl fun i h => by simp at h)) k

/-! ## Code -/
inductive Ex where
  | normal
  | exit (id : Nat)
  | ret
def Ex.to : Ex → Exit
  | .normal => .normal
  | .exit id => .exit id
  | .ret => .ret
abbrev CRes := Option (Ex × Env × St)

def evalLoop (body : Env → St → CRes) : Nat → Env → St → CRes
  | 0, _, _ => none
  | n + 1, env, σ => match body env σ with
    | some (.normal, env', σ') => evalLoop body n env' σ'
    | r => r

/-- draw: the evaluator of a region that draws its order. -/
def evalCode (P : Program) (gl : List Nat) (N : Nat) (call : CallF) (draw : Array Oper → Env → St → Option (Env × St)) (lf : Nat) : Code → Env → St → CRes
  | .skip, env, σ => some (.normal, env, σ)
  | .label _, env, σ => some (.normal, env, σ)
  | .ret, env, σ => some (.ret, env, σ)
  | .exit id, env, σ => some (.exit id, env, σ)
  | .region _ ops dr, env, σ =>
    if ops.toList.all (fun o => okOper gl N o && okGuard ops N o) then
      match (if dr then draw ops env σ else evalOps P call ops σ.next ops.toList 0 env (σ.bump ops.size)) with
      | some (env', σ') => some (.normal, env', σ')
      | none => none
    else none
  | .seq a b, env, σ => match evalCode P gl N call draw lf a env σ with
    | some (.normal, env', σ') => evalCode P gl N call draw lf b env' σ'
    | r => r
  | .cond c thn els, env, σ => if okOperand gl c then match rho env c with
    | .bool true => evalCode P gl N call draw lf thn env σ
    | .bool false => evalCode P gl N call draw lf els env σ
    | _ => none
    else none
  | .block id body, env, σ => match evalCode P gl N call draw lf body env σ with
    | some (.exit id', env', σ') => if id' = id then some (.normal, env', σ') else some (.exit id', env', σ')
    | r => r
  | .loop body, env, σ => evalLoop (evalCode P gl N call draw lf body) lf env σ
  | .scope body, env, σ => evalCode P gl N call draw lf body env σ
  | _, _, _ => none

/-- Code does what is said, in whatever world stands to the state. -/
def SimC (P : Program) (gl : List Nat) (N : Nat) (c : Code) (env : Env) (σ : St) (ex : Ex) (env' : Env) (σ' : St) : Prop :=
  ∀ g w a, Glob gl g → Rel g σ w → EnvRel g N env a → c.wp P (fun e a' w' => e = ex.to ∧ ∃ g', Rel g' σ' w' ∧ EnvRel g' N env' a' ∧ Ext (fun A => σ.next ≤ A) g g' σ σ' w w') a w
def DrawOk (P : Program) (gl : List Nat) (N : Nat) (draw : Array Oper → Env → St → Option (Env × St)) : Prop :=
  ∀ id ops env σ env' σ', draw ops env σ = some (env', σ') → (∀ o ∈ ops.toList, okOper gl N o = true ∧ okGuard ops N o = true) → SimC P gl N (.region id ops true) env σ .normal env' σ'

theorem SimC.region {P : Program} {gl : List Nat} {N : Nat} {call : CallF} (hc : call.ok P gl) {id : Nat} {ops : Array Oper} {env env' : Env} {σ σ' : St} (hok : ∀ o ∈ ops.toList, okOper gl N o = true ∧ okGuard ops N o = true)
    (h : evalOps P call ops σ.next ops.toList 0 env (σ.bump ops.size) = some (env', σ')) : SimC P gl N (.region id ops false) env σ .normal env' σ' := by
  intro g w a hg hr he
  refine wp_region ?_
  have hrange : List.range ops.size = List.range' 0 ops.toList.length := by rw [List.range_eq_range']; simp
  rw [hrange]
  have hb := Ext.bump (N := fun A => σ.next ≤ A) g σ w ops.size
  refine evalOps_ok hc ops.toList 0 env (σ.bump ops.size) g w a h hok (fun j o hj => by simpa using hj) (by simp) (Nat.le_refl _) (fun j _ _ => ?_) hg (hr.bump _) he fun a' w' g' r1 r2 r3 => ⟨rfl, g', r1, r2, hb.trans r3⟩
  cases e : (σ.bump ops.size).get (σ.next + j) with
  | none => rfl
  | some o => have := hr.wf.lt _ o e; omega

theorem SimC.seq {P : Program} {gl : List Nat} {N : Nat} {a b : Code} {env env1 env2 : Env} {σ σ1 σ2 : St} {ex : Ex} (h1 : SimC P gl N a env σ .normal env1 σ1) (h2 : SimC P gl N b env1 σ1 ex env2 σ2) : SimC P gl N (.seq a b) env σ ex env2 σ2 := by
  intro g w x hg hr he
  refine wp_seq (wp_mono (h1 g w x hg hr he) ?_)
  rintro e a' w' ⟨rfl, g', r1, r2, r3⟩
  refine wp_mono (h2 g' w' a' (hg.mono r3.le) r1 r2) ?_
  rintro e a'' w'' ⟨rfl, g'', s1, s2, s3⟩
  exact ⟨rfl, g'', s1, s2, r3.trans (s3.mono fun A hA => Nat.le_trans r3.next hA)⟩
theorem SimC.seq_out {P : Program} {gl : List Nat} {N : Nat} {a b : Code} {env env1 : Env} {σ σ1 : St} {ex : Ex} (h1 : SimC P gl N a env σ ex env1 σ1) (hex : ex ≠ .normal) : SimC P gl N (.seq a b) env σ ex env1 σ1 := by
  intro g w x hg hr he
  refine wp_seq (wp_mono (h1 g w x hg hr he) ?_)
  rintro e a' w' ⟨rfl, rest⟩
  cases ex with
  | normal => exact (hex rfl).elim
  | exit id => exact ⟨rfl, rest⟩
  | ret => exact ⟨rfl, rest⟩
theorem SimC.cond {P : Program} {gl : List Nat} {N : Nat} {c : Operand} {a b : Code} {env env1 : Env} {σ σ1 : St} {ex : Ex} {t : Bool} (hok : okOperand gl c = true) (hc : Ev.rho env c = .bool t) (h : SimC P gl N (if t then a else b) env σ ex env1 σ1) : SimC P gl N (.cond c a b) env σ ex env1 σ1 := by
  intro g w x hg hr he
  have hv := he.rho hg hok
  rw [hc] at hv
  have hx : x.eval c = .bool t := by
    generalize x.eval c = v at hv
    cases hv; rfl
  exact wp_cond hx (h g w x hg hr he)
theorem SimC.block {P : Program} {gl : List Nat} {N : Nat} {id : Nat} {c : Code} {env env1 : Env} {σ σ1 : St} {ex : Ex} (h : SimC P gl N c env σ ex env1 σ1) :
    SimC P gl N (.block id c) env σ (match ex with | .exit id' => if id' = id then .normal else .exit id' | e => e) env1 σ1 := by
  intro g w x hg hr he
  refine wp_block (wp_mono (h g w x hg hr he) ?_)
  rintro e a' w' ⟨rfl, rest⟩
  cases ex with
  | normal => exact ⟨rfl, rest⟩
  | ret => exact ⟨rfl, rest⟩
  | exit id' =>
    simp only [Ex.to, Exit.inBlock]
    split
    · exact ⟨rfl, rest⟩
    · exact ⟨rfl, rest⟩
theorem SimC.scope {P : Program} {gl : List Nat} {N : Nat} {c : Code} {env env1 : Env} {σ σ1 : St} {ex : Ex} (h : SimC P gl N c env σ ex env1 σ1) : SimC P gl N (.scope c) env σ ex env1 σ1 := by
  intro g w x hg hr he
  refine wp_scope_straight (wp_mono (h g w x hg hr he) ?_)
  rintro e a' w' ⟨rfl, rest⟩
  cases ex <;> exact ⟨rfl, rest⟩

/-- Rounds of a loop, said of the state. -/
def SimR (P : Program) (gl : List Nat) (N : Nat) (c : Code) (n : Nat) (env : Env) (σ : St) (ex : Ex) (env' : Env) (σ' : St) : Prop :=
  ∀ g w a, Glob gl g → Rel g σ w → EnvRel g N env a → Code.rounds P c (fun e a' w' => e = ex.to ∧ ∃ g', Rel g' σ' w' ∧ EnvRel g' N env' a' ∧ Ext (fun A => σ.next ≤ A) g g' σ σ' w w') n a w
theorem rounds_mono {P : Program} {c : Code} {Q Q' : Exit → Act → World → Prop} (h : ∀ e a w, Q e a w → Q' e a w) : ∀ (n : Nat) (a : Act) (w : World), Code.rounds P c Q n a w → Code.rounds P c Q' n a w
  | 0, _, _, k => k
  | n + 1, a, w, k => by
    simp only [Code.rounds] at k ⊢
    refine wp_mono k fun e a' w' hq => ?_
    cases e with
    | normal => exact rounds_mono h n a' w' hq
    | _ => exact h _ _ _ hq
theorem SimC.loop {P : Program} {gl : List Nat} {N : Nat} {c : Code} {n : Nat} {env env1 : Env} {σ σ1 : St} {ex : Ex} (h : SimR P gl N c n env σ ex env1 σ1) : SimC P gl N (.loop c) env σ ex env1 σ1 :=
  fun g w a hg hr he => wp_loop_rounds n (h g w a hg hr he)
theorem SimR.last {P : Program} {gl : List Nat} {N : Nat} {c : Code} {n : Nat} {env env1 : Env} {σ σ1 : St} {ex : Ex} (h : SimC P gl N c env σ ex env1 σ1) (hex : ex ≠ .normal) : SimR P gl N c (n + 1) env σ ex env1 σ1 := by
  intro g w a hg hr he
  rw [rounds_succ]
  refine wp_mono (h g w a hg hr he) ?_
  rintro e a' w' ⟨rfl, rest⟩
  cases ex with
  | normal => exact (hex rfl).elim
  | exit id => exact ⟨rfl, rest⟩
  | ret => exact ⟨rfl, rest⟩
theorem SimR.more {P : Program} {gl : List Nat} {N : Nat} {c : Code} {n : Nat} {env env1 env2 : Env} {σ σ1 σ2 : St} {ex : Ex} (h : SimC P gl N c env σ .normal env1 σ1) (h2 : SimR P gl N c n env1 σ1 ex env2 σ2) : SimR P gl N c (n + 1) env σ ex env2 σ2 := by
  intro g w a hg hr he
  rw [rounds_succ]
  refine wp_mono (h g w a hg hr he) ?_
  rintro e a' w' ⟨rfl, g', r1, r2, r3⟩
  refine rounds_mono ?_ n a' w' (h2 g' w' a' (hg.mono r3.le) r1 r2)
  rintro e a'' w'' ⟨rfl, g'', s1, s2, s3⟩
  exact ⟨rfl, g'', s1, s2, r3.trans (s3.mono fun A hA => Nat.le_trans r3.next hA)⟩

theorem evalLoop_ok {P : Program} {gl : List Nat} {N : Nat} {c : Code} {body : Env → St → CRes} (hb : ∀ env σ ex env' σ', body env σ = some (ex, env', σ') → SimC P gl N c env σ ex env' σ') :
    ∀ (n : Nat) (env : Env) (σ : St) (ex : Ex) (env' : Env) (σ' : St), evalLoop body n env σ = some (ex, env', σ') → SimR P gl N c n env σ ex env' σ'
  | 0, _, _, _, _, _, h => by cases h
  | n + 1, env, σ, ex, env', σ', h => by
    simp only [evalLoop] at h
    split at h
    · rename_i env1 σ1 h1
      exact .more (hb _ _ _ _ _ h1) (evalLoop_ok hb n _ _ _ _ _ h)
    · rename_i hne
      refine .last (hb _ _ _ _ _ h) (fun e => ?_)
      subst e
      exact hne _ _ h

theorem evalCode_ok {P : Program} {gl : List Nat} {N : Nat} {call : CallF} (hc : call.ok P gl) {draw : Array Oper → Env → St → Option (Env × St)} (hd : DrawOk P gl N draw) (lf : Nat) :
    ∀ (c : Code) (env : Env) (σ : St) (ex : Ex) (env' : Env) (σ' : St), evalCode P gl N call draw lf c env σ = some (ex, env', σ') → SimC P gl N c env σ ex env' σ' := by
  have triv : ∀ {c : Code} {ex : Ex} {env : Env} {σ : St}, (∀ (Q : Exit → Act → World → Prop) a w, Q ex.to a w → c.wp P Q a w) → SimC P gl N c env σ ex env σ := fun k g w a hg hr he => k _ a w ⟨rfl, g, hr, he, Ext.refl _ _ _ _⟩
  intro c
  induction c with
  | skip => intro env σ ex env' σ' h; simp only [evalCode] at h; cases h; exact triv fun Q a w h => wp_skip h
  | label l => intro env σ ex env' σ' h; simp only [evalCode] at h; cases h; exact triv fun Q a w h => wp_label h
  | ret => intro env σ ex env' σ' h; simp only [evalCode] at h; cases h; exact triv fun Q a w h => wp_ret h
  | exit id => intro env σ ex env' σ' h; simp only [evalCode] at h; cases h; exact triv fun Q a w h => wp_exit h
  | region id ops dr =>
    intro env σ ex env' σ' h
    simp only [evalCode] at h
    split at h
    · rename_i hok
      simp only [List.all_eq_true, Bool.and_eq_true] at hok
      split at h
      · rename_i e1 s1 h1
        cases h
        cases dr with
        | true => exact hd id ops env σ _ _ h1 hok
        | false => exact .region hc hok h1
      · cases h
    · cases h
  | seq a b iha ihb =>
    intro env σ ex env' σ' h
    simp only [evalCode] at h
    split at h
    · rename_i e1 s1 h1
      exact .seq (iha _ _ _ _ _ h1) (ihb _ _ _ _ _ h)
    · rename_i hne
      exact .seq_out (iha _ _ _ _ _ h) (fun e => by subst e; exact hne _ _ h)
  | cond c a b iha ihb =>
    intro env σ ex env' σ' h
    simp only [evalCode] at h
    split at h
    · rename_i hok
      split at h
      · rename_i hv; exact .cond hok hv (iha _ _ _ _ _ h)
      · rename_i hv; exact .cond hok hv (ihb _ _ _ _ _ h)
      · cases h
    · cases h
  | block id c ih =>
    intro env σ ex env' σ' h
    simp only [evalCode] at h
    split at h
    · rename_i id' e1 s1 h1
      have := SimC.block (id := id) (ih _ _ _ _ _ h1)
      split at h
      · rename_i e; cases h; simpa [e] using this
      · rename_i e; cases h; simpa [e] using this
    · rename_i hne
      have := SimC.block (id := id) (ih _ _ _ _ _ h)
      cases ex with
      | normal => exact this
      | ret => exact this
      | exit id' => exact (hne _ _ _ h).elim
  | loop c ih =>
    intro env σ ex env' σ' h
    simp only [evalCode] at h
    exact .loop (evalLoop_ok ih lf _ _ _ _ _ h)
  | scope c ih =>
    intro env σ ex env' σ' h
    simp only [evalCode] at h
    exact .scope (ih _ _ _ _ _ h)
  | rangeFunc f ps as b _ _ => intro env σ ex env' σ' h; simp [evalCode] at h
  | goto l => intro env σ ex env' σ' h; simp [evalCode] at h
  | refuse why => intro env σ ex env' σ' h; simp [evalCode] at h

/-! ## Functions -/
/-- The result variables' values. -/
def resVals (P : Program) (env : Env) (σ : St) : List ResultVar → Option (List Value)
  | [] => some []
  | .tmp t :: r => match resVals P env σ r with
    | some l => some (eget env t :: l)
    | none => none
  | .cell a t :: r => match opLoad P t (eget env a) σ, resVals P env σ r with
    | some v, some l => some (v :: l)
    | _, _ => none
def packed : List Value → Value
  | [v] => v
  | l => .tuple l.toArray
def initEnv : List Value → Nat → Env → Env
  | [], _, env => env
  | v :: r, i, env => initEnv r (i + 1) (eput env i v)

def evalFn (P : Program) (gl : List Nat) (call : CallF) (draw : Nat → Array Oper → Env → St → Option (Env × St)) (lf : Nat) : CallF := fun f args σ =>
  match P.funcs[f]? with
  | some fn => match fn.body with
    | some c => if args.size ≤ fn.ntmps then match evalCode P gl fn.ntmps call (draw fn.ntmps) lf c (initEnv args.toList 0 .nil) σ with
        | some (.normal, env, σ') => (resVals P env σ' fn.results.toList).map fun l => (packed l, σ')
        | some (.ret, env, σ') => (resVals P env σ' fn.results.toList).map fun l => (packed l, σ')
        | _ => none
      else none
    | none => none
  | none => none

theorem eget_init : ∀ (l : List Value) (i : Nat) (env : Env) (t : Nat), eget (initEnv l i env) t = if i ≤ t ∧ t < i + l.length then l.getD (t - i) undef else eget env t
  | [], i, env, t => by simp [initEnv]; omega
  | v :: r, i, env, t => by
    simp only [initEnv, eget_init r (i + 1), eget_eput, List.length_cons]
    by_cases h : i = t
    · subst h
      rw [if_neg (by omega), if_pos rfl, if_pos (by omega)]
      simp
    · rw [if_neg h]
      by_cases h2 : i + 1 ≤ t ∧ t < i + 1 + r.length
      · rw [if_pos h2, if_pos (by omega)]
        rw [show t - i = (t - (i + 1)) + 1 by omega]
        simp
      · rw [if_neg h2, if_neg (by omega)]

theorem resVals_ok {P : Program} {g : Gam} {N : Nat} {env : Env} {σ : St} {a : Act} {w : World} (he : EnvRel g N env a) (hr : Rel g σ w) : ∀ (l : List ResultVar) (vs : List Value), resVals P env σ l = some vs →
    ∃ vs' : List Value, (l.mapM fun (x : ResultVar) => (match x with | .tmp t => pure (a.tmps.getD t undef) | .cell a' t => do loadVar t (← asAddr (a.tmps.getD a' undef)) : Sem Value)).run P w = .ok vs' w ∧ LRel g vs vs'
  | [], vs, h => by simp only [resVals] at h; cases h; exact ⟨[], by simp, LRel.nil g⟩
  | .tmp t :: r, vs, h => by
    simp only [resVals] at h
    split at h
    · rename_i l hl
      cases h
      obtain ⟨vs', e, hv⟩ := resVals_ok he hr r l hl
      refine ⟨a.tmps.getD t undef :: vs', by simp only [List.mapM_cons, Sem.run_bind, Sem.run_pure, Result.andThen_ok, e], by simp [hv.1], fun i h1 h2 => ?_⟩
      cases i with
      | zero => exact he.slot t
      | succ i => exact hv.2 i (Nat.lt_of_succ_lt_succ h1) (Nat.lt_of_succ_lt_succ h2)
    · cases h
  | .cell c t :: r, vs, h => by
    simp only [resVals] at h
    split at h
    · rename_i v l hv1 hl
      cases h
      obtain ⟨vs', e, hv⟩ := resVals_ok he hr r l hl
      obtain ⟨v', e1, e2⟩ := opLoad_ok (P := P) hv1 hr (he.slot c)
      have hld : (do loadVar t (← asAddr (a.tmps.getD c undef)) : Sem Value).run P w = .ok v' w := by
        have hs := he.slot c
        generalize a.tmps.getD c undef = q at hs e1
        generalize eget env c = q0 at hs hv1
        unfold opLoad at hv1
        split at hv1
        · cases hs
          simpa [Instr.loadAt, Instr.sureAddr, asAddr] using e1
        · cases hv1
      refine ⟨v' :: vs', by simp only [List.mapM_cons, Sem.run_bind] at hld ⊢; simp only [hld, Result.andThen_ok, e, Sem.run_pure], by simp [hv.1], fun i h1 h2 => ?_⟩
      cases i with
      | zero => exact e2
      | succ i => exact hv.2 i (Nat.lt_of_succ_lt_succ h1) (Nat.lt_of_succ_lt_succ h2)
    · cases h

theorem evalFn_ok {P : Program} {gl : List Nat} {call : CallF} (hc : call.ok P gl) {draw : Nat → Array Oper → Env → St → Option (Env × St)} (hd : ∀ N, DrawOk P gl N (draw N)) (lf : Nat) : (evalFn P gl call draw lf).ok P gl := by
  intro f args σ v σ' h g w args' hg hr ha
  unfold evalFn at h
  split at h
  · rename_i fn hf
    split at h
    · rename_i c hb
      split at h
      · rename_i hsz
        have key : ∀ ex env, evalCode P gl fn.ntmps call (draw fn.ntmps) lf c (initEnv args.toList 0 .nil) σ = some (ex, env, σ') → (ex = .normal ∨ ex = .ret) → (resVals P env σ' fn.results.toList).map (fun l => (packed l, σ')) = some (v, σ') →
            Calls P f args' w fun e w' => ∃ v' g', e = .returned v' ∧ VRel g' v v' ∧ Rel g' σ' w' ∧ Ext (fun A => σ.next ≤ A) g g' σ σ' w w' := by
          intro ex env hev hex hres
          have hsim := evalCode_ok hc (hd fn.ntmps) lf c _ _ _ _ _ hev
          have hinit : EnvRel g fn.ntmps (initEnv args.toList 0 .nil) { tmps := args' ++ Array.replicate (fn.ntmps - args'.size) undef, defers := [] } := by
            refine ⟨rfl, by simp [← ha.1]; omega, fun t => ?_⟩
            rw [eget_init]
            by_cases ht : t < args.size
            · rw [if_pos (by simp; exact ht)]
              have ht' : t < args'.size := by rw [← ha.1]; exact ht
              have e1 : args.toList.getD (t - 0) undef = args[t] := by simp [List.getD, ht]
              have e2 : (args' ++ Array.replicate (fn.ntmps - args'.size) undef).getD t undef = args'[t] := by
                rw [Array.getD_eq_getD_getElem?, Array.getElem?_append_left ht']; simp [ht']
              rw [e1, e2]; exact ha.2 t ht ht'
            · rw [if_neg (by simp; exact Nat.le_of_not_lt ht)]
              have e1 : eget .nil t = undef := rfl
              have e2 : (args' ++ Array.replicate (fn.ntmps - args'.size) undef).getD t undef = undef := by
                rw [Array.getD_eq_getD_getElem?, Array.getElem?_append_right (by rw [← ha.1]; omega), Array.getElem?_replicate]
                split <;> rfl
              rw [e1, e2]; exact .tuple _ _ rfl fun i h => by simp at h
          refine calls_of_wp hf hb (wp_mono (hsim g w _ hg hr hinit) ?_)
          rintro e a' w' ⟨rfl, g', r1, r2, r3⟩
          cases hrv : resVals P env σ' fn.results.toList with
          | none => rw [hrv] at hres; cases hres
          | some vs =>
            rw [hrv] at hres
            simp only [Option.map_some, Option.some.injEq, Prod.mk.injEq, and_true] at hres
            obtain ⟨vs', e1, e2⟩ := resVals_ok (P := P) r2 r1 _ _ hrv
            have hrun : (results fn a'.tmps).run P w' = .ok (packed vs') w' := by
              obtain ⟨F, hF⟩ : ∃ F : ResultVar → Sem Value, F = fun (x : ResultVar) => (match x with | .tmp t => pure (a'.tmps.getD t undef) | .cell a t => do loadVar t (← asAddr (a'.tmps.getD a undef)) : Sem Value) := ⟨_, rfl⟩
              have hdef : results fn a'.tmps = (do let vs ← fn.results.mapM F; pure (if h : vs.size = 1 then vs[0] else .tuple vs)) := by
                rw [hF]; rfl
              have hm : (fn.results.mapM F).run P w' = .ok vs'.toArray w' := by
                rw [← Array.toArray_toList (xs := fn.results), List.mapM_toArray]
                rw [hF]
                simp only [Sem.run_map, e1, Result.andThen_ok]
              rw [hdef]
              simp only [Sem.run_bind, hm, Result.andThen_ok, Sem.run_pure]
              congr 1
              unfold packed
              match vs', e2 with
              | [], _ => rfl
              | [v], _ => rfl
              | _ :: _ :: _, _ => simp
            have hrel : VRel g' v (packed vs') := by
              subst hres
              unfold packed
              match vs, vs', e2 with
              | [], [], _ => exact .tuple _ _ rfl fun i h => by simp at h
              | [v], [v'], e2 => exact e2.2 0 (by simp) (by simp)
              | x :: y :: r, x' :: y' :: r', e2 => exact .tuple _ _ (by simpa using e2.1) fun i h1 h2 => by simpa using e2.2 i (by simpa using h1) (by simpa using h2)
              | [], _ :: _, e2 => have := e2.1; simp at this
              | _ :: _, [], e2 => have := e2.1; simp at this
              | [_], _ :: _ :: _, e2 => have := e2.1; simp at this
              | _ :: _ :: _, [_], e2 => have := e2.1; simp at this
            rcases hex with rfl | rfl
            · exact ⟨r2.defers, _, hrun, _, g', rfl, hrel, r1, r3⟩
            · exact ⟨r2.defers, _, hrun, _, g', rfl, hrel, r1, r3⟩
        split at h
        · rename_i env s1 he
          have : s1 = σ' := by
            cases hrv : resVals P env s1 fn.results.toList with
            | none => rw [hrv] at h; cases h
            | some l => rw [hrv] at h; simp at h; exact h.2
          subst this
          exact key .normal env he (.inl rfl) h
        · rename_i env s1 he
          have : s1 = σ' := by
            cases hrv : resVals P env s1 fn.results.toList with
            | none => rw [hrv] at h; cases h
            | some l => rw [hrv] at h; simp at h; exact h.2
          subst this
          exact key .ret env he (.inr rfl) h
        · cases h
      · cases h
    · cases h
  · cases h
end Go.Ev
