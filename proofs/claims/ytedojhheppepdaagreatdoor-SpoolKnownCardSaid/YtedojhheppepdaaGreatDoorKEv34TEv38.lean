/-
  The evaluator and the contracts, merged out of 5 texts (Ev34 to Ev38). No condition.
-/
import Derived.Test.YtedojhheppepdaaGreatDoorKEv24TEv33

namespace Go.Ev
open Go
set_option linter.unusedVariables false
set_option linter.unusedSimpArgs false

/-- A call does something that Q takes. -/
def TF (P : Program) (gl : List Nat) (f : FuncId) (args : Array Value) (σ : St) (Q : Value → St → Prop) : Prop := ∃ v σ', SimF P gl f args σ v σ' ∧ Q v σ'

theorem TF.mono {P : Program} {gl : List Nat} {f : FuncId} {args : Array Value} {σ : St} {Q Q' : Value → St → Prop} (h : TF P gl f args σ Q) (hq : ∀ v σ', Q v σ' → Q' v σ') : TF P gl f args σ Q' := by
  obtain ⟨v, σ', a, b⟩ := h; exact ⟨v, σ', a, hq _ _ b⟩
theorem TF.of {P : Program} {gl : List Nat} {f : FuncId} {args : Array Value} {σ : St} {v : Value} {σ' : St} {Q : Value → St → Prop} (h : SimF P gl f args σ v σ') (hq : Q v σ') : TF P gl f args σ Q := ⟨v, σ', h, hq⟩

/-! ## Rows in the text's order -/
/-- What comes of an operation goes on to K. -/
def onCall (P : Program) (gl : List Nat) (r : Option (Value × St)) (f : FuncId) (args : Array Value) (σ : St) (K : Value → St → Prop) : Prop := match r with
  | some (v, σ') => K v σ'
  | none => TF P gl f args σ K
def onOp (P : Program) (gl : List Nat) (C : CallF) (w : Bool) (r : Option ARes) (σ : St) (K : Value → St → Prop) : Prop := match w with
  | true => match r with
    | some (.val v σ') => K v σ'
    | some (.enter f args) => onCall P gl (C f args σ) f args σ K
    | none => False
  | false => K undef σ
theorem onOp_val {P : Program} {gl : List Nat} {C : CallF} {v : Value} {σ σ' : St} {K : Value → St → Prop} : onOp P gl C true (some (.val v σ')) σ K = K v σ' := rfl
theorem onOp_enter {P : Program} {gl : List Nat} {C : CallF} {f : FuncId} {args : Array Value} {σ : St} {K : Value → St → Prop} : onOp P gl C true (some (.enter f args)) σ K = onCall P gl (C f args σ) f args σ K := rfl
theorem onOp_skip {P : Program} {gl : List Nat} {C : CallF} {r : Option ARes} {σ : St} {K : Value → St → Prop} : onOp P gl C false r σ K = K undef σ := rfl
theorem onCall_some {P : Program} {gl : List Nat} {v : Value} {f : FuncId} {args : Array Value} {σ σ' : St} {K : Value → St → Prop} : onCall P gl (some (v, σ')) f args σ K = K v σ' := rfl
theorem onCall_none {P : Program} {gl : List Nat} {f : FuncId} {args : Array Value} {σ : St} {K : Value → St → Prop} : onCall P gl none f args σ K = TF P gl f args σ K := rfl
@[congr] theorem onOp_congr {P : Program} {gl : List Nat} {C : CallF} {w w' : Bool} {r r' : Option ARes} {σ : St} {K : Value → St → Prop} (h1 : w = w') (h2 : r = r') : onOp P gl C w r σ K = onOp P gl C w' r' σ K := by rw [h1, h2]
@[congr] theorem onCall_congr {P : Program} {gl : List Nat} {r r' : Option (Value × St)} {f : FuncId} {args : Array Value} {σ : St} {K : Value → St → Prop} (h : r = r') : onCall P gl r f args σ K = onCall P gl r' f args σ K := by rw [h]
@[congr] theorem TF_congr {P : Program} {gl : List Nat} {f : FuncId} {args args' : Array Value} {σ σ' : St} {K : Value → St → Prop} (h : args = args') (h2 : σ = σ') : TF P gl f args σ K = TF P gl f args' σ' K := by rw [h, h2]
def wpO (P : Program) (gl : List Nat) (C : CallF) (ops : Array Oper) (base : Nat) : List Oper → Nat → Env → St → (Env → St → Prop) → Prop
  | [], _, env, σ, Q => Q env σ
  | o :: r, i, env, σ, Q => onOp P gl C (wantedA ops env o) (evalOp P (rho env) (base + i) o σ) σ fun v σ' => wpO P gl C ops base r (i + 1) (eputo env o.dst v) σ' Q
@[congr] theorem wpO_congr {P : Program} {gl : List Nat} {C : CallF} {ops : Array Oper} {b : Nat} {l : List Oper} {i : Nat} {env env' : Env} {σ σ' : St} {Q : Env → St → Prop} (h1 : env = env') (h2 : σ = σ') : wpO P gl C ops b l i env σ Q = wpO P gl C ops b l i env' σ' Q := by rw [h1, h2]

def RunO (P : Program) (gl : List Nat) (ops : Array Oper) (base : Nat) : List Oper → Nat → Env → St → Env → St → Prop
  | [], _, env, σ, env', σ' => env' = env ∧ σ' = σ
  | o :: r, i, env, σ, env', σ' =>
    (wantedA ops env o = true ∧ ∃ v σ1, StepR P gl (rho env) (base + i) o σ v σ1 ∧ RunO P gl ops base r (i + 1) (eputo env o.dst v) σ1 env' σ') ∨
    (wantedA ops env o = false ∧ RunO P gl ops base r (i + 1) (eputo env o.dst undef) σ env' σ')

section
variable {P : Program} {gl : List Nat} {C : CallF} {ops : Array Oper} {base N : Nat}

theorem wpO_run (hC : C.ok P gl) {Q : Env → St → Prop} : ∀ (l : List Oper) (i : Nat) (env : Env) (σ : St), wpO P gl C ops base l i env σ Q → ∃ env' σ', RunO P gl ops base l i env σ env' σ' ∧ Q env' σ'
  | [], i, env, σ, h => ⟨env, σ, ⟨rfl, rfl⟩, h⟩
  | o :: r, i, env, σ, h => by
    simp only [wpO] at h
    cases hw : wantedA ops env o with
    | true =>
      rw [hw] at h
      have go : ∀ v σ1, StepR P gl (rho env) (base + i) o σ v σ1 → wpO P gl C ops base r (i + 1) (eputo env o.dst v) σ1 Q → ∃ env' σ', RunO P gl ops base (o :: r) i env σ env' σ' ∧ Q env' σ' := fun v σ1 hs h2 => by
        obtain ⟨env', σ', a, b⟩ := wpO_run hC r (i + 1) _ _ h2
        exact ⟨env', σ', .inl ⟨hw, v, σ1, hs, a⟩, b⟩
      cases he : evalOp P (rho env) (base + i) o σ with
      | none => rw [he] at h; exact h.elim
      | some q =>
        rw [he] at h
        cases q with
        | val v σ1 => exact go v σ1 (.inl he) h
        | enter f args =>
          rw [onOp_enter] at h
          cases hc : C f args σ with
          | some p => obtain ⟨v, σ1⟩ := p; rw [hc] at h; exact go v σ1 (.inr (.inl ⟨f, args, he, hC _ _ _ _ _ hc⟩)) h
          | none =>
            rw [hc] at h
            obtain ⟨v, σ1, hs, h2⟩ := h
            exact go v σ1 (.inr (.inl ⟨f, args, he, hs⟩)) h2
    | false =>
      rw [hw] at h
      obtain ⟨env', σ', a, b⟩ := wpO_run hC r (i + 1) _ _ h
      exact ⟨env', σ', .inr ⟨hw, a⟩, b⟩

theorem RunO_ok {Ds : List Deferred} {Q : Exit → Act → World → Prop} {env' : Env} {σ' : St} : ∀ (l : List Oper) (i : Nat) (env : Env) (σ : St) (g : Gam) (w : World) (a : Act),
    RunO P gl ops base l i env σ env' σ' → (∀ o ∈ l, okOper gl N o = true ∧ okGuard ops N o = true) → (∀ j o, l[j]? = some o → ops[i + j]? = some o) → i + l.length = ops.size → base + ops.size ≤ σ.next → (∀ j, i ≤ j → j < ops.size → σ.get (base + j) = none) →
    Glob gl g → Rel g σ w → EnvRel Ds g N env a →
    (∀ a' w' g', Rel g' σ' w' → EnvRel Ds g' N env' a' → Ext (fun A => base ≤ A) g g' σ σ' w w' → Q .normal a' w') → wpOps P ops Q (List.range' i l.length) a w
  | [], i, env, σ, g, w, a, h, _, _, _, _, _, hg, hr, he, k => by
    obtain ⟨rfl, rfl⟩ := h
    exact k a w g hr he (Ext.refl _ _ _ _)
  | o :: r, i, env, σ, g, w, a, h, hok, hops, hlen, hnext, hfree, hg, hr, he, k => by
    obtain ⟨ok1, ok2⟩ := hok o (by simp)
    simp only [okOper, Bool.and_eq_true, List.all_eq_true] at ok1
    have hρ : ∀ x ∈ o.op.operands, VRel g (rho env x) (a.eval x) := fun x hx => he.rho hg (ok1.1 x (by simpa using hx))
    have hoi : ops[i]? = some o := by have := hops 0 o rfl; simpa using this
    have hi : i < ops.size := by simp at hlen; omega
    have hw := wanted_eq he o ok2
    simp only [List.length_cons, List.range'_succ, wpOps, hoi, hw]
    have rest := fun (env2 : Env) (σ2 : St) (g2 : Gam) (w2 : World) (a2 : Act) (h2 : RunO P gl ops base r (i + 1) env2 σ2 env' σ') (hn2 : base + ops.size ≤ σ2.next) (hf2 : ∀ j, i + 1 ≤ j → j < ops.size → σ2.get (base + j) = none)
        (hg2 : Glob gl g2) (hr2 : Rel g2 σ2 w2) (he2 : EnvRel Ds g2 N env2 a2) (k2 : ∀ a' w' g', Rel g' σ' w' → EnvRel Ds g' N env' a' → Ext (fun A => base ≤ A) g2 g' σ2 σ' w2 w' → Q .normal a' w') =>
      RunO_ok r (i + 1) env2 σ2 g2 w2 a2 h2 (fun o' ho' => hok o' (by simp [ho'])) (fun j o' hj => by have := hops (j + 1) o' (by simpa using hj); rwa [show i + 1 + j = i + (j + 1) by omega]) (by simp at hlen; omega) hn2 hf2 hg2 hr2 he2 k2
    rcases h with ⟨hwant, v, σ1, hs, h2⟩ | ⟨hwant, h2⟩
    · rw [if_pos hwant]
      left
      refine hs.wp hg hr (hfree i (Nat.le_refl _) hi) (by omega) hρ fun v' w' g' hv hr' hx => ?_
      have hx' : Ext (fun A => base ≤ A) g g' σ σ1 w w' := hx.mono fun A hA => by rcases hA with rfl | hA <;> omega
      refine rest _ σ1 g' w' _ h2 (Nat.le_trans hnext hx.next) (fun j h1 h2 => ?_) (hg.mono hx.le) hr' ((he.mono hx.le).put ok1.2 hv) fun a'' w'' g'' r1 r2 r3 => k a'' w'' g'' r1 r2 (hx'.trans r3)
      have hnone := hfree j (by omega) h2
      have gnone : g (base + j) = none := by
        cases e : g (base + j) with
        | none => rfl
        | some x => obtain ⟨ob, hob, _⟩ := hr.obj _ x e; rw [hnone] at hob; cases hob
      rw [hx.frame (base + j) gnone (by omega)]
      exact hnone
    · rw [if_neg (by rw [hwant]; simp)]
      exact rest _ σ g w _ h2 hnext (fun j h1 h2 => hfree j (by omega) h2) hg hr (he.put ok1.2 (.tuple _ _ rfl fun i h => by simp at h)) k

theorem wpO_ok (hC : C.ok P gl) {id : Nat} {env : Env} {σ : St} {Q : Env → St → Prop} (hok : ∀ o ∈ ops.toList, okOper gl N o = true ∧ okGuard ops N o = true)
    (h : wpO P gl C ops σ.next ops.toList 0 env (σ.bump ops.size) Q) : ∃ env' σ', SimC P gl N (.region id ops false) env σ .normal env' σ' ∧ Q env' σ' := by
  obtain ⟨env', σ', hrun, hq⟩ := wpO_run hC _ _ _ _ h
  refine ⟨env', σ', fun Ds g w a hg hr he => ?_, hq⟩
  refine wp_region ?_
  have hrange : List.range ops.size = List.range' 0 ops.toList.length := by rw [List.range_eq_range']; simp
  rw [hrange]
  have hb := Ext.bump (N := fun A => σ.next ≤ A) g σ w ops.size
  refine RunO_ok ops.toList 0 env (σ.bump ops.size) g w a hrun hok (fun j o hj => by simpa using hj) (by simp) (Nat.le_refl _) (fun j _ _ => ?_) hg (hr.bump _) he fun a' w' g' r1 r2 r3 => ⟨rfl, g', r1, r2, hb.trans r3⟩
  cases e : (σ.bump ops.size).get (σ.next + j) with
  | none => rfl
  | some o => have := hr.wf.lt _ o e; omega

/-! ## Rows that draw their order -/
def instP (l : List (Nat × AObj)) (σ : St) : St := l.foldl (fun σ x => σ.set x.1 x.2) σ
/-- What comes of an operation of such a row goes on to K, with what is pending. -/
def onQ (P : Program) (gl : List Nat) (C : CallF) (w : Bool) (cl : Cls) (id : Nat) (ev : St → Option ARes) (τ : St) (pend : List (Nat × AObj)) (K : Value → St → List (Nat × AObj) → Prop) : Prop := match w with
  | false => K undef τ pend
  | true => match cl with
    | .alloc => match ev τ with
      | some (.val v σ1) => match σ1.get id with
        | some ao => K v τ (pend ++ [(id, ao)])
        | none => False
      | _ => False
    | .loud => match ev (instP pend τ) with
      | some (.val v σ') => K v σ' []
      | some (.enter f args) => onCall P gl (C f args (instP pend τ)) f args (instP pend τ) fun v σ' => K v σ' []
      | none => False
    | _ => match ev τ with
      | some (.val v _) => K v τ pend
      | _ => False
/-- The same, the run at hand. -/
def onQ2 (P : Program) (gl : List Nat) (C : CallF) (cl : Cls) (id : Nat) (r : Option ARes) (τ : St) (pend : List (Nat × AObj)) (K : Value → St → List (Nat × AObj) → Prop) : Prop := match cl with
    | .alloc => match r with
      | some (.val v σ1) => match σ1.get id with
        | some ao => K v τ (pend ++ [(id, ao)])
        | none => False
      | _ => False
    | .loud => match r with
      | some (.val v σ') => K v σ' []
      | some (.enter f args) => onCall P gl (C f args τ) f args τ fun v σ' => K v σ' []
      | none => False
    | _ => match r with
      | some (.val v _) => K v τ pend
      | _ => False
def onObj (o : Option AObj) (K : AObj → Prop) : Prop := match o with
  | some ao => K ao
  | none => False
section
variable {P : Program} {gl : List Nat} {C : CallF} {id : Nat} {ev : St → Option ARes} {τ : St} {pend : List (Nat × AObj)} {K : Value → St → List (Nat × AObj) → Prop} {v : Value} {σ' : St} {f : FuncId} {args : Array Value}
theorem onQ_skip {cl : Cls} : onQ P gl C false cl id ev τ pend K = K undef τ pend := rfl
theorem onQ_pure : onQ P gl C true .pure id ev τ pend K = onQ2 P gl C .pure id (ev τ) τ pend K := rfl
theorem onQ_read : onQ P gl C true .read id ev τ pend K = onQ2 P gl C .read id (ev τ) τ pend K := rfl
theorem onQ_alloc : onQ P gl C true .alloc id ev τ pend K = onQ2 P gl C .alloc id (ev τ) τ pend K := rfl
theorem onQ_loud : onQ P gl C true .loud id ev τ pend K = onQ2 P gl C .loud id (ev (instP pend τ)) (instP pend τ) pend K := rfl
theorem onQ2_pure : onQ2 P gl C .pure id (some (.val v σ')) τ pend K = K v τ pend := rfl
theorem onQ2_read : onQ2 P gl C .read id (some (.val v σ')) τ pend K = K v τ pend := rfl
theorem onQ2_loud : onQ2 P gl C .loud id (some (.val v σ')) τ pend K = K v σ' [] := rfl
theorem onQ2_enter : onQ2 P gl C .loud id (some (.enter f args)) τ pend K = onCall P gl (C f args τ) f args τ fun v σ' => K v σ' [] := rfl
theorem onQ2_alloc : onQ2 P gl C .alloc id (some (.val v σ')) τ pend K = onObj (σ'.get id) fun ao => K v τ (pend ++ [(id, ao)]) := rfl
theorem onObj_some {ao : AObj} {K : AObj → Prop} : onObj (some ao) K = K ao := rfl
@[congr] theorem onQ_congr {w w' : Bool} {cl cl' : Cls} (h1 : w = w') (h2 : cl = cl') : onQ P gl C w cl id ev τ pend K = onQ P gl C w' cl' id ev τ pend K := by rw [h1, h2]
@[congr] theorem onQ2_congr {cl : Cls} {r r' : Option ARes} {τ τ' : St} (h : r = r') (h2 : τ = τ') : onQ2 P gl C cl id r τ pend K = onQ2 P gl C cl id r' τ' pend K := by rw [h, h2]
@[congr] theorem onObj_congr {o o' : Option AObj} {K : AObj → Prop} (h : o = o') : onObj o K = onObj o' K := by rw [h]
end
def wpQ (P : Program) (gl : List Nat) (C : CallF) (ops : Array Oper) (base : Nat) : List Oper → Nat → Env → St → List (Nat × AObj) → (Env → St → Prop) → Prop
  | [], _, env, τ, pend, Q => Q env (instP pend τ)
  | o :: r, i, env, τ, pend, Q => onQ P gl C (wantedA ops env o) (clsOf P o.op) (base + i) (evalOp P (rho env) (base + i) o) τ pend fun v τ' pend' => wpQ P gl C ops base r (i + 1) (eputo env o.dst v) τ' pend' Q
@[congr] theorem wpQ_congr {P : Program} {gl : List Nat} {C : CallF} {ops : Array Oper} {b : Nat} {l : List Oper} {i : Nat} {env env' : Env} {σ σ' : St} {pend pend' : List (Nat × AObj)} {Q : Env → St → Prop} (h1 : env = env') (h2 : σ = σ') (h3 : pend = pend') :
    wpQ P gl C ops b l i env σ pend Q = wpQ P gl C ops b l i env' σ' pend' Q := by rw [h1, h2, h3]

theorem pureW_of {o : Oper} {ρ : Operand → Value} {v : Value} (h : PureOk P ρ o v) : PureW P ρ o v := h.2
theorem allocW_of {o : Oper} {ρ : Operand → Value} {id : Nat} {v : Value} {ao : AObj} (h : AllocOk P ρ o id v ao) : AllocW P ρ o id v ao := h.2

theorem wpQ_spec {B : List Nat} (hC : C.ok P gl) (hs : OkDraw P ops B) (hq : ∀ (i : Nat) (o : Oper), ops[i]? = some o → clsOf P o.op = .loud → ∀ (k : Nat) (ok : Oper), ops[k]? = some ok → (clsOf P ok.op = .alloc → k < i → bit B i k = true) ∧ (clsOf P ok.op = .read → bit B i k = true ∨ bit B k i = true))
    {Q : Env → St → Prop} : ∀ (l : List Oper) (env : Env) (τ : St) (Rw : List TRow),
    (∀ j o, l[j]? = some o → ops[Rw.length + j]? = some o) → Rw.length + l.length = ops.size →
    (∀ j, j < Rw.length → ral Rw j = true → ∃ o, ops[j]? = some o ∧ clsOf P o.op = .alloc) →
    wpQ P gl C ops base l Rw.length env τ (pendL base B Rw) Q →
    ∃ (R' : List TRow) (env' : Env) (τ' : St), (∃ S, R' = Rw ++ S ∧ S.length = l.length) ∧ Q env' (instL base (rao R') (pendAt (rlo R') (ral R') B ops.size) τ') ∧
      renv R' env' Rw.length = env ∧ rst R' τ' Rw.length = τ ∧
      ∀ j o, l[j]? = some o → renv R' env' (Rw.length + j + 1) = eputo (renv R' env' (Rw.length + j)) o.dst (rval R' (Rw.length + j)) ∧
        RowOk2 P gl ops base B (renv R' env') (rst R' τ') (rval R') (rao R') (rlo R') (ral R') (Rw.length + j) o
  | [], env, τ, Rw, hl, hlen, hal, h => by
    simp only [wpQ] at h
    have h : Q env ((pendL base B Rw).foldl (fun σ x => σ.set x.1 x.2) τ) := h
    rw [pendL_inst] at h
    simp only [List.length_nil, Nat.add_zero] at hlen
    refine ⟨Rw, env, τ, ⟨[], by simp⟩, by rw [← hlen]; exact h, ?_, ?_, fun j o hj => by simp at hj⟩
    · unfold renv; rw [List.getElem?_eq_none (Nat.le_refl _)]
    · unfold rst; rw [List.getElem?_eq_none (Nat.le_refl _)]
  | o :: l, env, τ, Rw, hl, hlen, hal, h => by
    have hoi : ops[Rw.length]? = some o := by have := hl 0 o rfl; simpa using this
    have behind : ∀ (r0 : TRow) (τ2 : St), r0.env = env → r0.st = τ →
        wpQ P gl C ops base l (Rw.length + 1) (eputo env o.dst r0.v) τ2 (pendL base B (Rw ++ [r0])) Q → ((r0.k == 2) = true → clsOf P o.op = .alloc) →
        (∀ (R' : List TRow) (e' : Env) (τ' : St), (∃ S, R' = Rw ++ r0 :: S) → renv R' e' Rw.length = env → rst R' τ' Rw.length = τ → rst R' τ' (Rw.length + 1) = τ2 → rval R' Rw.length = r0.v → rao R' Rw.length = r0.ao → rlo R' Rw.length = (r0.k == 4) → ral R' Rw.length = (r0.k == 2) →
          RowOk2 P gl ops base B (renv R' e') (rst R' τ') (rval R') (rao R') (rlo R') (ral R') Rw.length o) →
        ∃ (R' : List TRow) (env' : Env) (τ' : St), (∃ S, R' = Rw ++ S ∧ S.length = (o :: l).length) ∧ Q env' (instL base (rao R') (pendAt (rlo R') (ral R') B ops.size) τ') ∧
          renv R' env' Rw.length = env ∧ rst R' τ' Rw.length = τ ∧
          ∀ j o', (o :: l)[j]? = some o' → renv R' env' (Rw.length + j + 1) = eputo (renv R' env' (Rw.length + j)) o'.dst (rval R' (Rw.length + j)) ∧
            RowOk2 P gl ops base B (renv R' env') (rst R' τ') (rval R') (rao R') (rlo R') (ral R') (Rw.length + j) o' := by
      intro r0 τ2 he hst hrun hk2 hrow
      have hlen2 : (Rw ++ [r0]).length = Rw.length + 1 := by simp
      obtain ⟨R', env', τ', ⟨S, hS, hSl⟩, h1, h2, h3, h4⟩ := wpQ_spec hC hs hq l _ τ2 (Rw ++ [r0]) (fun j o' hj => by rw [hlen2]; have := hl (j + 1) o' (by simpa using hj); rwa [show Rw.length + 1 + j = Rw.length + (j + 1) by omega])
        (by rw [hlen2]; simp at hlen; omega) (fun j hj ha => by
          rw [hlen2] at hj
          by_cases e : j = Rw.length
          · subst e
            have : ral (Rw ++ [r0]) Rw.length = (r0.k == 2) := by unfold ral; rw [row_new]
            exact ⟨o, hoi, hk2 (by rw [← this]; exact ha)⟩
          · have hlt : j < Rw.length := by omega
            rw [ral_old hlt] at ha
            exact hal j hlt ha) (by rw [hlen2]; exact hrun)
      have hR' : R' = Rw ++ r0 :: S := by rw [hS]; simp
      have hget : R'[Rw.length]? = some r0 := by rw [hR']; exact row_new
      have e1 : renv R' env' Rw.length = env := by unfold renv; rw [hget]; exact he
      have e2 : rst R' τ' Rw.length = τ := by unfold rst; rw [hget]; exact hst
      have e3 : rval R' Rw.length = r0.v := by unfold rval; rw [hget]
      have e4 : rlo R' Rw.length = (r0.k == 4) := by unfold rlo; rw [hget]
      have e5 : ral R' Rw.length = (r0.k == 2) := by unfold ral; rw [hget]
      have e6 : rao R' Rw.length = r0.ao := by unfold rao; rw [hget]
      rw [hlen2] at h2 h3 h4
      refine ⟨R', env', τ', ⟨r0 :: S, hR', by simp [hSl]⟩, h1, e1, e2, fun j o' hj => ?_⟩
      cases j with
      | succ j =>
        have := h4 j o' (by simpa using hj)
        rw [show Rw.length + (j + 1) = Rw.length + 1 + j by omega]
        exact this
      | zero =>
        simp only [List.getElem?_cons_zero, Option.some.injEq] at hj
        subst hj
        simp only [Nat.add_zero]
        refine ⟨by rw [h2, e1, e3], hrow R' _ τ' ⟨S, hR'⟩ e1 e2 h3 e3 e6 e4 e5⟩
    simp only [wpQ] at h
    cases hw : wantedA ops env o with
    | true =>
      rw [hw] at h
      have loud : clsOf P o.op = .loud → ∀ v σ', StepR P gl (rho env) (base + Rw.length) o (instP (pendL base B Rw) τ) v σ' → wpQ P gl C ops base l (Rw.length + 1) (eputo env o.dst v) σ' [] Q → _ := fun hcl v σ' hst hk => by
        have hall : ∀ k, k < Rw.length → ral Rw k = true → bit B Rw.length k = true := fun k hk2 ha => by
          obtain ⟨ok, h1, h2⟩ := hal k hk2 ha
          exact (hq _ o hoi hcl k ok h1).1 h2 hk2
        refine behind ⟨v, 4, .iter .empty 0, env, τ⟩ σ' rfl rfl (by rw [pendL_loud rfl hall]; exact hk) (fun q => by cases q) fun R' e' τ' hS q1 q2 q3 q4 q5 q6 q7 => ?_
        obtain ⟨S, hS⟩ := hS
        refine .inr (.inr (.inr (.inr ⟨by rw [q1]; exact hw, q6, q7, hcl, ?_⟩)))
        have hst : StepR P gl (rho env) (base + Rw.length) o ((pendL base B Rw).foldl (fun σ x => σ.set x.1 x.2) τ) v σ' := hst
        rw [pendL_inst] at hst
        refine ⟨rho env, fun x hx => by rw [q1], ?_⟩
        rw [q2, q3, q4]
        have e1 : instAt (rlo R') (ral R') B Rw.length = pendAt (rlo Rw) (ral Rw) B Rw.length := by
          rw [instAt_congr (lo' := rlo Rw) (al' := ral Rw) (fun j hj => by rw [hS]; exact rlo_old hj) (fun j hj => by rw [hS]; exact ral_old hj)]
          exact inst_pend hall
        rw [e1, instL_congr (ao' := rao Rw)]
        · exact hst
        · intro k hk2
          rw [hS]; exact rao_old (pendAt_lt hk2)
      cases hcl : clsOf P o.op with
      | pure =>
        rw [hcl, onQ_pure] at h
        cases he : evalOp P (rho env) (base + Rw.length) o τ with
        | none => rw [he] at h; exact h.elim
        | some q =>
          obtain ⟨v, e2, hp⟩ := evalOp_pure hcl he
          subst e2
          rw [he, onQ2_pure] at h
          refine behind ⟨v, 1, .iter .empty 0, env, τ⟩ τ rfl rfl (by rw [pendL_q (P := P) (ops := ops) hs rfl rfl]; exact h) (fun q => by cases q) fun R' e' τ' _ q1 q2 q3 q4 q5 q6 q7 => ?_
          exact .inr (.inl ⟨by rw [q1]; exact hw, q6, q7, by rw [q3, q2], by rw [q1, q4]; exact pureW_of hp⟩)
      | read =>
        rw [hcl, onQ_read] at h
        cases he : evalOp P (rho env) (base + Rw.length) o τ with
        | none => rw [he] at h; exact h.elim
        | some q =>
          obtain ⟨v, e2, hp⟩ := evalOp_read hcl he
          subst e2
          rw [he, onQ2_read] at h
          refine behind ⟨v, 3, .iter .empty 0, env, τ⟩ τ rfl rfl (by rw [pendL_q (P := P) (ops := ops) hs rfl rfl]; exact h) (fun q => by cases q) fun R' e' τ' _ q1 q2 q3 q4 q5 q6 q7 => ?_
          exact .inr (.inr (.inr (.inl ⟨by rw [q1]; exact hw, q6, q7, by rw [q3, q2], hcl, by rw [q1, q2, q4]; exact he⟩)))
      | alloc =>
        rw [hcl, onQ_alloc] at h
        cases he : evalOp P (rho env) (base + Rw.length) o τ with
        | none => rw [he] at h; exact h.elim
        | some q =>
          obtain ⟨v, ao, e2, hp⟩ := evalOp_alloc hcl he
          subst e2
          rw [he, onQ2_alloc, show (τ.set (base + Rw.length) ao).get (base + Rw.length) = some ao by simp, onObj_some] at h
          refine behind ⟨v, 2, ao, env, τ⟩ τ rfl rfl (by rw [pendL_a (P := P) (ops := ops) hs rfl]; exact h) (fun _ => hcl) fun R' e' τ' _ q1 q2 q3 q4 q5 q6 q7 => ?_
          exact .inr (.inr (.inl ⟨by rw [q1]; exact hw, q6, q7, by rw [q3, q2], by rw [q1, q4, q5]; exact allocW_of hp⟩))
      | loud =>
        rw [hcl, onQ_loud] at h
        cases he : evalOp P (rho env) (base + Rw.length) o (instP (pendL base B Rw) τ) with
        | none => rw [he] at h; exact h.elim
        | some q =>
          rw [he] at h
          cases q with
          | val v σ' => exact loud hcl v σ' (.inl he) h
          | enter f args =>
            rw [onQ2_enter] at h
            cases hc : C f args (instP (pendL base B Rw) τ) with
            | some p => obtain ⟨v, σ'⟩ := p; rw [hc] at h; exact loud hcl v σ' (.inr (.inl ⟨f, args, he, hC _ _ _ _ _ hc⟩)) h
            | none =>
              rw [hc] at h
              obtain ⟨v, σ', hsim, h2⟩ := h
              exact loud hcl v σ' (.inr (.inl ⟨f, args, he, hsim⟩)) h2
    | false =>
      rw [hw] at h
      refine behind ⟨undef, 0, .iter .empty 0, env, τ⟩ τ rfl rfl (by rw [pendL_q (P := P) (ops := ops) hs rfl rfl]; exact h) (fun q => by cases q) fun R' e' τ' _ q1 q2 q3 q4 q5 q6 q7 => ?_
      exact .inl ⟨by rw [q1]; exact hw, q4, q6, q7, by rw [q3, q2]⟩

theorem wpQ_ok (hC : C.ok P gl) (hm : P.follows .mixedOrders = true) {id : Nat} (hQ : okQ P ops (befores ops) = true) (hok : ∀ o ∈ ops.toList, okOper gl N o = true ∧ okGuard ops N o = true)
    {env : Env} {σ : St} {Q : Env → St → Prop} (h : wpQ P gl C ops σ.next ops.toList 0 env (σ.bump ops.size) [] Q) :
    ∃ env' σ', SimC P gl N (.region id ops true) env σ .normal env' σ' ∧ Q env' σ' := by
  obtain ⟨hdr, hq⟩ := okQ_spec hQ
  have hs := okDraw_ok hdr
  obtain ⟨R', env', τ', ⟨S, hS, hSl⟩, h1, h2, h3, h4⟩ := wpQ_spec (base := σ.next) (B := befores ops) hC hs hq ops.toList env (σ.bump ops.size) [] (fun j o hj => by simpa using hj) (by simp) (fun j hj => by simp at hj) h
  simp only [List.nil_append] at hS
  subst hS
  simp only [Array.length_toList] at hSl
  simp only [List.length_nil, Nat.zero_add] at h2 h3 h4
  have hlast1 : renv R' env' ops.size = env' := by unfold renv; rw [List.getElem?_eq_none (by omega)]
  have hlast2 : rst R' τ' ops.size = τ' := by unfold rst; rw [List.getElem?_eq_none (by omega)]
  have ht : Trc P gl ops σ.next (befores ops) (renv R' env') (rst R' τ') (rval R') (rao R') (rlo R') (ral R') := by
    refine ⟨fun i o ho => (h4 i o (by simpa using ho)).1, fun i o ho => ?_, fun i hi => ?_, fun i hi => ?_⟩
    · rcases (h4 i o (by simpa using ho)).2 with q | q | q | q | q
      · exact .inl q
      · exact .inr (.inl q)
      · exact .inr (.inr (.inl q))
      · obtain ⟨k1, k2, k3, k4, k5, k6⟩ := q
        refine .inr (.inr (.inr (.inl ⟨k1, k2, k3, k4, k5, k6, fun j hj hl b1 b2 => ?_⟩)))
        exfalso
        have hoj : ops[j]? = some ops[j] := Array.getElem?_eq_getElem hj
        rcases (h4 j ops[j] (by simp [hj])).2 with q | q | q | q | q
        · rw [hl] at q; cases q.2.2.1
        · rw [hl] at q; cases q.2.1
        · rw [hl] at q; cases q.2.1
        · rw [hl] at q; cases q.2.1
        · rcases (hq j _ hoj q.2.2.2.1 i o ho).2 k5 with p | p
          · rw [b2] at p; cases p
          · rw [b1] at p; cases p
      · exact .inr (.inr (.inr (.inr ⟨q.1, q.2.1, q.2.2.1, q.2.2.2.2⟩)))
    · have hin : i < ops.size := by
        rcases Nat.lt_or_ge i ops.size with q | q
        · exact q
        · unfold rlo at hi; rw [List.getElem?_eq_none (by omega)] at hi; cases hi
      refine ⟨ops[i], Array.getElem?_eq_getElem hin, ?_⟩
      rcases (h4 i ops[i] (by simp [hin])).2 with q | q | q | q | q
      · rw [hi] at q; cases q.2.2.1
      · rw [hi] at q; cases q.2.1
      · rw [hi] at q; cases q.2.1
      · rw [hi] at q; cases q.2.1
      · exact q.2.2.2.1
    · rcases Nat.lt_or_ge i ops.size with q | q
      · exact q
      · unfold ral at hi; rw [List.getElem?_eq_none (by omega)] at hi; cases hi
  have := simC_draw (id := id) hm hs ht h2 h3 hok
  rw [hlast1, hlast2] at this
  exact ⟨env', _, this, h1⟩

/-! ## Rows that draw their order, where reads and loud operations stand that nothing orders -/
/-- A read comes to the same here. -/
def sameR (ev : St → Option ARes) (v : Value) (τ : St) : Prop := ev τ = some (.val v τ)
/-- Whether two operations of a row are in order. -/
def ordB (ops : Array Oper) (i j : Nat) : Bool := bit (befores ops) i j || bit (befores ops) j i
def onPair (b : Bool) (A K : Prop) : Prop := match b with
  | true => K
  | false => A ∧ K
def onW (w : Bool) (A B : Prop) : Prop := match w with
  | false => A
  | true => B
def onCl (cl : Cls) (A B D : Prop) : Prop := match cl with
  | .read => A
  | .loud => B
  | _ => D
def chkRead (ops : Array Oper) (i : Nat) (ev : St → Option ARes) (v : Value) : List (Nat × St × St) → Prop → Prop
  | [], K => K
  | (j, τ, τ') :: l, K => onPair (ordB ops i j) (sameR ev v τ ∧ sameR ev v τ') (chkRead ops i ev v l K)
def chkLoud (ops : Array Oper) (j : Nat) (τ τ' : St) : List (Nat × (St → Option ARes) × Value) → Prop → Prop
  | [], K => K
  | (k, ev, v) :: l, K => onPair (ordB ops k j) (sameR ev v τ ∧ sameR ev v τ') (chkLoud ops j τ τ' l K)
theorem onPair_spec {b : Bool} {A K : Prop} (h : onPair b A K) : (b = false → A) ∧ K := by
  cases b with
  | true => exact ⟨fun e => (by cases e), h⟩
  | false => exact ⟨fun _ => h.1, h.2⟩
theorem chkRead_spec {ops : Array Oper} {i : Nat} {ev : St → Option ARes} {v : Value} {K : Prop} : ∀ {l : List (Nat × St × St)}, chkRead ops i ev v l K → (∀ j τ τ', (j, τ, τ') ∈ l → ordB ops i j = false → sameR ev v τ ∧ sameR ev v τ') ∧ K
  | [], h => ⟨fun j τ τ' hm => (by cases hm), h⟩
  | (j, τ, τ') :: l, h => by
    obtain ⟨h1, h2⟩ := onPair_spec h
    obtain ⟨h3, h4⟩ := chkRead_spec h2
    refine ⟨fun j2 t t' hm ho => ?_, h4⟩
    cases hm with
    | head => exact h1 ho
    | tail _ hm => exact h3 _ _ _ hm ho
theorem chkLoud_spec {ops : Array Oper} {j : Nat} {τ τ' : St} {K : Prop} : ∀ {l : List (Nat × (St → Option ARes) × Value)}, chkLoud ops j τ τ' l K → (∀ k ev v, (k, ev, v) ∈ l → ordB ops k j = false → sameR ev v τ ∧ sameR ev v τ') ∧ K
  | [], h => ⟨fun k ev v hm => (by cases hm), h⟩
  | (k, ev, v) :: l, h => by
    obtain ⟨h1, h2⟩ := onPair_spec h
    obtain ⟨h3, h4⟩ := chkLoud_spec h2
    refine ⟨fun k2 e2 v2 hm ho => ?_, h4⟩
    cases hm with
    | head => exact h1 ho
    | tail _ hm => exact h3 _ _ _ hm ho
def wpU (P : Program) (gl : List Nat) (C : CallF) (ops : Array Oper) (base : Nat) : List Oper → Nat → Env → St → List (Nat × AObj) → List (Nat × (St → Option ARes) × Value) → List (Nat × St × St) → (Env → St → Prop) → Prop
  | [], _, env, τ, pend, _, _, Q => Q env (instP pend τ)
  | o :: r, i, env, τ, pend, rs, ls, Q => onW (wantedA ops env o) (wpU P gl C ops base r (i + 1) (eputo env o.dst undef) τ pend rs ls Q)
    (onQ P gl C true (clsOf P o.op) (base + i) (evalOp P (rho env) (base + i) o) τ pend fun v τ' pend' =>
      onCl (clsOf P o.op) (chkRead ops i (evalOp P (rho env) (base + i) o) v ls (wpU P gl C ops base r (i + 1) (eputo env o.dst v) τ' pend' ((i, evalOp P (rho env) (base + i) o, v) :: rs) ls Q))
        (chkLoud ops i τ τ' rs (wpU P gl C ops base r (i + 1) (eputo env o.dst v) τ' pend' rs ((i, τ, τ') :: ls) Q))
        (wpU P gl C ops base r (i + 1) (eputo env o.dst v) τ' pend' rs ls Q))
/-- What is asked by sight here. -/
def okU (P : Program) (ops : Array Oper) (B : List Nat) : Bool :=
  okDraw P ops B && ops.toList.zipIdx.all fun x => match clsOf P x.1.op with
    | .loud => ops.toList.zipIdx.all fun y => match clsOf P y.1.op with
      | .alloc => !(Nat.blt y.2 x.2) || bit B x.2 y.2
      | _ => true
    | _ => true
theorem okU_spec {P : Program} {ops : Array Oper} {B : List Nat} (h : okU P ops B = true) : okDraw P ops B = true ∧ ∀ (i : Nat) (o : Oper), ops[i]? = some o → clsOf P o.op = .loud → ∀ (k : Nat) (ok : Oper), ops[k]? = some ok →
    (clsOf P ok.op = .alloc → k < i → bit B i k = true) := by
  unfold okU at h
  simp only [Bool.and_eq_true, List.all_eq_true] at h
  refine ⟨h.1, fun i o ho hl k ok hk hal hlt => ?_⟩
  have h1 := h.2 (o, i) (by rw [List.mem_zipIdx_iff_getElem?]; simpa using ho)
  simp only [hl, List.all_eq_true] at h1
  have h2 := h1 (ok, k) (by rw [List.mem_zipIdx_iff_getElem?]; simpa using hk)
  simp only [hal, Bool.or_eq_true, Bool.not_eq_true', Nat.blt_eq] at h2
  rcases h2 with h2 | h2
  · have : Nat.blt k i = true := by rw [Nat.blt_eq]; exact hlt
    rw [this] at h2; cases h2
  · exact h2
/-- What is kept of the reads and the loud operations behind. -/
structure PInv (P : Program) (ops : Array Oper) (base : Nat) (Rw : List TRow) (env : Env) (τ : St) (rs : List (Nat × (St → Option ARes) × Value)) (ls : List (Nat × St × St)) : Prop where
  R : ∀ k o, k < Rw.length → ops[k]? = some o → clsOf P o.op = .read → wantedA ops (renv Rw env k) o = true → (k, evalOp P (rho (renv Rw env k)) (base + k) o, rval Rw k) ∈ rs
  L : ∀ j, j < Rw.length → rlo Rw j = true → (j, rst Rw τ j, rst Rw τ (j + 1)) ∈ ls
  pair : ∀ k j o, k < Rw.length → j < Rw.length → ops[k]? = some o → clsOf P o.op = .read → wantedA ops (renv Rw env k) o = true → rlo Rw j = true → ordB ops k j = false →
    sameR (evalOp P (rho (renv Rw env k)) (base + k) o) (rval Rw k) (rst Rw τ j) ∧ sameR (evalOp P (rho (renv Rw env k)) (base + k) o) (rval Rw k) (rst Rw τ (j + 1))
section
variable {Rw : List TRow} {r0 : TRow} {env env2 : Env} {τ τ2 : St} {rs : List (Nat × (St → Option ARes) × Value)} {ls : List (Nat × St × St)}
theorem rst_old (hst : r0.st = τ) {j : Nat} (h : j ≤ Rw.length) : rst (Rw ++ [r0]) τ2 j = rst Rw τ j := by
  rcases Nat.lt_or_ge j Rw.length with q | q
  · unfold rst; rw [row_old q, List.getElem?_eq_getElem q]
  · have : j = Rw.length := by omega
    subst this
    unfold rst; rw [row_new, List.getElem?_eq_none (Nat.le_refl _)]; exact hst
theorem rst_last : rst (Rw ++ [r0]) τ2 (Rw.length + 1) = τ2 := by
  unfold rst; rw [List.getElem?_eq_none (by simp)]
theorem renv_old {k : Nat} (h : k < Rw.length) : renv (Rw ++ [r0]) env2 k = renv Rw env k := by
  unfold renv; rw [row_old h, List.getElem?_eq_getElem h]
theorem rval_old {k : Nat} (h : k < Rw.length) : rval (Rw ++ [r0]) k = rval Rw k := by
  unfold rval; rw [row_old h]
theorem PInv.step (h : PInv P ops base Rw env τ rs ls) (he : r0.env = env) (hst : r0.st = τ) {o : Oper} (hoi : ops[Rw.length]? = some o) {rs2 : List (Nat × (St → Option ARes) × Value)} {ls2 : List (Nat × St × St)} (hrs : ∀ x ∈ rs, x ∈ rs2) (hls : ∀ x ∈ ls, x ∈ ls2)
    (hr : clsOf P o.op = .read → wantedA ops env o = true → (Rw.length, evalOp P (rho env) (base + Rw.length) o, r0.v) ∈ rs2 ∧ (r0.k == 4) = false ∧ ∀ j t t', (j, t, t') ∈ ls → ordB ops Rw.length j = false → sameR (evalOp P (rho env) (base + Rw.length) o) r0.v t ∧ sameR (evalOp P (rho env) (base + Rw.length) o) r0.v t')
    (hl : (r0.k == 4) = true → (Rw.length, τ, τ2) ∈ ls2 ∧ ∀ k ev v, (k, ev, v) ∈ rs → ordB ops k Rw.length = false → sameR ev v τ ∧ sameR ev v τ2) : PInv P ops base (Rw ++ [r0]) env2 τ2 rs2 ls2 := by
  have hlen : (Rw ++ [r0]).length = Rw.length + 1 := by simp
  have e1 : renv (Rw ++ [r0]) env2 Rw.length = env := by unfold renv; rw [row_new]; exact he
  have e3 : rval (Rw ++ [r0]) Rw.length = r0.v := by unfold rval; rw [row_new]
  have e4 : rlo (Rw ++ [r0]) Rw.length = (r0.k == 4) := by unfold rlo; rw [row_new]
  refine ⟨fun k o' hk ho hc hw => ?_, fun j hj hlo => ?_, fun k j o' hk hj ho hc hw hlo hord => ?_⟩
  · rw [hlen] at hk
    by_cases e : k = Rw.length
    · subst e
      rw [hoi] at ho; cases ho
      rw [e1] at hw
      rw [e1, e3]; exact (hr hc hw).1
    · have hk2 : k < Rw.length := by omega
      rw [renv_old (env := env) hk2] at hw
      rw [renv_old (env := env) hk2, rval_old hk2]
      exact hrs _ (h.R k o' hk2 ho hc hw)
  · rw [hlen] at hj
    by_cases e : j = Rw.length
    · subst e
      rw [rst_old hst (Nat.le_refl _), rst_last]
      have : rst Rw τ Rw.length = τ := by unfold rst; rw [List.getElem?_eq_none (Nat.le_refl _)]
      rw [this]; exact (hl (by rw [← e4]; exact hlo)).1
    · have hj2 : j < Rw.length := by omega
      rw [rlo_old hj2] at hlo
      rw [rst_old hst (by omega), rst_old hst (by omega)]
      exact hls _ (h.L j hj2 hlo)
  · rw [hlen] at hk hj
    by_cases e : k = Rw.length
    · subst e
      rw [hoi] at ho; cases ho
      rw [e1] at hw
      obtain ⟨a1, a2, a3⟩ := hr hc hw
      have hj2 : j < Rw.length := by
        rcases Nat.lt_or_ge j Rw.length with q | q
        · exact q
        · have : j = Rw.length := by omega
          subst this
          rw [e4, a2] at hlo; cases hlo
      rw [rlo_old hj2] at hlo
      rw [e1, e3, rst_old hst (by omega), rst_old hst (by omega)]
      exact a3 j _ _ (h.L j hj2 hlo) hord
    · have hk2 : k < Rw.length := by omega
      rw [renv_old (env := env) hk2] at hw
      rw [renv_old (env := env) hk2, rval_old hk2]
      by_cases e2 : j = Rw.length
      · subst e2
        rw [rst_old hst (Nat.le_refl _), rst_last]
        have : rst Rw τ Rw.length = τ := by unfold rst; rw [List.getElem?_eq_none (Nat.le_refl _)]
        rw [this]
        exact (hl (by rw [← e4]; exact hlo)).2 k _ _ (h.R k o' hk2 ho hc hw) hord
      · have hj2 : j < Rw.length := by omega
        rw [rlo_old hj2] at hlo
        rw [rst_old hst (by omega), rst_old hst (by omega)]
        exact h.pair k j o' hk2 hj2 ho hc hw hlo hord
end

theorem wpU_spec {B : List Nat} (hC : C.ok P gl) (hs : OkDraw P ops B) (hq : ∀ (i : Nat) (o : Oper), ops[i]? = some o → clsOf P o.op = .loud → ∀ (k : Nat) (ok : Oper), ops[k]? = some ok → clsOf P ok.op = .alloc → k < i → bit B i k = true)
    {Q : Env → St → Prop} : ∀ (l : List Oper) (env : Env) (τ : St) (Rw : List TRow) (rs : List (Nat × (St → Option ARes) × Value)) (ls : List (Nat × St × St)),
    (∀ j o, l[j]? = some o → ops[Rw.length + j]? = some o) → Rw.length + l.length = ops.size →
    (∀ j, j < Rw.length → ral Rw j = true → ∃ o, ops[j]? = some o ∧ clsOf P o.op = .alloc) → PInv P ops base Rw env τ rs ls →
    wpU P gl C ops base l Rw.length env τ (pendL base B Rw) rs ls Q →
    ∃ (R' : List TRow) (env' : Env) (τ' : St), (∃ S, R' = Rw ++ S ∧ S.length = l.length) ∧ Q env' (instL base (rao R') (pendAt (rlo R') (ral R') B ops.size) τ') ∧
      renv R' env' Rw.length = env ∧ rst R' τ' Rw.length = τ ∧
      (∀ j o, l[j]? = some o → renv R' env' (Rw.length + j + 1) = eputo (renv R' env' (Rw.length + j)) o.dst (rval R' (Rw.length + j)) ∧
        RowOk2 P gl ops base B (renv R' env') (rst R' τ') (rval R') (rao R') (rlo R') (ral R') (Rw.length + j) o) ∧
      ∀ k j o, ops[k]? = some o → clsOf P o.op = .read → wantedA ops (renv R' env' k) o = true → rlo R' j = true → ordB ops k j = false → k < ops.size →  sameR (evalOp P (rho (renv R' env' k)) (base + k) o) (rval R' k) (rst R' τ' j) ∧ sameR (evalOp P (rho (renv R' env' k)) (base + k) o) (rval R' k) (rst R' τ' (j + 1))
  | [], env, τ, Rw, rs, ls, hl, hlen, hal, hI, h => by
    simp only [wpU] at h
    have h : Q env ((pendL base B Rw).foldl (fun σ x => σ.set x.1 x.2) τ) := h
    rw [pendL_inst] at h
    simp only [List.length_nil, Nat.add_zero] at hlen
    refine ⟨Rw, env, τ, ⟨[], by simp⟩, by rw [← hlen]; exact h, ?_, ?_, fun j o hj => (by simp at hj), fun k j o ho hc hwk hj hor hks => ?_⟩
    · unfold renv; rw [List.getElem?_eq_none (Nat.le_refl _)]
    · unfold rst; rw [List.getElem?_eq_none (Nat.le_refl _)]
    · have hj2 : j < Rw.length := by
        rcases Nat.lt_or_ge j Rw.length with q | q
        · exact q
        · unfold rlo at hj; rw [List.getElem?_eq_none q] at hj; cases hj
      exact hI.pair k j o (by omega) hj2 ho hc hwk hj hor
  | o :: l, env, τ, Rw, rs, ls, hl, hlen, hal, hI, h => by
    have hoi : ops[Rw.length]? = some o := by have := hl 0 o rfl; simpa using this
    have behind : ∀ (r0 : TRow) (τ2 : St) (rs2 : List (Nat × (St → Option ARes) × Value)) (ls2 : List (Nat × St × St)), r0.env = env → r0.st = τ → PInv P ops base (Rw ++ [r0]) (eputo env o.dst r0.v) τ2 rs2 ls2 →
        wpU P gl C ops base l (Rw.length + 1) (eputo env o.dst r0.v) τ2 (pendL base B (Rw ++ [r0])) rs2 ls2 Q → ((r0.k == 2) = true → clsOf P o.op = .alloc) →
        (∀ (R' : List TRow) (e' : Env) (τ' : St), (∃ S, R' = Rw ++ r0 :: S) → renv R' e' Rw.length = env → rst R' τ' Rw.length = τ → rst R' τ' (Rw.length + 1) = τ2 → rval R' Rw.length = r0.v → rao R' Rw.length = r0.ao → rlo R' Rw.length = (r0.k == 4) → ral R' Rw.length = (r0.k == 2) →
          RowOk2 P gl ops base B (renv R' e') (rst R' τ') (rval R') (rao R') (rlo R') (ral R') Rw.length o) →
        ∃ (R' : List TRow) (env' : Env) (τ' : St), (∃ S, R' = Rw ++ S ∧ S.length = (o :: l).length) ∧ Q env' (instL base (rao R') (pendAt (rlo R') (ral R') B ops.size) τ') ∧
          renv R' env' Rw.length = env ∧ rst R' τ' Rw.length = τ ∧
          (∀ j o', (o :: l)[j]? = some o' → renv R' env' (Rw.length + j + 1) = eputo (renv R' env' (Rw.length + j)) o'.dst (rval R' (Rw.length + j)) ∧
            RowOk2 P gl ops base B (renv R' env') (rst R' τ') (rval R') (rao R') (rlo R') (ral R') (Rw.length + j) o') ∧
          ∀ k j o, ops[k]? = some o → clsOf P o.op = .read → wantedA ops (renv R' env' k) o = true → rlo R' j = true → ordB ops k j = false → k < ops.size →  sameR (evalOp P (rho (renv R' env' k)) (base + k) o) (rval R' k) (rst R' τ' j) ∧ sameR (evalOp P (rho (renv R' env' k)) (base + k) o) (rval R' k) (rst R' τ' (j + 1)) := by
      intro r0 τ2 rs2 ls2 he hst hI2 hrun hk2 hrow
      have hlen2 : (Rw ++ [r0]).length = Rw.length + 1 := by simp
      obtain ⟨R', env', τ', ⟨S, hS, hSl⟩, h1, h2, h3, h4, h5⟩ := wpU_spec hC hs hq l _ τ2 (Rw ++ [r0]) rs2 ls2 (fun j o' hj => by rw [hlen2]; have := hl (j + 1) o' (by simpa using hj); rwa [show Rw.length + 1 + j = Rw.length + (j + 1) by omega])
        (by rw [hlen2]; simp at hlen; omega) (fun j hj ha => by
          rw [hlen2] at hj
          by_cases e : j = Rw.length
          · subst e
            have : ral (Rw ++ [r0]) Rw.length = (r0.k == 2) := by unfold ral; rw [row_new]
            exact ⟨o, hoi, hk2 (by rw [← this]; exact ha)⟩
          · have hlt : j < Rw.length := by omega
            rw [ral_old hlt] at ha
            exact hal j hlt ha) hI2 (by rw [hlen2]; exact hrun)
      have hR' : R' = Rw ++ r0 :: S := by rw [hS]; simp
      have hget : R'[Rw.length]? = some r0 := by rw [hR']; exact row_new
      have e1 : renv R' env' Rw.length = env := by unfold renv; rw [hget]; exact he
      have e2 : rst R' τ' Rw.length = τ := by unfold rst; rw [hget]; exact hst
      have e3 : rval R' Rw.length = r0.v := by unfold rval; rw [hget]
      have e4 : rlo R' Rw.length = (r0.k == 4) := by unfold rlo; rw [hget]
      have e5 : ral R' Rw.length = (r0.k == 2) := by unfold ral; rw [hget]
      have e6 : rao R' Rw.length = r0.ao := by unfold rao; rw [hget]
      rw [hlen2] at h2 h3 h4
      refine ⟨R', env', τ', ⟨r0 :: S, hR', by simp [hSl]⟩, h1, e1, e2, fun j o' hj => ?_, h5⟩
      cases j with
      | succ j =>
        have := h4 j o' (by simpa using hj)
        rw [show Rw.length + (j + 1) = Rw.length + 1 + j by omega]
        exact this
      | zero =>
        simp only [List.getElem?_cons_zero, Option.some.injEq] at hj
        subst hj
        simp only [Nat.add_zero]
        refine ⟨by rw [h2, e1, e3], hrow R' _ τ' ⟨S, hR'⟩ e1 e2 h3 e3 e6 e4 e5⟩
    simp only [wpU] at h
    have quiet : ∀ r0 : TRow, r0.env = env → r0.st = τ → (clsOf P o.op = .read → wantedA ops env o = true → False) → (r0.k == 4) = false → PInv P ops base (Rw ++ [r0]) (eputo env o.dst r0.v) τ rs ls := fun r0 he hst h3 h4 =>
      hI.step he hst hoi (fun x h => h) (fun x h => h) (fun h h' => (h3 h h').elim) (fun h => by rw [h4] at h; cases h)
    cases hw : wantedA ops env o with
    | true =>
      rw [hw] at h
      have h : onQ P gl C true (clsOf P o.op) (base + Rw.length) (evalOp P (rho env) (base + Rw.length) o) τ (pendL base B Rw) (fun v τ' pend' =>
      onCl (clsOf P o.op) (chkRead ops Rw.length (evalOp P (rho env) (base + Rw.length) o) v ls (wpU P gl C ops base l (Rw.length + 1) (eputo env o.dst v) τ' pend' ((Rw.length, evalOp P (rho env) (base + Rw.length) o, v) :: rs) ls Q))
        (chkLoud ops Rw.length τ τ' rs (wpU P gl C ops base l (Rw.length + 1) (eputo env o.dst v) τ' pend' rs ((Rw.length, τ, τ') :: ls) Q))
        (wpU P gl C ops base l (Rw.length + 1) (eputo env o.dst v) τ' pend' rs ls Q)) := h
      have loud : clsOf P o.op = .loud → ∀ v σ', StepR P gl (rho env) (base + Rw.length) o (instP (pendL base B Rw) τ) v σ' → chkLoud ops Rw.length τ σ' rs (wpU P gl C ops base l (Rw.length + 1) (eputo env o.dst v) σ' [] rs ((Rw.length, τ, σ') :: ls) Q) → _ := fun hcl v σ' hst hk => by
        have hall : ∀ k, k < Rw.length → ral Rw k = true → bit B Rw.length k = true := fun k hk2 ha => by
          obtain ⟨ok, h1, h2⟩ := hal k hk2 ha
          exact hq _ o hoi hcl k ok h1 h2 hk2
        obtain ⟨hch, hk⟩ := chkLoud_spec hk
        refine behind ⟨v, 4, .iter .empty 0, env, τ⟩ σ' rs ((Rw.length, τ, σ') :: ls) rfl rfl ?_ (by rw [pendL_loud rfl hall]; exact hk) (fun q => by cases q) fun R' e' τ' hS q1 q2 q3 q4 q5 q6 q7 => ?_
        · exact hI.step rfl rfl hoi (fun x h => h) (fun x h => List.mem_cons_of_mem _ h) (fun h => by rw [hcl] at h; cases h) (fun _ => ⟨List.mem_cons_self, fun k ev v hm ho => hch k ev v hm ho⟩)
        obtain ⟨S, hS⟩ := hS
        refine .inr (.inr (.inr (.inr ⟨by rw [q1]; exact hw, q6, q7, hcl, ?_⟩)))
        have hst : StepR P gl (rho env) (base + Rw.length) o ((pendL base B Rw).foldl (fun σ x => σ.set x.1 x.2) τ) v σ' := hst
        rw [pendL_inst] at hst
        refine ⟨rho env, fun x hx => by rw [q1], ?_⟩
        rw [q2, q3, q4]
        have e1 : instAt (rlo R') (ral R') B Rw.length = pendAt (rlo Rw) (ral Rw) B Rw.length := by
          rw [instAt_congr (lo' := rlo Rw) (al' := ral Rw) (fun j hj => by rw [hS]; exact rlo_old hj) (fun j hj => by rw [hS]; exact ral_old hj)]
          exact inst_pend hall
        rw [e1, instL_congr (ao' := rao Rw)]
        · exact hst
        · intro k hk2
          rw [hS]; exact rao_old (pendAt_lt hk2)
      cases hcl : clsOf P o.op with
      | pure =>
        rw [hcl, onQ_pure] at h
        cases he : evalOp P (rho env) (base + Rw.length) o τ with
        | none => rw [he] at h; exact h.elim
        | some q =>
          obtain ⟨v, e2, hp⟩ := evalOp_pure hcl he
          subst e2
          rw [he, onQ2_pure] at h
          refine behind ⟨v, 1, .iter .empty 0, env, τ⟩ τ rs ls rfl rfl (quiet _ rfl rfl (fun h => by rw [hcl] at h; cases h) rfl) (by rw [pendL_q (P := P) (ops := ops) hs rfl rfl]; exact h) (fun q => by cases q) fun R' e' τ' _ q1 q2 q3 q4 q5 q6 q7 => ?_
          exact .inr (.inl ⟨by rw [q1]; exact hw, q6, q7, by rw [q3, q2], by rw [q1, q4]; exact pureW_of hp⟩)
      | read =>
        rw [hcl, onQ_read] at h
        cases he : evalOp P (rho env) (base + Rw.length) o τ with
        | none => rw [he] at h; exact h.elim
        | some q =>
          obtain ⟨v, e2, hp⟩ := evalOp_read hcl he
          subst e2
          rw [he, onQ2_read] at h
          have h : chkRead ops Rw.length (evalOp P (rho env) (base + Rw.length) o) v ls (wpU P gl C ops base l (Rw.length + 1) (eputo env o.dst v) τ (pendL base B Rw) ((Rw.length, evalOp P (rho env) (base + Rw.length) o, v) :: rs) ls Q) := h
          obtain ⟨hch, h⟩ := chkRead_spec h
          refine behind ⟨v, 3, .iter .empty 0, env, τ⟩ τ _ _ rfl rfl ?_ (by rw [pendL_q (P := P) (ops := ops) hs rfl rfl]; exact h) (fun q => by cases q) fun R' e' τ' _ q1 q2 q3 q4 q5 q6 q7 => ?_
          · exact hI.step rfl rfl hoi (fun x h => List.mem_cons_of_mem _ h) (fun x h => h) (fun _ _ => ⟨List.mem_cons_self, rfl, fun j t t' hm hor => hch j t t' hm hor⟩) (fun h => by cases h)
          exact .inr (.inr (.inr (.inl ⟨by rw [q1]; exact hw, q6, q7, by rw [q3, q2], hcl, by rw [q1, q2, q4]; exact he⟩)))
      | alloc =>
        rw [hcl, onQ_alloc] at h
        cases he : evalOp P (rho env) (base + Rw.length) o τ with
        | none => rw [he] at h; exact h.elim
        | some q =>
          obtain ⟨v, ao, e2, hp⟩ := evalOp_alloc hcl he
          subst e2
          rw [he, onQ2_alloc, show (τ.set (base + Rw.length) ao).get (base + Rw.length) = some ao by simp, onObj_some] at h
          refine behind ⟨v, 2, ao, env, τ⟩ τ rs ls rfl rfl (quiet _ rfl rfl (fun h => by rw [hcl] at h; cases h) rfl) (by rw [pendL_a (P := P) (ops := ops) hs rfl]; exact h) (fun _ => hcl) fun R' e' τ' _ q1 q2 q3 q4 q5 q6 q7 => ?_
          exact .inr (.inr (.inl ⟨by rw [q1]; exact hw, q6, q7, by rw [q3, q2], by rw [q1, q4, q5]; exact allocW_of hp⟩))
      | loud =>
        rw [hcl, onQ_loud] at h
        cases he : evalOp P (rho env) (base + Rw.length) o (instP (pendL base B Rw) τ) with
        | none => rw [he] at h; exact h.elim
        | some q =>
          rw [he] at h
          cases q with
          | val v σ' => exact loud hcl v σ' (.inl he) h
          | enter f args =>
            rw [onQ2_enter] at h
            cases hc : C f args (instP (pendL base B Rw) τ) with
            | some p => obtain ⟨v, σ'⟩ := p; rw [hc] at h; exact loud hcl v σ' (.inr (.inl ⟨f, args, he, hC _ _ _ _ _ hc⟩)) h
            | none =>
              rw [hc] at h
              obtain ⟨v, σ', hsim, h2⟩ := h
              exact loud hcl v σ' (.inr (.inl ⟨f, args, he, hsim⟩)) h2
    | false =>
      rw [hw] at h
      refine behind ⟨undef, 0, .iter .empty 0, env, τ⟩ τ rs ls rfl rfl (quiet _ rfl rfl (fun _ h => by rw [hw] at h; cases h) rfl) (by rw [pendL_q (P := P) (ops := ops) hs rfl rfl]; exact h) (fun q => by cases q) fun R' e' τ' _ q1 q2 q3 q4 q5 q6 q7 => ?_
      exact .inl ⟨by rw [q1]; exact hw, q4, q6, q7, by rw [q3, q2]⟩

theorem lt_of_get {i : Nat} {o : Oper} (ho : ops[i]? = some o) : i < ops.size := by
  rcases Nat.lt_or_ge i ops.size with q | q
  · exact q
  · rw [Array.getElem?_eq_none q] at ho; cases ho
theorem wpU_ok (hC : C.ok P gl) (hm : P.follows .mixedOrders = true) {id : Nat} (hQ : okU P ops (befores ops) = true) (hok : ∀ o ∈ ops.toList, okOper gl N o = true ∧ okGuard ops N o = true)
    {env : Env} {σ : St} {Q : Env → St → Prop} (h : wpU P gl C ops σ.next ops.toList 0 env (σ.bump ops.size) [] [] [] Q) :
    ∃ env' σ', SimC P gl N (.region id ops true) env σ .normal env' σ' ∧ Q env' σ' := by
  obtain ⟨hdr, hq⟩ := okU_spec hQ
  have hs := okDraw_ok hdr
  obtain ⟨R', env', τ', ⟨S, hS, hSl⟩, h1, h2, h3, h4, h5⟩ := wpU_spec (base := σ.next) (B := befores ops) hC hs hq ops.toList env (σ.bump ops.size) [] [] [] (fun j o hj => by simpa using hj) (by simp) (fun j hj => by simp at hj) ⟨fun k o hk => by simp at hk, fun k hk => by simp at hk, fun k j o hk => by simp at hk⟩ h
  simp only [List.nil_append] at hS
  subst hS
  simp only [Array.length_toList] at hSl
  simp only [List.length_nil, Nat.zero_add] at h2 h3 h4
  have hlast1 : renv R' env' ops.size = env' := by unfold renv; rw [List.getElem?_eq_none (by omega)]
  have hlast2 : rst R' τ' ops.size = τ' := by unfold rst; rw [List.getElem?_eq_none (by omega)]
  have ht : Trc P gl ops σ.next (befores ops) (renv R' env') (rst R' τ') (rval R') (rao R') (rlo R') (ral R') := by
    refine ⟨fun i o ho => (h4 i o (by simpa using ho)).1, fun i o ho => ?_, fun i hi => ?_, fun i hi => ?_⟩
    · rcases (h4 i o (by simpa using ho)).2 with q | q | q | q | q
      · exact .inl q
      · exact .inr (.inl q)
      · exact .inr (.inr (.inl q))
      · obtain ⟨k1, k2, k3, k4, k5, k6⟩ := q
        refine .inr (.inr (.inr (.inl ⟨k1, k2, k3, k4, k5, k6, fun j hj hl b1 b2 => ?_⟩)))
        exact h5 i j o ho k5 k1 hl (by unfold ordB; rw [b1, b2]; rfl) (lt_of_get ho)
      · exact .inr (.inr (.inr (.inr ⟨q.1, q.2.1, q.2.2.1, q.2.2.2.2⟩)))
    · have hin : i < ops.size := by
        rcases Nat.lt_or_ge i ops.size with q | q
        · exact q
        · unfold rlo at hi; rw [List.getElem?_eq_none (by omega)] at hi; cases hi
      refine ⟨ops[i], Array.getElem?_eq_getElem hin, ?_⟩
      rcases (h4 i ops[i] (by simp [hin])).2 with q | q | q | q | q
      · rw [hi] at q; cases q.2.2.1
      · rw [hi] at q; cases q.2.1
      · rw [hi] at q; cases q.2.1
      · rw [hi] at q; cases q.2.1
      · exact q.2.2.2.1
    · rcases Nat.lt_or_ge i ops.size with q | q
      · exact q
      · unfold ral at hi; rw [List.getElem?_eq_none (by omega)] at hi; cases hi
  have := simC_draw (id := id) hm hs ht h2 h3 hok
  rw [hlast1, hlast2] at this
  exact ⟨env', _, this, h1⟩
end

/-! ## Code -/
/-- A loop comes to something that Q takes. -/
def TLoop (P : Program) (gl : List Nat) (N : Nat) (body : Code) (env : Env) (σ : St) (Q : Ex → Env → St → Prop) : Prop :=
  ∃ n ex env' σ', SimR P gl N body n env σ ex env' σ' ∧ Q ex env' σ'
def onCond (c : Value) (A B : Prop) : Prop := match c with
  | .bool true => A
  | .bool false => B
  | _ => False
theorem onCond_true {A B : Prop} : onCond (.bool true) A B = A := rfl
theorem onCond_false {A B : Prop} : onCond (.bool false) A B = B := rfl
@[congr] theorem onCond_congr {c c' : Value} {A B : Prop} (h : c = c') : onCond c A B = onCond c' A B := by rw [h]
def wpC (P : Program) (gl : List Nat) (N : Nat) (C : CallF) : Code → Env → St → (Ex → Env → St → Prop) → Prop
  | .skip, env, σ, Q => Q .normal env σ
  | .label _, env, σ, Q => Q .normal env σ
  | .ret, env, σ, Q => Q .ret env σ
  | .exit id, env, σ, Q => Q (.exit id) env σ
  | .region _ ops false, env, σ, Q => wpO P gl C ops σ.next ops.toList 0 env (σ.bump ops.size) (Q .normal)
  | .region _ ops true, env, σ, Q => bif okQ P ops (befores ops) then wpQ P gl C ops σ.next ops.toList 0 env (σ.bump ops.size) [] (Q .normal) else wpU P gl C ops σ.next ops.toList 0 env (σ.bump ops.size) [] [] [] (Q .normal)
  | .seq a b, env, σ, Q => wpC P gl N C a env σ fun ex env σ => match ex with
    | .normal => wpC P gl N C b env σ Q
    | .exit id => Q (.exit id) env σ
    | .ret => Q .ret env σ
  | .cond c a b, env, σ, Q => onCond (rho env c) (wpC P gl N C a env σ Q) (wpC P gl N C b env σ Q)
  | .block id body, env, σ, Q => wpC P gl N C body env σ fun ex env σ => match ex with
    | .normal => Q .normal env σ
    | .exit id' => if id' = id then Q .normal env σ else Q (.exit id') env σ
    | .ret => Q .ret env σ
  | .loop body, env, σ, Q => TLoop P gl N body env σ Q
  | .scope body, env, σ, Q => wpC P gl N C body env σ Q
  | _, _, _, _ => False
@[congr] theorem wpC_congr {P : Program} {gl : List Nat} {N : Nat} {C : CallF} {c : Code} {env env' : Env} {σ σ' : St} {Q : Ex → Env → St → Prop} (h1 : env = env') (h2 : σ = σ') : wpC P gl N C c env σ Q = wpC P gl N C c env' σ' Q := by rw [h1, h2]
@[congr] theorem TLoop_congr {P : Program} {gl : List Nat} {N : Nat} {c : Code} {env env' : Env} {σ σ' : St} {Q : Ex → Env → St → Prop} (h1 : env = env') (h2 : σ = σ') : TLoop P gl N c env σ Q = TLoop P gl N c env' σ' Q := by rw [h1, h2]
/-- What is asked of code by sight. -/
def okC (P : Program) (gl : List Nat) (N : Nat) : Code → Bool
  | .region _ ops dr => ops.toList.all (fun o => okOper gl N o && okGuard ops N o) && (!dr || okU P ops (befores ops))
  | .seq a b => okC P gl N a && okC P gl N b
  | .cond c a b => okOperand gl c && okC P gl N a && okC P gl N b
  | .block _ c => okC P gl N c
  | .loop c => okC P gl N c
  | .scope c => okC P gl N c
  | .rangeFunc .. => false
  | .goto _ => false
  | .refuse _ => false
  | _ => true

section
variable {P : Program} {gl : List Nat} {N : Nat} {C : CallF}
theorem wpC_ok (hC : C.ok P gl) (hm : P.follows .mixedOrders = true) : ∀ (c : Code) (env : Env) (σ : St) (Q : Ex → Env → St → Prop), okC P gl N c = true → wpC P gl N C c env σ Q → ∃ ex env' σ', SimC P gl N c env σ ex env' σ' ∧ Q ex env' σ' := by
  have triv : ∀ {c : Code} {ex : Ex} {env : Env} {σ : St}, (∀ (Q : Exit → Act → World → Prop) a w, Q ex.to a w → c.wp P Q a w) → SimC P gl N c env σ ex env σ := fun k Ds g w a hg hr he => k _ a w ⟨rfl, g, hr, he, Ext.refl _ _ _ _⟩
  intro c
  induction c with
  | skip => intro env σ Q _ h; exact ⟨.normal, env, σ, triv fun Q a w h => wp_skip h, h⟩
  | label l => intro env σ Q _ h; exact ⟨.normal, env, σ, triv fun Q a w h => wp_label h, h⟩
  | ret => intro env σ Q _ h; exact ⟨.ret, env, σ, triv fun Q a w h => wp_ret h, h⟩
  | exit id => intro env σ Q _ h; exact ⟨.exit id, env, σ, triv fun Q a w h => wp_exit h, h⟩
  | region id ops dr =>
    intro env σ Q hok h
    simp only [okC, Bool.and_eq_true, List.all_eq_true, Bool.or_eq_true, Bool.not_eq_true'] at hok
    cases dr with
    | false =>
      obtain ⟨e, s, h1, h2⟩ := wpO_ok (N := N) (id := id) hC hok.1 h
      exact ⟨.normal, e, s, h1, h2⟩
    | true =>
      have hU := hok.2.resolve_left (by simp)
      have h : (bif okQ P ops (befores ops) then wpQ P gl C ops σ.next ops.toList 0 env (σ.bump ops.size) [] (Q .normal) else wpU P gl C ops σ.next ops.toList 0 env (σ.bump ops.size) [] [] [] (Q .normal)) := h
      cases hq : okQ P ops (befores ops) with
      | true =>
        rw [hq] at h
        obtain ⟨e, s, h1, h2⟩ := wpQ_ok (N := N) (id := id) hC hm hq hok.1 h
        exact ⟨.normal, e, s, h1, h2⟩
      | false =>
        rw [hq] at h
        obtain ⟨e, s, h1, h2⟩ := wpU_ok (N := N) (id := id) hC hm hU hok.1 h
        exact ⟨.normal, e, s, h1, h2⟩
  | seq a b iha ihb =>
    intro env σ Q hok h
    simp only [okC, Bool.and_eq_true] at hok
    obtain ⟨ex, e1, s1, h1, h2⟩ := iha env σ _ hok.1 h
    cases ex with
    | normal =>
      obtain ⟨ex, e2, s2, h3, h4⟩ := ihb e1 s1 Q hok.2 h2
      exact ⟨ex, e2, s2, .seq h1 h3, h4⟩
    | exit id => exact ⟨_, e1, s1, .seq_out h1 (by simp), h2⟩
    | ret => exact ⟨_, e1, s1, .seq_out h1 (by simp), h2⟩
  | cond c a b iha ihb =>
    intro env σ Q hok h
    simp only [okC, Bool.and_eq_true] at hok
    simp only [wpC] at h
    unfold onCond at h
    split at h
    · rename_i ht
      obtain ⟨ex, e2, s2, h3, h4⟩ := iha env σ Q hok.1.2 h
      exact ⟨ex, e2, s2, .cond hok.1.1 ht h3, h4⟩
    · rename_i ht
      obtain ⟨ex, e2, s2, h3, h4⟩ := ihb env σ Q hok.2 h
      exact ⟨ex, e2, s2, .cond hok.1.1 ht h3, h4⟩
    · exact h.elim
  | block id c ih =>
    intro env σ Q hok h
    obtain ⟨ex, e1, s1, h1, h2⟩ := ih env σ _ hok h
    have := SimC.block (id := id) h1
    cases ex with
    | normal => exact ⟨.normal, e1, s1, this, h2⟩
    | ret => exact ⟨.ret, e1, s1, this, h2⟩
    | exit id' =>
      simp only at this h2
      by_cases e : id' = id
      · rw [if_pos e] at this h2; exact ⟨_, e1, s1, this, h2⟩
      · rw [if_neg e] at this h2; exact ⟨_, e1, s1, this, h2⟩
  | loop c ih =>
    intro env σ Q _ h
    obtain ⟨n, ex, e1, s1, h1, h2⟩ := h
    exact ⟨ex, e1, s1, .loop h1, h2⟩
  | scope c ih =>
    intro env σ Q hok h
    obtain ⟨ex, e1, s1, h1, h2⟩ := ih env σ Q hok h
    exact ⟨ex, e1, s1, .scope h1, h2⟩
  | rangeFunc f ps as b _ _ => intro env σ Q hok h; cases hok
  | goto l => intro env σ Q hok h; cases hok
  | refuse why => intro env σ Q hok h; cases hok

/-- A loop, by what stands at its head. -/
theorem TLoop.ind (hC : C.ok P gl) (hm : P.follows .mixedOrders = true) {body : Code} (hok : okC P gl N body = true) {Q : Ex → Env → St → Prop} (I : Nat → Env → St → Prop) {n : Nat} {env : Env} {σ : St} (h0 : I n env σ)
    (step : ∀ k env σ, I k env σ → wpC P gl N C body env σ fun ex env' σ' => match ex with
      | .normal => ∃ k', k' < k ∧ I k' env' σ'
      | .exit id => Q (.exit id) env' σ'
      | .ret => Q .ret env' σ') : TLoop P gl N body env σ Q := by
  induction n using Nat.strongRecOn generalizing env σ with
  | _ n ih =>
    obtain ⟨ex, e1, s1, h1, h2⟩ := wpC_ok (N := N) hC hm body env σ _ hok (step n env σ h0)
    cases ex with
    | normal =>
      obtain ⟨k', hk, hI⟩ := h2
      obtain ⟨m, ex, e2, s2, h3, h4⟩ := ih k' hk hI
      exact ⟨m + 1, ex, e2, s2, .more h1 h3, h4⟩
    | exit id => exact ⟨1, _, e1, s1, .last h1 (by simp), h2⟩
    | ret => exact ⟨1, _, e1, s1, .last h1 (by simp), h2⟩

/-- A function, by its body. -/
theorem TF.body (hC : C.ok P gl) (hm : P.follows .mixedOrders = true) {f : FuncId} {fn : Func} {c : Code} {args : Array Value} {σ : St} {Q : Value → St → Prop} (hf : P.funcs[f]? = some fn) (hb : fn.body = some c) (hok : okC P gl fn.ntmps c = true) (hsz : args.size ≤ fn.ntmps)
    (h : wpC P gl fn.ntmps C c (initEnv args.toList 0 .nil) σ fun ex env' σ' => match ex with
      | .exit _ => False
      | _ => match resVals P env' σ' fn.results.toList with
        | some l => Q (packed l) σ'
        | none => False) : TF P gl f args σ Q := by
  obtain ⟨ex, env', σ', hsim, hq⟩ := wpC_ok (N := fn.ntmps) hC hm c _ _ _ hok h
  have fin : (ex = .normal ∨ ex = .ret) → (match resVals P env' σ' fn.results.toList with
        | some l => Q (packed l) σ'
        | none => False) → TF P gl f args σ Q := by
    intro hex hq
    cases hrv : resVals P env' σ' fn.results.toList with
    | none => rw [hrv] at hq; exact hq.elim
    | some l =>
      rw [hrv] at hq
      refine ⟨packed l, σ', fun g w args' hg hr ha => ?_, hq⟩
      refine calls_of_wp hf hb (wp_mono (hsim [] g w _ hg hr (initEnv_rel ha hsz)) ?_)
      rintro e a' w' ⟨rfl, g', r1, r2, r3⟩
      obtain ⟨v', hrun, hrel⟩ := packed_results (P := P) r2 r1 hrv
      rcases hex with rfl | rfl
      · exact ⟨r2.defers, _, hrun, v', g', rfl, hrel, r1, r3⟩
      · exact ⟨r2.defers, _, hrun, v', g', rfl, hrel, r1, r3⟩
  cases ex with
  | normal => exact fin (.inl rfl) hq
  | ret => exact fin (.inr rfl) hq
  | exit id => exact hq.elim
end
end Go.Ev

namespace Go.Ev
open Go
set_option linter.unusedVariables false
set_option linter.unusedSimpArgs false

theorem pureRun_bind {α β : Type} {P : Program} (m : Sem α) (f : α → Sem β) : pureRun P (m >>= f) = (pureRun P m).bind fun a => pureRun P (f a) := by
  show pureRun P (Sem.bind m f) = _
  induction m with
  | pure a => rfl
  | program k ih => exact ih P
  | mark m k ih => exact ih
  | _ => rfl
@[simp] theorem pureRun_pure {α : Type} {P : Program} (a : α) : pureRun P (pure a : Sem α) = some a := rfl
theorem pureRun_underlying {P : Program} {t : TypeId} {d : TypeDesc} (h : P.underlying t = some d) : pureRun P (underlying t) = some d := by
  simp [underlying, pureRun_bind, program, pureRun, h]

/-- A plain operation on two values. -/
def sBin (P : Program) (op : BinOp) (t : TypeId) (x y : Operand) (a b : Value) (σ : St) : Option ARes :=
  if flatV a && flatV b then match pureRun P (do eqGuard op t x y a b; binOp op t a b) with
    | some v => if flatV v then some (.val v σ) else none
    | none => none
  else none
theorem evalFlat_bin {P : Program} {ρ : Operand → Value} {op : BinOp} {t yt : TypeId} {x y : Operand} {d : Option Nat} {ty : TypeId} {pos : String} {af : Array Edge} {gd : Option (Nat × Bool)} {σ : St} :
    evalFlat P ρ { dst := d, op := .binOp op t x y yt, type := ty, pos := pos, after := af, guard := gd } σ = sBin P op t x y (ρ x) (ρ y) σ := by
  unfold evalFlat sBin
  have h1 : flatOps ρ (.binOp op t x y yt) = (flatV (ρ x) && flatV (ρ y)) := by simp [flatOps, Op.operands]
  have h2 : execOp ρ { dst := d, op := .binOp op t x y yt, type := ty, pos := pos, after := af, guard := gd } = (do let v ← (do eqGuard op t x y (ρ x) (ρ y); binOp op t (ρ x) (ρ y)); pure (.value v)) := rfl
  simp only [h1, h2, isSelect, Bool.not_false, Bool.and_true, pureRun_bind]
  cases pureRun P (eqGuard op t x y (ρ x) (ρ y)) with
  | none => rfl
  | some u =>
    simp only [Option.bind_some]
    cases pureRun P (binOp op t (ρ x) (ρ y)) <;> rfl

section
variable {P : Program} {t : TypeId} {x y : Operand} {σ : St} {k : IntKind} {a b : Int}
theorem sBin_of {op : BinOp} {v v1 v2 : Value} (h1 : flatV v1 = true) (h2 : flatV v2 = true) (hg : pureRun P (eqGuard op t x y v1 v2) = some ()) (hb : pureRun P (binOp op t v1 v2) = some v) (hv : flatV v = true) : sBin P op t x y v1 v2 σ = some (.val v σ) := by
  unfold sBin; rw [if_pos (by simp [h1, h2])]
  simp only [pureRun_bind, hg, Option.bind_some, hb, hv, if_true]
theorem guard_int {op : BinOp} {k k' : IntKind} : pureRun P (eqGuard op t x y (.int k a) (.int k' b)) = some () := by cases op <;> rfl
theorem guard_string {op : BinOp} {a b : ByteArray} : pureRun P (eqGuard op t x y (.string a) (.string b)) = some () := by cases op <;> rfl
theorem guard_bool {op : BinOp} {a b : Bool} : pureRun P (eqGuard op t x y (.bool a) (.bool b)) = some () := by cases op <;> rfl
theorem sBin_add : sBin P .add t x y (.int k a) (.int k b) σ = some (.val (.int k (k.wrap (a + b))) σ) := sBin_of rfl rfl guard_int (by simp [binOp, Op.intArith]) rfl
theorem sBin_sub : sBin P .sub t x y (.int k a) (.int k b) σ = some (.val (.int k (k.wrap (a - b))) σ) := sBin_of rfl rfl guard_int (by simp [binOp, Op.intArith]) rfl
theorem sBin_mul : sBin P .mul t x y (.int k a) (.int k b) σ = some (.val (.int k (k.wrap (a * b))) σ) := sBin_of rfl rfl guard_int (by simp [binOp, Op.intArith]) rfl
theorem sBin_quo (h : b ≠ 0) : sBin P .quo t x y (.int k a) (.int k b) σ = some (.val (.int k (k.wrap (a.tdiv b))) σ) := sBin_of rfl rfl guard_int (by simp [binOp, Op.intDiv, h]) rfl
theorem sBin_rem (h : b ≠ 0) : sBin P .rem t x y (.int k a) (.int k b) σ = some (.val (.int k (a.tmod b)) σ) := sBin_of rfl rfl guard_int (by simp [binOp, Op.intDiv, h]) rfl
theorem sBin_lss : sBin P .lss t x y (.int k a) (.int k b) σ = some (.val (.bool (decide (a < b))) σ) := sBin_of rfl rfl guard_int (by simp [binOp, Op.intCmp]) rfl
theorem sBin_leq : sBin P .leq t x y (.int k a) (.int k b) σ = some (.val (.bool (decide (a ≤ b))) σ) := sBin_of rfl rfl guard_int (by simp [binOp, Op.intCmp]) rfl
theorem sBin_gtr : sBin P .gtr t x y (.int k a) (.int k b) σ = some (.val (.bool (decide (b < a))) σ) := sBin_of rfl rfl guard_int (by simp [binOp, Op.intCmp]) rfl
theorem sBin_geq : sBin P .geq t x y (.int k a) (.int k b) σ = some (.val (.bool (decide (b ≤ a))) σ) := sBin_of rfl rfl guard_int (by simp [binOp, Op.intCmp]) rfl
theorem sBin_eql : sBin P .eql t x y (.int k a) (.int k b) σ = some (.val (.bool (decide (a = b))) σ) := sBin_of rfl rfl guard_int (by simp [binOp, Op.intCmp, int_beq]) rfl
theorem sBin_neq : sBin P .neq t x y (.int k a) (.int k b) σ = some (.val (.bool (!decide (a = b))) σ) := sBin_of rfl rfl guard_int (by simp [binOp, Op.intCmp, int_beq, bne]) rfl
theorem sBin_shl {k' : IntKind} {n : Nat} (h : n ≤ k.bits) : sBin P .shl t x y (.int k a) (.int k' (n : Int)) σ = some (.val (.int k (k.wrap (a * 2 ^ n))) σ) :=
  sBin_of rfl rfl guard_int (by have : ¬ ((n : Int) < 0) := by omega
                                have h2 : min ((n : Int).toNat) k.bits = n := by simp; omega
                                simp only [binOp, Op.shift, if_neg this, h2]; rfl) rfl
theorem sBin_shr {k' : IntKind} {n : Nat} (h : n ≤ k.bits) : sBin P .shr t x y (.int k a) (.int k' (n : Int)) σ = some (.val (.int k (a.fdiv (2 ^ n))) σ) :=
  sBin_of rfl rfl guard_int (by have : ¬ ((n : Int) < 0) := by omega
                                have h2 : min ((n : Int).toNat) k.bits = n := by simp; omega
                                simp only [binOp, Op.shift, if_neg this, h2]; rfl) rfl
theorem binOp_bits {op : BinOp} (h : op = .and ∨ op = .or ∨ op = .xor) : binOp op t (.int k a) (.int k b) = Op.intBits op k a b := by
  rcases h with rfl | rfl | rfl <;> simp [binOp]
theorem sBin_and : sBin P .and t x y (.int k a) (.int k b) σ = some (.val (.int k (k.wrap (BitVec.ofInt k.bits a &&& BitVec.ofInt k.bits b).toNat)) σ) := sBin_of rfl rfl guard_int (by rw [binOp_bits (.inl rfl)]; rfl) rfl
theorem sBin_or : sBin P .or t x y (.int k a) (.int k b) σ = some (.val (.int k (k.wrap (BitVec.ofInt k.bits a ||| BitVec.ofInt k.bits b).toNat)) σ) := sBin_of rfl rfl guard_int (by rw [binOp_bits (.inr (.inl rfl))]; rfl) rfl
theorem sBin_xor : sBin P .xor t x y (.int k a) (.int k b) σ = some (.val (.int k (k.wrap (BitVec.ofInt k.bits a ^^^ BitVec.ofInt k.bits b).toNat)) σ) := sBin_of rfl rfl guard_int (by rw [binOp_bits (.inr (.inr rfl))]; rfl) rfl
theorem sBin_eqlS {a b : ByteArray} : sBin P .eql t x y (.string a) (.string b) σ = some (.val (.bool (a.toList == b.toList)) σ) := sBin_of rfl rfl guard_string (by simp [binOp, Op.stringOp]) rfl
theorem sBin_neqS {a b : ByteArray} : sBin P .neq t x y (.string a) (.string b) σ = some (.val (.bool (!(a.toList == b.toList))) σ) := sBin_of rfl rfl guard_string (by simp [binOp, Op.stringOp]) rfl
theorem sBin_addS {a b : ByteArray} (h : a.size + b.size ≤ 9223372036854775807) : sBin P .add t x y (.string a) (.string b) σ = some (.val (.string (a ++ b)) σ) := sBin_of rfl rfl guard_string (by
  have : ¬ (((a.size + b.size : Nat) : Int) > IntKind.i64.max) := by
    have e : IntKind.i64.max = 9223372036854775807 := by decide
    rw [e]; omega
  simp only [binOp, Op.stringOp, if_neg this]; rfl) rfl
theorem equal_bool {a b : Bool} (h : P.underlying t = some .bool) : pureRun P (Op.equal t (.bool a) (.bool b)) = some (a == b) := by
  have e : Op.equal t (.bool a) (.bool b) = Op.equalIn (9999 + 1) t (.bool a) (.bool b) := rfl
  rw [e, Op.equalIn, pureRun_bind, pureRun_underlying h]
  rfl
theorem sBin_eqlB {a b : Bool} (h : P.underlying t = some .bool) : sBin P .eql t x y (.bool a) (.bool b) σ = some (.val (.bool (a == b)) σ) := sBin_of rfl rfl guard_bool (by
  have e : binOp .eql t (.bool a) (.bool b) = (do pure (.bool (← Op.equal t (.bool a) (.bool b)))) := rfl
  rw [e, pureRun_bind, equal_bool h]; rfl) rfl
theorem sBin_neqB {a b : Bool} (h : P.underlying t = some .bool) : sBin P .neq t x y (.bool a) (.bool b) σ = some (.val (.bool (!(a == b))) σ) := sBin_of rfl rfl guard_bool (by
  have e : binOp .neq t (.bool a) (.bool b) = (do pure (.bool (!(← Op.equal t (.bool a) (.bool b))))) := rfl
  rw [e, pureRun_bind, equal_bool h]; rfl) rfl
end

/-! ## Numbers that are not negative -/
theorem wrap_nat (k : IntKind) (n : Nat) (h : n < limN (codeOf k)) : k.wrap (n : Int) = (n : Int) := by
  have := wrap_small (codeOf k) n h
  rw [kindOf_codeOf] at this
  exact this
theorem add_i64 (a b : Nat) (h : a + b < 9223372036854775808) : IntKind.i64.wrap ((a : Int) + (b : Int)) = ((a + b : Nat) : Int) := by
  rw [← Int.natCast_add]; exact wrap_nat .i64 _ h
theorem sub_i64 (a b : Nat) (h1 : b ≤ a) (h : a < 9223372036854775808) : IntKind.i64.wrap ((a : Int) - (b : Int)) = ((a - b : Nat) : Int) := by
  rw [← Int.ofNat_sub h1]; exact wrap_nat .i64 _ (show a - b < 9223372036854775808 by omega)
theorem mul_i64 (a b : Nat) (h : a * b < 9223372036854775808) : IntKind.i64.wrap ((a : Int) * (b : Int)) = ((a * b : Nat) : Int) := by
  rw [← Int.natCast_mul]; exact wrap_nat .i64 _ h
theorem fdiv_nat (a n : Nat) : ((a : Int).fdiv (2 ^ n)) = ((a / 2 ^ n : Nat) : Int) := by
  rw [Int.fdiv_eq_ediv_of_nonneg _ (by exact Int.le_of_lt (Int.pow_pos (by decide)))]
  norm_cast
theorem ofInt_nat (k : IntKind) (m : Nat) (h : m < limN (codeOf k)) : (BitVec.ofInt k.bits (m : Int)).toNat = m := by
  obtain ⟨p, hp, hpb⟩ := limN_pow (codeOf k)
  rw [kindOf_codeOf] at hpb
  have hle : 2 ^ p ≤ 2 ^ k.bits := Nat.pow_le_pow_right (by decide) hpb
  simp only [BitVec.ofInt_natCast, BitVec.toNat_ofNat]
  exact Nat.mod_eq_of_lt (by omega)
theorem and_nat (k : IntKind) (m n : Nat) (hm : m < limN (codeOf k)) (hn : n < limN (codeOf k)) : k.wrap ((BitVec.ofInt k.bits (m : Int) &&& BitVec.ofInt k.bits (n : Int)).toNat : Int) = ((m &&& n : Nat) : Int) := by
  rw [BitVec.toNat_and, ofInt_nat k m hm, ofInt_nat k n hn]
  exact wrap_nat k _ (Nat.lt_of_le_of_lt Nat.and_le_left hm)
theorem xor_nat (k : IntKind) (m n : Nat) (hm : m < limN (codeOf k)) (hn : n < limN (codeOf k)) : k.wrap ((BitVec.ofInt k.bits (m : Int) ^^^ BitVec.ofInt k.bits (n : Int)).toNat : Int) = ((m ^^^ n : Nat) : Int) := by
  rw [BitVec.toNat_xor, ofInt_nat k m hm, ofInt_nat k n hn]
  obtain ⟨p, hp, _⟩ := limN_pow (codeOf k)
  exact wrap_nat k _ (by rw [hp] at hm hn ⊢; exact Nat.xor_lt_two_pow hm hn)
theorem or_nat (k : IntKind) (m n : Nat) (hm : m < limN (codeOf k)) (hn : n < limN (codeOf k)) : k.wrap ((BitVec.ofInt k.bits (m : Int) ||| BitVec.ofInt k.bits (n : Int)).toNat : Int) = ((m ||| n : Nat) : Int) := by
  rw [BitVec.toNat_or, ofInt_nat k m hm, ofInt_nat k n hn]
  obtain ⟨p, hp, _⟩ := limN_pow (codeOf k)
  exact wrap_nat k _ (by rw [hp] at hm hn ⊢; exact Nat.or_lt_two_pow hm hn)

/-! ## Numbers, by kind -/
theorem wrap_i64 {a : Int} (h0 : -9223372036854775808 ≤ a) (h1 : a < 9223372036854775808) : IntKind.i64.wrap a = a := by
  simp only [IntKind.wrap, IntKind.bits, IntKind.signed]
  simp
  split <;> omega
theorem wrap_u8 {a : Int} (h0 : 0 ≤ a) (h1 : a < 256) : IntKind.u8.wrap a = a := by
  simp only [IntKind.wrap, IntKind.bits, IntKind.signed]
  simp; omega
theorem wrap_u8b (a : Int) : IntKind.u8.wrap a = a % 256 := by
  simp only [IntKind.wrap, IntKind.bits, IntKind.signed]
  simp
theorem wrap_u16 {a : Int} (h0 : 0 ≤ a) (h1 : a < 65536) : IntKind.u16.wrap a = a := by
  simp only [IntKind.wrap, IntKind.bits, IntKind.signed]
  simp; omega
theorem wrap_u32 {a : Int} (h0 : 0 ≤ a) (h1 : a < 4294967296) : IntKind.u32.wrap a = a := by
  simp only [IntKind.wrap, IntKind.bits, IntKind.signed]
  simp; omega
theorem wrap_u32b (a : Int) : IntKind.u32.wrap a = a % 4294967296 := by
  simp only [IntKind.wrap, IntKind.bits, IntKind.signed]
  simp
theorem wrap_u64 {a : Int} (h0 : 0 ≤ a) (h1 : a < 18446744073709551616) : IntKind.u64.wrap a = a := by
  simp only [IntKind.wrap, IntKind.bits, IntKind.signed]
  simp; omega
theorem wrap_u64b (a : Int) : IntKind.u64.wrap a = a % 18446744073709551616 := by
  simp only [IntKind.wrap, IntKind.bits, IntKind.signed]
  simp
theorem wrap_i32 {a : Int} (h0 : -2147483648 ≤ a) (h1 : a < 2147483648) : IntKind.i32.wrap a = a := by
  simp only [IntKind.wrap, IntKind.bits, IntKind.signed]
  simp
  split <;> omega
section
variable {P : Program} {t : TypeId} {x y : Operand} {σ : St} {k k' : IntKind} {a b m : Int}
theorem sBin_shr' (h0 : 0 ≤ m) (h : m ≤ 8) : sBin P .shr t x y (.int k a) (.int k' m) σ = some (.val (.int k (a.fdiv (2 ^ m.toNat))) σ) := by
  have := sBin_shr (P := P) (t := t) (x := x) (y := y) (σ := σ) (k := k) (k' := k') (a := a) (n := m.toNat) (by cases k <;> simp [IntKind.bits] <;> omega)
  rwa [Int.toNat_of_nonneg h0] at this
theorem sBin_shr64 (h0 : 0 ≤ m) (h : m ≤ 64) : sBin P .shr t x y (.int .i64 a) (.int k' m) σ = some (.val (.int .i64 (a.fdiv (2 ^ m.toNat))) σ) := by
  have := sBin_shr (P := P) (t := t) (x := x) (y := y) (σ := σ) (k := .i64) (k' := k') (a := a) (n := m.toNat) (by simp [IntKind.bits]; omega)
  rwa [Int.toNat_of_nonneg h0] at this
theorem sBin_shr32 (h0 : 0 ≤ m) (h : m ≤ 32) : sBin P .shr t x y (.int .u32 a) (.int k' m) σ = some (.val (.int .u32 (a.fdiv (2 ^ m.toNat))) σ) := by
  have := sBin_shr (P := P) (t := t) (x := x) (y := y) (σ := σ) (k := .u32) (k' := k') (a := a) (n := m.toNat) (by simp [IntKind.bits]; omega)
  rwa [Int.toNat_of_nonneg h0] at this
theorem sBin_shl' (h0 : 0 ≤ m) (h : m ≤ 8) : sBin P .shl t x y (.int k a) (.int k' m) σ = some (.val (.int k (k.wrap (a * 2 ^ m.toNat))) σ) := by
  have := sBin_shl (P := P) (t := t) (x := x) (y := y) (σ := σ) (k := k) (k' := k') (a := a) (n := m.toNat) (by cases k <;> simp [IntKind.bits] <;> omega)
  rwa [Int.toNat_of_nonneg h0] at this
theorem sBin_and_u8 (h0 : 0 ≤ a) (h1 : a < 256) (h2 : 0 ≤ b) (h3 : b < 256) : sBin P .and t x y (.int .u8 a) (.int .u8 b) σ = some (.val (.int .u8 ((a.toNat &&& b.toNat : Nat) : Int)) σ) := by
  have := and_nat .u8 a.toNat b.toNat (show a.toNat < 256 by omega) (show b.toNat < 256 by omega)
  rw [Int.toNat_of_nonneg h0, Int.toNat_of_nonneg h2] at this
  rw [sBin_and, this]
theorem sBin_or_u8 (h0 : 0 ≤ a) (h1 : a < 256) (h2 : 0 ≤ b) (h3 : b < 256) : sBin P .or t x y (.int .u8 a) (.int .u8 b) σ = some (.val (.int .u8 ((a.toNat ||| b.toNat : Nat) : Int)) σ) := by
  have := or_nat .u8 a.toNat b.toNat (show a.toNat < 256 by omega) (show b.toNat < 256 by omega)
  rw [Int.toNat_of_nonneg h0, Int.toNat_of_nonneg h2] at this
  rw [sBin_or, this]
theorem sBin_xor_u8 (h0 : 0 ≤ a) (h1 : a < 256) (h2 : 0 ≤ b) (h3 : b < 256) : sBin P .xor t x y (.int .u8 a) (.int .u8 b) σ = some (.val (.int .u8 ((a.toNat ^^^ b.toNat : Nat) : Int)) σ) := by
  have := xor_nat .u8 a.toNat b.toNat (show a.toNat < 256 by omega) (show b.toNat < 256 by omega)
  rw [Int.toNat_of_nonneg h0, Int.toNat_of_nonneg h2] at this
  rw [sBin_xor, this]
theorem sBin_and_u32 (h0 : 0 ≤ a) (h1 : a < 4294967296) (h2 : 0 ≤ b) (h3 : b < 4294967296) : sBin P .and t x y (.int .u32 a) (.int .u32 b) σ = some (.val (.int .u32 ((a.toNat &&& b.toNat : Nat) : Int)) σ) := by
  have := and_nat .u32 a.toNat b.toNat (show a.toNat < 4294967296 by omega) (show b.toNat < 4294967296 by omega)
  rw [Int.toNat_of_nonneg h0, Int.toNat_of_nonneg h2] at this
  rw [sBin_and, this]
theorem sBin_or_u32 (h0 : 0 ≤ a) (h1 : a < 4294967296) (h2 : 0 ≤ b) (h3 : b < 4294967296) : sBin P .or t x y (.int .u32 a) (.int .u32 b) σ = some (.val (.int .u32 ((a.toNat ||| b.toNat : Nat) : Int)) σ) := by
  have := or_nat .u32 a.toNat b.toNat (show a.toNat < 4294967296 by omega) (show b.toNat < 4294967296 by omega)
  rw [Int.toNat_of_nonneg h0, Int.toNat_of_nonneg h2] at this
  rw [sBin_or, this]
theorem sBin_xor_u32 (h0 : 0 ≤ a) (h1 : a < 4294967296) (h2 : 0 ≤ b) (h3 : b < 4294967296) : sBin P .xor t x y (.int .u32 a) (.int .u32 b) σ = some (.val (.int .u32 ((a.toNat ^^^ b.toNat : Nat) : Int)) σ) := by
  have := xor_nat .u32 a.toNat b.toNat (show a.toNat < 4294967296 by omega) (show b.toNat < 4294967296 by omega)
  rw [Int.toNat_of_nonneg h0, Int.toNat_of_nonneg h2] at this
  rw [sBin_xor, this]
theorem sBin_and_i64 (h0 : 0 ≤ a) (h1 : a < 9223372036854775808) (h2 : 0 ≤ b) (h3 : b < 9223372036854775808) : sBin P .and t x y (.int .i64 a) (.int .i64 b) σ = some (.val (.int .i64 ((a.toNat &&& b.toNat : Nat) : Int)) σ) := by
  have := and_nat .i64 a.toNat b.toNat (show a.toNat < 9223372036854775808 by omega) (show b.toNat < 9223372036854775808 by omega)
  rw [Int.toNat_of_nonneg h0, Int.toNat_of_nonneg h2] at this
  rw [sBin_and, this]
theorem sBin_or_i64 (h0 : 0 ≤ a) (h1 : a < 9223372036854775808) (h2 : 0 ≤ b) (h3 : b < 9223372036854775808) : sBin P .or t x y (.int .i64 a) (.int .i64 b) σ = some (.val (.int .i64 ((a.toNat ||| b.toNat : Nat) : Int)) σ) := by
  have := or_nat .i64 a.toNat b.toNat (show a.toNat < 9223372036854775808 by omega) (show b.toNat < 9223372036854775808 by omega)
  rw [Int.toNat_of_nonneg h0, Int.toNat_of_nonneg h2] at this
  rw [sBin_or, this]
theorem sBin_xor_i64 (h0 : 0 ≤ a) (h1 : a < 9223372036854775808) (h2 : 0 ≤ b) (h3 : b < 9223372036854775808) : sBin P .xor t x y (.int .i64 a) (.int .i64 b) σ = some (.val (.int .i64 ((a.toNat ^^^ b.toNat : Nat) : Int)) σ) := by
  have := xor_nat .i64 a.toNat b.toNat (show a.toNat < 9223372036854775808 by omega) (show b.toNat < 9223372036854775808 by omega)
  rw [Int.toNat_of_nonneg h0, Int.toNat_of_nonneg h2] at this
  rw [sBin_xor, this]
theorem sBin_and_u64 (h0 : 0 ≤ a) (h1 : a < 18446744073709551616) (h2 : 0 ≤ b) (h3 : b < 18446744073709551616) : sBin P .and t x y (.int .u64 a) (.int .u64 b) σ = some (.val (.int .u64 ((a.toNat &&& b.toNat : Nat) : Int)) σ) := by
  have := and_nat .u64 a.toNat b.toNat (show a.toNat < 18446744073709551616 by omega) (show b.toNat < 18446744073709551616 by omega)
  rw [Int.toNat_of_nonneg h0, Int.toNat_of_nonneg h2] at this
  rw [sBin_and, this]
theorem sBin_or_u64 (h0 : 0 ≤ a) (h1 : a < 18446744073709551616) (h2 : 0 ≤ b) (h3 : b < 18446744073709551616) : sBin P .or t x y (.int .u64 a) (.int .u64 b) σ = some (.val (.int .u64 ((a.toNat ||| b.toNat : Nat) : Int)) σ) := by
  have := or_nat .u64 a.toNat b.toNat (show a.toNat < 18446744073709551616 by omega) (show b.toNat < 18446744073709551616 by omega)
  rw [Int.toNat_of_nonneg h0, Int.toNat_of_nonneg h2] at this
  rw [sBin_or, this]
theorem sBin_xor_u64 (h0 : 0 ≤ a) (h1 : a < 18446744073709551616) (h2 : 0 ≤ b) (h3 : b < 18446744073709551616) : sBin P .xor t x y (.int .u64 a) (.int .u64 b) σ = some (.val (.int .u64 ((a.toNat ^^^ b.toNat : Nat) : Int)) σ) := by
  have := xor_nat .u64 a.toNat b.toNat (show a.toNat < 18446744073709551616 by omega) (show b.toNat < 18446744073709551616 by omega)
  rw [Int.toNat_of_nonneg h0, Int.toNat_of_nonneg h2] at this
  rw [sBin_xor, this]
end

/-! ## One operand -/
def sOne (P : Program) (f : Value → Sem Value) (a : Value) (σ : St) : Option ARes :=
  if flatV a then match pureRun P (f a) with
    | some v => if flatV v then some (.val v σ) else none
    | none => none
  else none
theorem sOne_of {P : Program} {f : Value → Sem Value} {a v : Value} {σ : St} (h1 : flatV a = true) (h2 : pureRun P (f a) = some v) (h3 : flatV v = true) : sOne P f a σ = some (.val v σ) := by
  unfold sOne; rw [if_pos h1, h2]; simp [h3]
theorem evalFlat_un {P : Program} {ρ : Operand → Value} {op : UnOp} {t : TypeId} {x : Operand} {d : Option Nat} {ty : TypeId} {pos : String} {af : Array Edge} {gd : Option (Nat × Bool)} {σ : St} :
    evalFlat P ρ { dst := d, op := .unOp op t x, type := ty, pos := pos, after := af, guard := gd } σ = sOne P (Op.unary op) (ρ x) σ := by
  unfold evalFlat sOne
  have h1 : flatOps ρ (.unOp op t x) = flatV (ρ x) := by simp [flatOps, Op.operands]
  have h2 : execOp ρ { dst := d, op := .unOp op t x, type := ty, pos := pos, after := af, guard := gd } = (do let v ← Op.unary op (ρ x); pure (.value v)) := rfl
  simp only [h1, h2, isSelect, Bool.not_false, Bool.and_true, pureRun_bind]
  cases pureRun P (Op.unary op (ρ x)) <;> rfl
theorem evalFlat_conv {P : Program} {ρ : Operand → Value} {s e : TypeId} {x : Operand} {d : Option Nat} {ty : TypeId} {pos : String} {af : Array Edge} {gd : Option (Nat × Bool)} {σ : St} :
    evalFlat P ρ { dst := d, op := .convert s e x, type := ty, pos := pos, after := af, guard := gd } σ = sOne P (convert s e) (ρ x) σ := by
  unfold evalFlat sOne
  have h1 : flatOps ρ (.convert s e x) = flatV (ρ x) := by simp [flatOps, Op.operands]
  have h2 : execOp ρ { dst := d, op := .convert s e x, type := ty, pos := pos, after := af, guard := gd } = (do let v ← convert s e (ρ x); pure (.value v)) := rfl
  simp only [h1, h2, isSelect, Bool.not_false, Bool.and_true, pureRun_bind]
  cases pureRun P (convert s e (ρ x)) <;> rfl
section
variable {P : Program} {σ : St}
theorem sOne_not {b : Bool} : sOne P (Op.unary .not) (.bool b) σ = some (.val (.bool !b) σ) := sOne_of rfl rfl rfl
theorem sOne_neg {k : IntKind} {n : Int} : sOne P (Op.unary .neg) (.int k n) σ = some (.val (.int k (k.wrap (0 - n))) σ) := sOne_of rfl rfl rfl
theorem sOne_xor {k : IntKind} {n : Int} : sOne P (Op.unary .xor) (.int k n) σ = some (.val (.int k (k.wrap (BitVec.ofInt k.bits (if k.signed then -1 else k.max) ^^^ BitVec.ofInt k.bits n).toNat)) σ) := sOne_of rfl rfl rfl
theorem sOne_int {s e : TypeId} {k k' : IntKind} {n : Int} {d : TypeDesc} (hs : P.underlying s = some d) (he : P.underlying e = some (.int k)) : sOne P (convert s e) (.int k' n) σ = some (.val (.int k (k.wrap n)) σ) :=
  sOne_of rfl (by
    simp only [convert, pureRun_bind, pureRun_underlying hs, pureRun_underlying he, Option.bind_some]
    cases d <;> rfl) rfl
end
end Go.Ev

namespace Go.Ev
open Go
set_option linter.unusedVariables false
set_option linter.unusedSimpArgs false
universe u
set_option linter.defProp false

/-- What an argument that stands behind another one fixes. -/
inductive Tok {α : Sort u} (a : α) : Type where
  | mk

section
variable (P : Program) (gl : List Nat) (C : CallF)
def zTF (f : FuncId) (args : Array Value) (σ : St) (K : Value → St → Prop) (_ : Tok K) : Prop := TF P gl f args σ K
def zCall (r : Option (Value × St)) (f : FuncId) (args : Array Value) (σ : St) (K : Value → St → Prop) (_ : Tok K) : Prop := onCall P gl r f args σ K
def zOp (w : Bool) (r : Option ARes) (σ : St) (K : Value → St → Prop) (_ : Tok K) : Prop := onOp P gl C w r σ K
def zO (ops : Array Oper) (base : Nat) (l : List Oper) (i : Nat) (env : Env) (σ : St) (Q : Env → St → Prop) (_ : Tok (ops, l, Q)) : Prop := wpO P gl C ops base l i env σ Q
def zQ1 (w : Bool) (cl : Cls) (id : Nat) (ev : St → Option ARes) (τ : St) (pend : List (Nat × AObj)) (K : Value → St → List (Nat × AObj) → Prop) (_ : Tok (ev, K)) : Prop := onQ P gl C w cl id ev τ pend K
def zQ2 (cl : Cls) (id : Nat) (r : Option ARes) (τ : St) (pend : List (Nat × AObj)) (K : Value → St → List (Nat × AObj) → Prop) (_ : Tok K) : Prop := onQ2 P gl C cl id r τ pend K
def zObj (o : Option AObj) (K : AObj → Prop) (_ : Tok K) : Prop := onObj o K
def zQ (ops : Array Oper) (base : Nat) (l : List Oper) (i : Nat) (env : Env) (τ : St) (pend : List (Nat × AObj)) (Q : Env → St → Prop) (_ : Tok (ops, l, Q)) : Prop := wpQ P gl C ops base l i env τ pend Q
def zU (ops : Array Oper) (base : Nat) (l : List Oper) (i : Nat) (env : Env) (τ : St) (pend : List (Nat × AObj)) (rs : List (Nat × (St → Option ARes) × Value)) (ls : List (Nat × St × St)) (Q : Env → St → Prop) (_ : Tok (ops, l, rs, ls, Q)) : Prop := wpU P gl C ops base l i env τ pend rs ls Q
def zW (w : Bool) (A B : Prop) (_ : Tok (A, B)) : Prop := onW w A B
def zCl (cl : Cls) (A B D : Prop) (_ : Tok (A, B, D)) : Prop := onCl cl A B D
def zRd (ops : Array Oper) (i : Nat) (ev : St → Option ARes) (v : Value) (l : List (Nat × St × St)) (K : Prop) (_ : Tok (ops, ev, v, l, K)) : Prop := chkRead ops i ev v l K
def zLd (ops : Array Oper) (i : Nat) (τ τ' : St) (l : List (Nat × (St → Option ARes) × Value)) (K : Prop) (_ : Tok (ops, l, K)) : Prop := chkLoud ops i τ τ' l K
def zPr (ops : Array Oper) (i j : Nat) (A K : Prop) (_ : Tok (ops, A, K)) : Prop := onPair (ordB ops i j) A K
def zIf (c : Value) (A B : Prop) (_ : Tok (A, B)) : Prop := onCond c A B
def zLoop (N : Nat) (body : Code) (env : Env) (σ : St) (Q : Ex → Env → St → Prop) (_ : Tok (body, Q)) : Prop := TLoop P gl N body env σ Q
def zC (N : Nat) (c : Code) (env : Env) (σ : St) (Q : Ex → Env → St → Prop) (_ : Tok (c, Q)) : Prop := wpC P gl N C c env σ Q
def zX (ex : Ex) (A : Prop) (B : Nat → Prop) (D : Prop) (_ : Tok (A, B, D)) : Prop := match ex with
  | .normal => A
  | .exit id => B id
  | .ret => D
end

/-- An equation that is not to be taken for one by sight. -/
theorem nr {α : Sort u} {a b : α} (h : a = b) : a = b := h

section
variable {P : Program} {gl : List Nat} {C : CallF} {N : Nat}
theorem zO_nil {ops : Array Oper} {base i : Nat} {env : Env} {σ : St} {Q : Env → St → Prop} : zO P gl C ops base [] i env σ Q .mk = Q env σ := nr rfl
theorem zO_cons {ops : Array Oper} {base i : Nat} {o : Oper} {r : List Oper} {env : Env} {σ : St} {Q : Env → St → Prop} :
    zO P gl C ops base (o :: r) i env σ Q .mk = zOp P gl C (wantedA ops env o) (evalOp P (rho env) (base + i) o σ) σ (fun v σ' => zO P gl C ops base r (i + 1) (eputo env o.dst v) σ' Q .mk) .mk := nr rfl
theorem zOp_val {v : Value} {σ σ' : St} {K : Value → St → Prop} : zOp P gl C true (some (.val v σ')) σ K .mk = K v σ' := nr rfl
theorem zOp_enter {f : FuncId} {args : Array Value} {σ : St} {K : Value → St → Prop} : zOp P gl C true (some (.enter f args)) σ K .mk = zCall P gl (C f args σ) f args σ K .mk := nr rfl
theorem zOp_skip {r : Option ARes} {σ : St} {K : Value → St → Prop} : zOp P gl C false r σ K .mk = K undef σ := nr rfl
theorem zCall_some {v : Value} {f : FuncId} {args : Array Value} {σ σ' : St} {K : Value → St → Prop} : zCall P gl (some (v, σ')) f args σ K .mk = K v σ' := nr rfl
theorem zCall_none {f : FuncId} {args : Array Value} {σ : St} {K : Value → St → Prop} : zCall P gl none f args σ K .mk = zTF P gl f args σ K .mk := nr rfl
theorem zTF_def {f : FuncId} {args : Array Value} {σ : St} {K : Value → St → Prop} : zTF P gl f args σ K .mk = TF P gl f args σ K := nr rfl
theorem zQ_nil {ops : Array Oper} {base i : Nat} {env : Env} {τ : St} {pend : List (Nat × AObj)} {Q : Env → St → Prop} : zQ P gl C ops base [] i env τ pend Q .mk = Q env (instP pend τ) := nr rfl
theorem zQ_cons {ops : Array Oper} {base i : Nat} {o : Oper} {r : List Oper} {env : Env} {τ : St} {pend : List (Nat × AObj)} {Q : Env → St → Prop} :
    zQ P gl C ops base (o :: r) i env τ pend Q .mk = zQ1 P gl C (wantedA ops env o) (clsOf P o.op) (base + i) (evalOp P (rho env) (base + i) o) τ pend (fun v τ' pend' => zQ P gl C ops base r (i + 1) (eputo env o.dst v) τ' pend' Q .mk) .mk := nr rfl
section
variable {id : Nat} {ev : St → Option ARes} {τ : St} {pend : List (Nat × AObj)} {K : Value → St → List (Nat × AObj) → Prop} {v : Value} {σ' : St} {f : FuncId} {args : Array Value}
theorem zQ1_skip {cl : Cls} : zQ1 P gl C false cl id ev τ pend K .mk = K undef τ pend := nr rfl
theorem zQ1_pure : zQ1 P gl C true .pure id ev τ pend K .mk = zQ2 P gl C .pure id (ev τ) τ pend K .mk := nr rfl
theorem zQ1_read : zQ1 P gl C true .read id ev τ pend K .mk = zQ2 P gl C .read id (ev τ) τ pend K .mk := nr rfl
theorem zQ1_alloc : zQ1 P gl C true .alloc id ev τ pend K .mk = zQ2 P gl C .alloc id (ev τ) τ pend K .mk := nr rfl
theorem zQ1_loud : zQ1 P gl C true .loud id ev τ pend K .mk = zQ2 P gl C .loud id (ev (instP pend τ)) (instP pend τ) pend K .mk := nr rfl
theorem zQ2_pure : zQ2 P gl C .pure id (some (.val v σ')) τ pend K .mk = K v τ pend := nr rfl
theorem zQ2_read : zQ2 P gl C .read id (some (.val v σ')) τ pend K .mk = K v τ pend := nr rfl
theorem zQ2_loud : zQ2 P gl C .loud id (some (.val v σ')) τ pend K .mk = K v σ' [] := nr rfl
theorem zQ2_enter : zQ2 P gl C .loud id (some (.enter f args)) τ pend K .mk = zCall P gl (C f args τ) f args τ (fun v σ' => K v σ' []) .mk := nr rfl
theorem zQ2_alloc : zQ2 P gl C .alloc id (some (.val v σ')) τ pend K .mk = zObj (σ'.get id) (fun ao => K v τ (pend ++ [(id, ao)])) .mk := nr rfl
theorem zObj_some {ao : AObj} {K : AObj → Prop} : zObj (some ao) K .mk = K ao := nr rfl
end
theorem zU_nil {ops : Array Oper} {base i : Nat} {env : Env} {τ : St} {pend : List (Nat × AObj)} {rs : List (Nat × (St → Option ARes) × Value)} {ls : List (Nat × St × St)} {Q : Env → St → Prop} : zU P gl C ops base [] i env τ pend rs ls Q .mk = Q env (instP pend τ) := nr rfl
theorem zU_cons {ops : Array Oper} {base i : Nat} {o : Oper} {r : List Oper} {env : Env} {τ : St} {pend : List (Nat × AObj)} {rs : List (Nat × (St → Option ARes) × Value)} {ls : List (Nat × St × St)} {Q : Env → St → Prop} :
    zU P gl C ops base (o :: r) i env τ pend rs ls Q .mk = zW (wantedA ops env o) (zU P gl C ops base r (i + 1) (eputo env o.dst undef) τ pend rs ls Q .mk) (zQ1 P gl C true (clsOf P o.op) (base + i) (evalOp P (rho env) (base + i) o) τ pend (fun v τ' pend' =>
      zCl (clsOf P o.op) (zRd ops i (evalOp P (rho env) (base + i) o) v ls (zU P gl C ops base r (i + 1) (eputo env o.dst v) τ' pend' ((i, evalOp P (rho env) (base + i) o, v) :: rs) ls Q .mk) .mk)
        (zLd ops i τ τ' rs (zU P gl C ops base r (i + 1) (eputo env o.dst v) τ' pend' rs ((i, τ, τ') :: ls) Q .mk) .mk)
        (zU P gl C ops base r (i + 1) (eputo env o.dst v) τ' pend' rs ls Q .mk) .mk) .mk) .mk := nr rfl
theorem zW_true {A B : Prop} : zW true A B .mk = B := nr rfl
theorem zW_false {A B : Prop} : zW false A B .mk = A := nr rfl
theorem zCl_read {A B D : Prop} : zCl .read A B D .mk = A := nr rfl
theorem zCl_loud {A B D : Prop} : zCl .loud A B D .mk = B := nr rfl
theorem zCl_pure {A B D : Prop} : zCl .pure A B D .mk = D := nr rfl
theorem zCl_alloc {A B D : Prop} : zCl .alloc A B D .mk = D := nr rfl
theorem zRd_nil {ops : Array Oper} {i : Nat} {ev : St → Option ARes} {v : Value} {K : Prop} : zRd ops i ev v [] K .mk = K := nr rfl
theorem zRd_cons {ops : Array Oper} {i j : Nat} {ev : St → Option ARes} {v : Value} {τ τ' : St} {l : List (Nat × St × St)} {K : Prop} : zRd ops i ev v ((j, τ, τ') :: l) K .mk = zPr ops i j (sameR ev v τ ∧ sameR ev v τ') (zRd ops i ev v l K .mk) .mk := nr rfl
theorem zLd_nil {ops : Array Oper} {i : Nat} {τ τ' : St} {K : Prop} : zLd ops i τ τ' [] K .mk = K := nr rfl
theorem zLd_cons {ops : Array Oper} {i k : Nat} {ev : St → Option ARes} {v : Value} {τ τ' : St} {l : List (Nat × (St → Option ARes) × Value)} {K : Prop} : zLd ops i τ τ' ((k, ev, v) :: l) K .mk = zPr ops k i (sameR ev v τ ∧ sameR ev v τ') (zLd ops i τ τ' l K .mk) .mk := nr rfl
theorem zPr_true {ops : Array Oper} {i j : Nat} {A K : Prop} (h : ordB ops i j = true) : zPr ops i j A K .mk = K := by unfold zPr; rw [h]; rfl
theorem zPr_false {ops : Array Oper} {i j : Nat} {A K : Prop} (h : ordB ops i j = false) : zPr ops i j A K .mk = (A ∧ K) := by unfold zPr; rw [h]; rfl
theorem sameR_def {ev : St → Option ARes} {v : Value} {τ : St} : sameR ev v τ = (ev τ = some (.val v τ)) := nr rfl
/-- To be shown by the kernel. -/
theorem okQ_by {ops : Array Oper} {B : List Nat} {b : Bool} (h : okQ P ops B = b) : okQ P ops B = b := h
theorem ordB_by {ops : Array Oper} {i j : Nat} {b : Bool} (h : ordB ops i j = b) : ordB ops i j = b := h
theorem zIf_true {A B : Prop} : zIf (.bool true) A B .mk = A := nr rfl
theorem zIf_false {A B : Prop} : zIf (.bool false) A B .mk = B := nr rfl
theorem zX_normal {A D : Prop} {B : Nat → Prop} : zX .normal A B D .mk = A := nr rfl
theorem zX_exit {A D : Prop} {B : Nat → Prop} {id : Nat} : zX (.exit id) A B D .mk = B id := nr rfl
theorem zX_ret {A D : Prop} {B : Nat → Prop} : zX .ret A B D .mk = D := nr rfl
section
variable {env : Env} {σ : St} {Q : Ex → Env → St → Prop}
theorem zC_skip : zC P gl C N .skip env σ Q .mk = Q .normal env σ := nr rfl
theorem zC_label {l : Nat} : zC P gl C N (.label l) env σ Q .mk = Q .normal env σ := nr rfl
theorem zC_ret : zC P gl C N .ret env σ Q .mk = Q .ret env σ := nr rfl
theorem zC_exit {id : Nat} : zC P gl C N (.exit id) env σ Q .mk = Q (.exit id) env σ := nr rfl
theorem zC_region {id : Nat} {ops : List Oper} : zC P gl C N (.region id ⟨ops⟩ false) env σ Q .mk = zO P gl C ⟨ops⟩ σ.next ops 0 env (σ.bump ops.length) (Q .normal) .mk := nr rfl
theorem zC_draw {id : Nat} {ops : List Oper} (h : okQ P ⟨ops⟩ (befores ⟨ops⟩) = true) : zC P gl C N (.region id ⟨ops⟩ true) env σ Q .mk = zQ P gl C ⟨ops⟩ σ.next ops 0 env (σ.bump ops.length) [] (Q .normal) .mk := by
  show (bif okQ P ⟨ops⟩ (befores ⟨ops⟩) then _ else _) = _
  rw [h]; rfl
theorem zC_drawU {id : Nat} {ops : List Oper} (h : okQ P ⟨ops⟩ (befores ⟨ops⟩) = false) : zC P gl C N (.region id ⟨ops⟩ true) env σ Q .mk = zU P gl C ⟨ops⟩ σ.next ops 0 env (σ.bump ops.length) [] [] [] (Q .normal) .mk := by
  show (bif okQ P ⟨ops⟩ (befores ⟨ops⟩) then _ else _) = _
  rw [h]; rfl
theorem zC_seq {a b : Code} : zC P gl C N (.seq a b) env σ Q .mk = zC P gl C N a env σ (fun ex env σ => zX ex (zC P gl C N b env σ Q .mk) (fun id => Q (.exit id) env σ) (Q .ret env σ) .mk) .mk := by
  show wpC P gl N C (.seq a b) env σ Q = _
  rw [wpC]
  unfold zC zX
  congr
theorem zC_cond {c : Operand} {a b : Code} : zC P gl C N (.cond c a b) env σ Q .mk = zIf (rho env c) (zC P gl C N a env σ Q .mk) (zC P gl C N b env σ Q .mk) .mk := nr rfl
theorem zC_block {id : Nat} {c : Code} : zC P gl C N (.block id c) env σ Q .mk = zC P gl C N c env σ (fun ex env σ => zX ex (Q .normal env σ) (fun id' => if id' = id then Q .normal env σ else Q (.exit id') env σ) (Q .ret env σ) .mk) .mk := by
  show wpC P gl N C (.block id c) env σ Q = _
  rw [wpC]
  unfold zC zX
  congr
theorem zC_loop {c : Code} : zC P gl C N (.loop c) env σ Q .mk = zLoop P gl N c env σ Q .mk := nr rfl
theorem zC_scope {c : Code} : zC P gl C N (.scope c) env σ Q .mk = zC P gl C N c env σ Q .mk := nr rfl
end

def zRes (r : Option (List Value)) (K : List Value → Prop) (_ : Tok K) : Prop := match r with
  | some l => K l
  | none => False
theorem zRes_some {l : List Value} {K : List Value → Prop} : zRes (some l) K .mk = K l := nr rfl

theorem TF.walk (hC : C.ok P gl) (hm : P.follows .mixedOrders = true) {f : FuncId} {fn : Func} {args : Array Value} {σ : St} {Q : Value → St → Prop} (hf : P.funcs[f]? = some fn)
    (hok : (match fn.body with | some c => okC P gl fn.ntmps c && decide (fn.params.size ≤ fn.ntmps) | none => false) = true) (hsz : args.size = fn.params.size)
    (h : ∀ c, fn.body = some c → zC P gl C fn.ntmps c (initEnv args.toList 0 .nil) σ (fun ex env' σ' => zX ex (zRes (resVals P env' σ' fn.results.toList) (fun l => Q (packed l) σ') .mk) (fun _ => False) (zRes (resVals P env' σ' fn.results.toList) (fun l => Q (packed l) σ') .mk) .mk) .mk) : TF P gl f args σ Q := by
  cases hb : fn.body with
  | none => rw [hb] at hok; cases hok
  | some c =>
    rw [hb] at hok
    simp only [Bool.and_eq_true, decide_eq_true_eq] at hok
    refine TF.body hC hm hf hb hok.1 (by omega) ?_
    have h := h c hb
    unfold zC at h
    have e : (fun ex env' σ' => zX ex (zRes (resVals P env' σ' fn.results.toList) (fun l => Q (packed l) σ') .mk) (fun _ => False) (zRes (resVals P env' σ' fn.results.toList) (fun l => Q (packed l) σ') .mk) .mk) =
        (fun (ex : Ex) (env' : Env) (σ' : St) => match ex with
      | .exit _ => False
      | _ => match resVals P env' σ' fn.results.toList with
        | some l => Q (packed l) σ'
        | none => False) := by
      funext ex env' σ'
      cases ex <;> simp only [zX] <;> (try (unfold zRes; cases resVals P env' σ' fn.results.toList <;> rfl))
    rw [e] at h
    exact h

/-- A loop, by what stands at its head. -/
theorem zLoop_ind (hC : C.ok P gl) (hm : P.follows .mixedOrders = true) {body : Code} {Q : Ex → Env → St → Prop} (I : Nat → Env → St → Prop) {n : Nat} {env : Env} {σ : St} (hok : okC P gl N body = true) (h0 : I n env σ)
    (step : ∀ k env σ, I k env σ → zC P gl C N body env σ (fun ex env' σ' => zX ex (∃ k', k' < k ∧ I k' env' σ') (fun id => Q (.exit id) env' σ') (Q .ret env' σ') .mk) .mk) : zLoop P gl N body env σ Q .mk := by
  refine TLoop.ind hC hm hok I h0 fun k env σ hI => ?_
  have h := step k env σ hI
  unfold zC at h
  have e : (fun ex env' σ' => zX ex (∃ k', k' < k ∧ I k' env' σ') (fun id => Q (.exit id) env' σ') (Q .ret env' σ') .mk) = (fun (ex : Ex) (env' : Env) (σ' : St) => match ex with
      | .normal => ∃ k', k' < k ∧ I k' env' σ'
      | .exit id => Q (.exit id) env' σ'
      | .ret => Q .ret env' σ') := by
    funext ex env' σ'
    cases ex <;> rfl
  rw [e] at h
  exact h
end

/-! ## Each operation, as it is asked -/
section
variable {P : Program} {ρ : Operand → Value} {id : Nat} {σ : St} {d : Option Nat} {ty : TypeId} {pos : String} {af : Array Edge} {gd : Option (Nat × Bool)} {t s e : TypeId} {x y c : Operand}
def ovr (a b : Option ARes) : Option ARes := match a with
  | some r => some r
  | none => b
theorem ovr_some {r : ARes} {b : Option ARes} : ovr (some r) b = some r := nr rfl
theorem ovr_none {b : Option ARes} : ovr none b = b := nr rfl
def mapSt (r : Option St) : Option ARes := match r with
  | some σ' => some (.val undef σ')
  | none => none
theorem mapSt_some {σ' : St} : mapSt (some σ') = some (.val undef σ') := nr rfl
theorem valOf_some {v : Value} : valOf σ (some v) = some (.val v σ) := nr rfl
theorem o_move : evalOp P ρ id { dst := d, op := .move x, type := ty, pos := pos, after := af, guard := gd } σ = some (.val (ρ x) σ) := nr rfl
theorem o_assign : evalOp P ρ id { dst := d, op := .assign x, type := ty, pos := pos, after := af, guard := gd } σ = some (.val (ρ x) σ) := nr rfl
def sPick (σ : St) (c a b : Value) : Option ARes := match c with
  | .bool t => some (.val (if t then a else b) σ)
  | _ => none
theorem sPick_true {a b : Value} : sPick σ (.bool true) a b = some (.val a σ) := nr rfl
theorem sPick_false {a b : Value} : sPick σ (.bool false) a b = some (.val b σ) := nr rfl
theorem sPick_bool {a b : Value} {t : Bool} : sPick σ (.bool t) a b = some (.val (if t = true then a else b) σ) := nr rfl
theorem o_pick : evalOp P ρ id { dst := d, op := .pick c x y, type := ty, pos := pos, after := af, guard := gd } σ = sPick σ (ρ c) (ρ x) (ρ y) := nr rfl
def sAlloc (id : Nat) (σ : St) (z : Option Value) : Option ARes := match z with
  | some z => some (.val (ptrTo id) (opNew id z.cells σ))
  | none => none
theorem sAlloc_some {z : Value} : sAlloc id σ (some z) = some (.val (ptrTo id) (opNew id z.cells σ)) := nr rfl
theorem o_alloc : evalOp P ρ id { dst := d, op := .alloc e, type := ty, pos := pos, after := af, guard := gd } σ = sAlloc id σ (zero? P e) := nr rfl
theorem o_box : evalOp P ρ id { dst := d, op := .box e x, type := ty, pos := pos, after := af, guard := gd } σ = some (.val (ptrTo id) (opNew id (ρ x).cells σ)) := nr rfl
theorem o_build {parts : Array (Nat × Operand)} : evalOp P ρ id { dst := d, op := .build t parts, type := ty, pos := pos, after := af, guard := gd } σ = valOf σ (opBuild P t (parts.map fun (i, x) => (i, ρ x))) := nr rfl
theorem o_buildSlice {len : Nat} {parts : Array (Nat × Operand)} : evalOp P ρ id { dst := d, op := .buildSlice t len parts, type := ty, pos := pos, after := af, guard := gd } σ = opBuildSlice P t len id (parts.map fun (i, x) => (i, ρ x)) σ := nr rfl
theorem o_load : evalOp P ρ id { dst := d, op := .load t x, type := ty, pos := pos, after := af, guard := gd } σ = valOf σ (opLoad P t (ρ x) σ) := nr rfl
theorem o_store : evalOp P ρ id { dst := d, op := .store t x y, type := ty, pos := pos, after := af, guard := gd } σ = mapSt (opStore P t (ρ x) (ρ y) σ) := by
  show (match opStore P t (ρ x) (ρ y) σ with
    | some σ' => some (ARes.val undef σ')
    | none => none) = _
  cases opStore P t (ρ x) (ρ y) σ <;> rfl
def sNil (σ : St) (v : Value) : Option ARes := match v with
  | .pointer (some a) => some (.val (.pointer (some a)) σ)
  | .iface t v => some (.val (.iface t v) σ)
  | .func (.func f) a c => some (.val (.func (.func f) a c) σ)
  | _ => none
theorem sNil_ptr {a : Addr} : sNil σ (.pointer (some a)) = some (.val (.pointer (some a)) σ) := nr rfl
theorem sNil_func {f : FuncId} {a c : Array Value} : sNil σ (.func (.func f) a c) = some (.val (.func (.func f) a c) σ) := nr rfl
theorem o_nilCheck : evalOp P ρ id { dst := d, op := .nilCheck x, type := ty, pos := pos, after := af, guard := gd } σ = sNil σ (ρ x) := nr rfl
def sEq (σ : St) (op : BinOp) (r : Option Bool) : Option ARes := match op with
  | .eql => match r with
    | some b => some (.val (.bool b) σ)
    | none => none
  | .neq => match r with
    | some b => some (.val (.bool !b) σ)
    | none => none
  | _ => none
theorem sEq_eql {b : Bool} : sEq σ .eql (some b) = some (.val (.bool b) σ) := nr rfl
theorem sEq_neq {b : Bool} : sEq σ .neq (some b) = some (.val (.bool !b) σ) := nr rfl
theorem o_bin {op : BinOp} {yt : TypeId} : evalOp P ρ id { dst := d, op := .binOp op t x y yt, type := ty, pos := pos, after := af, guard := gd } σ = ovr (sBin P op t x y (ρ x) (ρ y) σ) (sEq σ op (opEq P t (ρ x) (ρ y))) := by
  have := evalFlat_bin (P := P) (ρ := ρ) (op := op) (t := t) (yt := yt) (x := x) (y := y) (d := d) (ty := ty) (pos := pos) (af := af) (gd := gd) (σ := σ)
  unfold evalOp
  simp only [this]
  cases sBin P op t x y (ρ x) (ρ y) σ with
  | some r => rfl
  | none => cases op <;> first | rfl | (cases opEq P t (ρ x) (ρ y) <;> rfl)
theorem o_un {op : UnOp} : evalOp P ρ id { dst := d, op := .unOp op t x, type := ty, pos := pos, after := af, guard := gd } σ = sOne P (Op.unary op) (ρ x) σ := by
  unfold evalOp; exact evalFlat_un
theorem o_conv : evalOp P ρ id { dst := d, op := .convert s e x, type := ty, pos := pos, after := af, guard := gd } σ = ovr (opConvert P s e id (ρ x) σ) (sOne P (convert s e) (ρ x) σ) := by
  have := evalFlat_conv (P := P) (ρ := ρ) (s := s) (e := e) (x := x) (d := d) (ty := ty) (pos := pos) (af := af) (gd := gd) (σ := σ)
  unfold evalOp
  simp only [this]
  cases opConvert P s e id (ρ x) σ <;> rfl
theorem o_makeFunc {f : FuncId} {first captured : Array Operand} : evalOp P ρ id { dst := d, op := .makeFunc (.func f) first captured, type := ty, pos := pos, after := af, guard := gd } σ = some (.val (.func (.func f) (first.map ρ) (captured.map ρ)) σ) := nr rfl
theorem o_makeSlice : evalOp P ρ id { dst := d, op := .makeSlice t x y, type := ty, pos := pos, after := af, guard := gd } σ = opMakeSlice P t id (ρ x) (ρ y) σ := nr rfl
theorem o_fieldAddr {f : Nat} : evalOp P ρ id { dst := d, op := .fieldAddr s x f, type := ty, pos := pos, after := af, guard := gd } σ = valOf σ (opFieldAddr P s f (ρ x)) := nr rfl
theorem o_field {f : Nat} : evalOp P ρ id { dst := d, op := .field t x f, type := ty, pos := pos, after := af, guard := gd } σ = valOf σ (opField P t f (ρ x)) := nr rfl
theorem o_indexAddr : evalOp P ρ id { dst := d, op := .indexAddr t x y, type := ty, pos := pos, after := af, guard := gd } σ = valOf σ (opIndexAddr P t (ρ x) (ρ y)) := nr rfl
theorem o_extract {ix : Nat} : evalOp P ρ id { dst := d, op := .extract x ix, type := ty, pos := pos, after := af, guard := gd } σ = valOf σ (opExtract ix (ρ x)) := nr rfl
theorem o_range : evalOp P ρ id { dst := d, op := .range t x, type := ty, pos := pos, after := af, guard := gd } σ = opRange P t id (ρ x) σ := nr rfl
theorem o_next {isS : Bool} : evalOp P ρ id { dst := d, op := .next x isS, type := ty, pos := pos, after := af, guard := gd } σ = opNext isS (ρ x) σ := nr rfl
theorem o_callV {args : Array Operand} {at' : Array TypeId} : evalOp P ρ id { dst := d, op := .call { callee := .value x, args := args, argTypes := at' }, type := ty, pos := pos, after := af, guard := gd } σ = opInvoke P (ρ x) (args.map ρ) σ := nr rfl
theorem o_append {sT xT : TypeId} : evalOp P ρ id { dst := d, op := .call { callee := .builtin .append, args := #[x, y], argTypes := #[sT, xT] }, type := ty, pos := pos, after := af, guard := gd } σ = opAppend P sT xT id (ρ x) (ρ y) σ := nr rfl
theorem o_copy {sT xT : TypeId} : evalOp P ρ id { dst := d, op := .call { callee := .builtin .copy, args := #[x, y], argTypes := #[sT, xT] }, type := ty, pos := pos, after := af, guard := gd } σ = opCopy P sT (ρ x) (ρ y) σ := nr rfl
theorem o_lenSl {e : TypeId} (h : P.underlying t = some (.slice e)) : evalOp P ρ id { dst := d, op := .call { callee := .builtin .len, args := #[x], argTypes := #[t] }, type := ty, pos := pos, after := af, guard := gd } σ = valOf σ (opLen (ρ x)) := by
  unfold evalOp; simp only [h]
theorem rho_tmp {env : Env} {t : Nat} : rho env (.tmp t) = eget env t := nr rfl
theorem rho_const {env : Env} {v : Value} : rho env (.const v) = v := nr rfl
theorem rho_global {env : Env} {b : Nat} : rho env (.global b) = .pointer (some ⟨b, 0, none⟩) := nr rfl
theorem rho_func {env : Env} {f : FuncId} : rho env (.func f) = .func (.func f) #[] #[] := nr rfl
theorem eputo_some {env : Env} {d : Nat} {v : Value} : eputo env (some d) v = eput env d v := nr rfl
theorem eputo_none {env : Env} {v : Value} : eputo env none v = env := nr rfl
theorem wanted_none {ops : Array Oper} {env : Env} {op : Op} : wantedA ops env { dst := d, op := op, type := ty, pos := pos, after := af, guard := none } = true := nr rfl
theorem initEnv_nil {i : Nat} {env : Env} : initEnv [] i env = env := nr rfl
theorem initEnv_cons {i : Nat} {env : Env} {v : Value} {r : List Value} : initEnv (v :: r) i env = initEnv r (i + 1) (eput env i v) := nr rfl
theorem resVals_nil {env : Env} : resVals P env σ [] = some [] := nr rfl
def consO (v : Value) (r : Option (List Value)) : Option (List Value) := match r with
  | some l => some (v :: l)
  | none => none
theorem consO_some {v : Value} {l : List Value} : consO v (some l) = some (v :: l) := nr rfl
theorem resVals_tmp {env : Env} {t : Nat} {r : List ResultVar} : resVals P env σ (.tmp t :: r) = consO (eget env t) (resVals P env σ r) := nr rfl
theorem packed_one {v : Value} : packed [v] = v := nr rfl
theorem packed_nil : packed [] = .tuple #[] := nr rfl
theorem packed_more {v u : Value} {l : List Value} : packed (v :: u :: l) = .tuple (v :: u :: l).toArray := nr rfl
end

/-! ## Reading -/
theorem cells_ro {σ : St} {A ver F : Nat} {c : List Value} (h : σ.get A = some (.cells false ver F c)) (h2 : σ.famO F = none) : σ.cells? A = some c := by
  simp [St.cells?, h, St.rd, h2]
theorem cells_own {σ : St} {A ver F : Nat} {c : List Value} (h : σ.get A = some (.cells true ver F c)) : σ.cells? A = some c := by
  simp [St.cells?, h, St.rd]
theorem read_one {σ : St} {A o : Nat} {c : List Value} {v : Value} (h : σ.cells? A = some c) (hv : c[o]? = some v) : σ.read? A o 1 = some [v] := by
  obtain ⟨hlt, hv⟩ := List.getElem?_eq_some_iff.1 hv
  simp only [St.read?, h, Option.bind_some, sub?]
  rw [if_pos (by omega)]
  congr 1
  apply List.ext_getElem?
  intro i
  cases i with
  | zero => simp [hlt, hv]
  | succ i => simp; omega
theorem read_bump (σ : St) (n A o m : Nat) : (σ.bump n).read? A o m = σ.read? A o m := rfl
theorem cells_bump (σ : St) (n A : Nat) : (σ.bump n).cells? A = σ.cells? A := rfl
theorem bump_bump (σ : St) (a b : Nat) : (σ.bump a).bump b = σ.bump (a + b) := by simp [St.bump, Nat.add_assoc]
theorem eget_nil (t : Nat) : eget .nil t = undef := by unfold eget; cases path t <;> rfl

/-- Whatever was only counted on is forgotten. -/
theorem SimF.unbump {P : Program} {gl : List Nat} {f : FuncId} {args : Array Value} {σ : St} {v : Value} {n : Nat} (h : SimF P gl f args σ v (σ.bump n)) : SimF P gl f args σ v σ := by
  intro g w args' hg hr ha
  refine (h g w args' hg hr ha).mono ?_
  rintro e w' ⟨v', g', rfl, hv, hr', hx⟩
  have hr2 : Rel g' σ w' := by
    refine ⟨hr.wf, hr'.blk, fun A x hA => ?_, hr'.share, hr'.order⟩
    obtain ⟨o, ho, hs⟩ := hr'.obj A x hA
    exact ⟨o, ho, OSays.mono (Gam.le_refl _) rfl (fun _ _ _ _ _ h => h) hs⟩
  exact ⟨v', g', rfl, hv, hr2, hx.le, hx.new, hx.fresh, hx.size, hx.keep, hx.frame, hx.ro, Nat.le_refl _, hx.os, hx.out, hx.tape⟩

/-! ## All of them -/
def sy0 := And.intro @zO_nil (And.intro @zO_cons (And.intro @zOp_val (And.intro @zOp_enter (And.intro @zOp_skip (And.intro @zCall_some (And.intro @zCall_none (And.intro @zQ_nil (And.intro @zQ_cons (And.intro @zQ1_skip (And.intro @zQ1_pure (@zQ1_read)))))))))))
def sy1 := And.intro @zQ1_alloc (And.intro @zQ1_loud (And.intro @zQ2_pure (And.intro @zQ2_read (And.intro @zQ2_loud (And.intro @zQ2_enter (And.intro @zQ2_alloc (And.intro @zObj_some (And.intro @zIf_true (And.intro @zIf_false (And.intro @zX_normal (@zX_exit)))))))))))
def sy2 := And.intro @zX_ret (And.intro @zC_skip (And.intro @zC_label (And.intro @zC_ret (And.intro @zC_exit (And.intro @zC_region (And.intro @zC_draw (And.intro @zC_seq (And.intro @zC_cond (And.intro @zC_block (And.intro @zC_loop (@zC_scope)))))))))))
def sy3 := And.intro @zRes_some (And.intro @ovr_some (And.intro @ovr_none (And.intro @mapSt_some (And.intro @valOf_some (And.intro @o_move (And.intro @o_assign (And.intro @sPick_true (And.intro @sPick_false (And.intro @sPick_bool (And.intro @o_pick (@sAlloc_some)))))))))))
def sy4 := And.intro @o_alloc (And.intro @o_box (And.intro @o_build (And.intro @o_buildSlice (And.intro @o_load (And.intro @o_store (And.intro @sNil_ptr (And.intro @sNil_func (And.intro @o_nilCheck (And.intro @sEq_eql (And.intro @sEq_neq (@o_bin)))))))))))
def sy5 := And.intro @o_un (And.intro @o_conv (And.intro @o_makeFunc (And.intro @o_makeSlice (And.intro @o_fieldAddr (And.intro @o_field (And.intro @o_indexAddr (And.intro @o_extract (And.intro @o_range (And.intro @o_next (And.intro @o_callV (@o_append)))))))))))
def sy6 := And.intro @o_copy (And.intro @rho_tmp (And.intro @rho_const (And.intro @rho_global (And.intro @rho_func (And.intro @eputo_some (And.intro @eputo_none (And.intro @wanted_none (And.intro @initEnv_nil (And.intro @initEnv_cons (And.intro @resVals_nil (@consO_some)))))))))))
def sy7 := And.intro @resVals_tmp (And.intro @packed_one (And.intro @packed_nil (And.intro @packed_more (And.intro @sBin_add (And.intro @sBin_sub (And.intro @sBin_mul (And.intro @sBin_lss (And.intro @sBin_leq (And.intro @sBin_gtr (And.intro @sBin_geq (@sBin_eql)))))))))))
def sy9 := And.intro @zC_drawU (And.intro @zU_nil (And.intro @zU_cons (And.intro @zW_true (And.intro @zW_false (And.intro @zCl_read (And.intro @zCl_loud (And.intro @zCl_pure (@zCl_alloc))))))))
def sy10 := And.intro @zRd_nil (And.intro @zRd_cons (And.intro @zLd_nil (And.intro @zLd_cons (And.intro @zPr_true (And.intro @zPr_false (@sameR_def))))))
def sy8 := And.intro @sBin_neq (And.intro @sBin_eqlS (And.intro @sBin_neqS (And.intro @sOne_not (And.intro @sOne_neg (@bump_bump)))))
end Go.Ev

namespace Go.Ev
open Go
set_option linter.unusedVariables false
set_option linter.unusedSimpArgs false
set_option linter.defProp false

section
variable {P : Program} {ρ : Operand → Value} {id : Nat} {σ : St} {d : Option Nat} {ty : TypeId} {pos : String} {af : Array Edge} {gd : Option (Nat × Bool)} {t s e : TypeId} {x y c : Operand}

/-! ## Loads -/
def oneO : Option (List Value) → Option Value
  | some [x] => some x
  | _ => none
theorem oneO_some {v : Value} : oneO (some [v]) = some v := nr rfl
def aggO : Option (List Value) → Option Value
  | some l => some (.agg l.toArray)
  | none => none
theorem aggO_some {l : List Value} : aggO (some l) = some (.agg l.toArray) := nr rfl
theorem ld_one (h : ldInfo P t = some none) (A o : Nat) (σ : St) : opLoad P t (.pointer (some ⟨A, o, none⟩)) σ = oneO (σ.read? A o 1) := by
  simp only [opLoad, h, oneO]
  cases σ.read? A o 1 with
  | none => rfl
  | some l => match l with
    | [] => rfl
    | [x] => rfl
    | _ :: _ :: _ => rfl
theorem ld_agg {n : Nat} (h : ldInfo P t = some (some n)) (A o : Nat) (σ : St) : opLoad P t (.pointer (some ⟨A, o, none⟩)) σ = aggO (σ.read? A o n) := by
  simp only [opLoad, h, aggO]
  cases σ.read? A o n <;> rfl
def rdG (σ : St) (ob : Option AObj) (a n : Nat) : Option (List Value) := match ob with
  | some (.cells own ver fam c) => if σ.rd own ver fam then sub? c a n else none
  | _ => none
theorem read_get (A o n : Nat) : σ.read? A o n = rdG σ (σ.get A) o n := by
  unfold St.read? St.cells? rdG
  cases σ.get A with
  | none => rfl
  | some ob => cases ob with
    | cells own v F c => simp only; split <;> rfl
    | _ => rfl
theorem rdG_own {v F : Nat} {c : List Value} {o n : Nat} : rdG σ (some (.cells true v F c)) o n = sub? c o n := by simp [rdG, St.rd]
theorem rdG_ro {v F : Nat} {c : List Value} {o n : Nat} (h : σ.famO F = none) : rdG σ (some (.cells false v F c)) o n = sub? c o n := by simp [rdG, St.rd, h]
theorem sub_here {a : Value} {c : List Value} : sub? (a :: c) 0 1 = some [a] := by simp [sub?]
theorem sub_more {a : Value} {c : List Value} {n m : Nat} : sub? (a :: c) (n + 1) m = sub? c n m := by simp [sub?]; split <;> split <;> first | rfl | omega
def consP (a : Value) : Option (List Value) → Option (List Value)
  | some l => some (a :: l)
  | none => none
theorem consP_some {a : Value} {l : List Value} : consP a (some l) = some (a :: l) := nr rfl
theorem sub_zero {c : List Value} : sub? c 0 0 = some [] := by simp [sub?]
theorem sub_take {a : Value} {c : List Value} {m : Nat} : sub? (a :: c) 0 (m + 1) = consP a (sub? c 0 m) := by
  simp only [sub?, List.length_cons, Nat.zero_add, List.drop_zero]
  by_cases h : m ≤ c.length
  · rw [if_pos h, if_pos (by omega)]; rfl
  · rw [if_neg h, if_neg (by omega)]; rfl
theorem sub_all {c : List Value} {n : Nat} (h : c.length = n) : sub? c 0 n = some c := by subst h; simp [sub?]
theorem sub_at {c : List Value} {o : Nat} {v : Value} (h : c[o]? = some v) : sub? c o 1 = some [v] := by
  obtain ⟨hlt, hv⟩ := List.getElem?_eq_some_iff.1 h
  simp only [sub?]
  rw [if_pos (by omega)]
  congr 1
  apply List.ext_getElem?
  intro i
  cases i with
  | zero => simp [hlt, hv]
  | succ i => simp; omega

/-! ## Stores -/
def putG (σ : St) (ob : Option AObj) (A a n : Nat) (vs : List Value) : Option St := match ob with
  | some (.cells true ver F c) => if vs.length = n ∧ a + n ≤ c.length ∧ vs.all (·.oneCell') = true then some (σ.set A (.cells true (ver + 1) F (lay c a vs))) else none
  | _ => none
theorem st_n {n : Nat} (h : sz? P t = some n) (A a : Nat) (v : Value) (σ : St) : opStore P t (.pointer (some ⟨A, a, none⟩)) v σ = putG σ (σ.get A) A a n v.cells.toList := by
  have e : v.cells.toList.length = v.cells.size := by simp
  have e2 : opStore P t (.pointer (some ⟨A, a, none⟩)) v σ = if v.cells.size = n then (match σ.get A with
        | some (.cells true ver F c) => if a + n ≤ c.length && v.cells.toList.all (·.oneCell') then some (σ.set A (.cells true (ver + 1) F (lay c a v.cells.toList))) else none
        | _ => none) else none := by simp only [opStore, h]; rfl
  rw [e2]
  cases σ.get A with
  | none => simp [putG]
  | some ob =>
    cases ob with
    | cells own ver F c =>
      cases own with
      | true =>
        simp only [putG, e]
        by_cases h1 : v.cells.size = n
        · rw [if_pos h1]
          by_cases h2 : a + n ≤ c.length
          · cases h3 : v.cells.toList.all (·.oneCell') <;> simp [h1, h2]
          · simp [h2]
        · rw [if_neg h1, if_neg (fun q => h1 q.1)]
      | false => simp [putG]
    | _ => simp [putG]
theorem putG_own {A a n ver F : Nat} {c vs : List Value} (h0 : vs.length = n) (h1 : a + n ≤ c.length) (h2 : vs.all (·.oneCell') = true) : putG σ (some (.cells true ver F c)) A a n vs = some (σ.set A (.cells true (ver + 1) F (lay c a vs))) := by
  simp only [putG]; rw [if_pos ⟨h0, h1, h2⟩]
theorem lay_nil {c : List Value} : lay c 0 [] = c := by simp [lay]
theorem lay_here {a v : Value} {c vs : List Value} : lay (a :: c) 0 (v :: vs) = v :: lay c 0 vs := by simp [lay]
theorem lay_more {a : Value} {c vs : List Value} {n : Nat} : lay (a :: c) (n + 1) vs = a :: lay c n vs := by
  simp only [lay, List.take_succ_cons, List.cons_append]
  rw [show n + 1 + vs.length = (n + vs.length) + 1 by omega, List.drop_succ_cons]

/-! ## New blocks -/
theorem opNew_set {cs : List Value} : opNew id ⟨cs⟩ σ = σ.set id (.cells true 0 id cs) := nr rfl
theorem ptrTo_ptr : ptrTo id = .pointer (some ⟨id, 0, none⟩) := nr rfl
theorem sliceTo_sl {n m : Nat} : sliceTo id n m = .slice (some ⟨id, 0, none⟩) n (m + 1) := nr rfl
theorem instP_nil : instP [] σ = σ := nr rfl
theorem instP_cons {A : Nat} {o : AObj} {l : List (Nat × AObj)} : instP ((A, o) :: l) σ = instP l (σ.set A o) := nr rfl
theorem instP_app {l m : List (Nat × AObj)} : instP (l ++ m) σ = instP m (instP l σ) := by simp [instP]

/-! ## Appends -/
def appE (i : TypeInfo) (s : Value) (id : Nat) (src : Option (Nat × List Value)) (σ : St) : Option ARes := match src with
  | some (n, nc) => match s with
          | .slice base len k =>
            if n = 0 then some (.val s σ)
            else if len + n ≤ 9223372036854775807 ∧ (2 * (len + n) + 1000) * i.bytes ≤ 281474976710656 then
              match k with
              | 0 => if len = 0 then some (.val (sliceTo id n i.size) (σ.set id (.cells true 0 id nc))) else none
              | k' + 1 => match base with
                | some ⟨A, o, none⟩ => if k' = i.size ∧ nc.all (·.oneCell') = true then match σ.get A with
                    | some (.cells true ver F c) => if o + len * i.size ≤ c.length then some (.val (sliceTo id (len + n) i.size) (appSt σ A id ver F c o (o + len * i.size) nc)) else none
                    | _ => none
                  else none
                | _ => none
            else none
          | _ => none
  | none => none
theorem ap {sT xT : TypeId} {i : TypeInfo} {z : Array Value} (hu : P.underlying sT = some (.slice e)) (hi : P.info? e = some i) (hz : zcells? P e i.size = some z) (id : Nat) (sv xv : Value) (σ : St) :
    opAppend P sT xT id sv xv σ = appE i sv id (appSrc P xT i z xv σ) σ := by
  simp only [opAppend, hu, hi, hz]
  rfl
theorem appE_zero {i : TypeInfo} {b : Option Addr} {l k : Nat} {nc : List Value} : appE i (.slice b l k) id (some (0, nc)) σ = some (.val (.slice b l k) σ) := nr rfl
theorem appE_nil {i : TypeInfo} {b : Option Addr} {n : Nat} {nc : List Value} (h0 : n ≠ 0) (h1 : n ≤ 9223372036854775807) (h2 : (2 * n + 1000) * i.bytes ≤ 281474976710656) :
    appE i (.slice b 0 0) id (some (n, nc)) σ = some (.val (.slice (some ⟨id, 0, none⟩) n (i.size + 1)) (σ.set id (.cells true 0 id nc))) := by
  simp only [appE, if_neg h0, Nat.zero_add]
  rw [if_pos ⟨h1, h2⟩]; rfl
theorem appE_own {i : TypeInfo} {A len n ver F : Nat} {c nc : List Value} (hA : σ.get A = some (.cells true ver F c)) (hc : c.length = len * i.size) (h0 : n ≠ 0) (h1 : len + n ≤ 9223372036854775807) (h2 : (2 * (len + n) + 1000) * i.bytes ≤ 281474976710656) (h3 : nc.all (·.oneCell') = true) :
    appE i (.slice (some ⟨A, 0, none⟩) len (i.size + 1)) id (some (n, nc)) σ = some (.val (.slice (some ⟨id, 0, none⟩) (len + n) (i.size + 1))
      (((((σ.set A (.cells false ver F c)).set id (.cells true ver F (c ++ nc))).setFam F id).setHint A (len * i.size)).setHint id (len * i.size + nc.length))) := by
  simp only [appE, if_neg h0]
  rw [if_pos ⟨h1, h2⟩]
  simp only [h3, and_self, if_true, hA, Nat.zero_add]
  rw [if_pos (by omega)]
  have e1 : c.take (len * i.size) = c := List.take_of_length_le (by omega)
  simp only [appSt, hc, if_true, e1, List.drop_zero, Nat.sub_zero]
  rfl
def pairO (n : Nat) (r : Option (List Value)) : Option (Nat × List Value) := match r with
  | some l => some (n, l)
  | none => none
theorem pairO_some {n : Nat} {l : List Value} : pairO n (some l) = some (n, l) := nr rfl
theorem aps_slice {xT : TypeId} {i : TypeInfo} {z : Array Value} (h : P.underlying xT = some (.slice e)) {B o n k : Nat} (h0 : n ≠ 0) : appSrc P xT i z (.slice (some ⟨B, o, none⟩) n k) σ = pairO n (σ.read? B o (n * i.size)) := by
  simp only [appSrc, h, len?, src?, Nat.le_refl, if_true, if_neg h0, pairO]
  cases σ.read? B o (n * i.size) <;> rfl
theorem aps_empty {xT : TypeId} {i : TypeInfo} {z : Array Value} (h : P.underlying xT = some (.slice e)) {b : Option Addr} {k : Nat} (hb : b = none → k = 0) (hs : ∀ a, b = some a → a.spot = none) : appSrc P xT i z (.slice b 0 k) σ = some (0, []) := by
  cases b with
  | none => have := hb rfl; subst this; simp [appSrc, h, len?, src?]
  | some a =>
    obtain ⟨B, o, sp⟩ := a
    have := hs _ rfl
    simp only at this
    subst this
    simp [appSrc, h, len?, src?]
theorem aps_nil {xT : TypeId} {i : TypeInfo} {z : Array Value} (h : P.underlying xT = some (.slice e)) : appSrc P xT i z (.slice none 0 0) σ = some (0, []) := by simp [appSrc, h, len?, src?]
theorem aps_str {xT : TypeId} {i : TypeInfo} {z : Array Value} (h : P.underlying xT = some .string) (h1 : i.size = 1) {s : ByteArray} : appSrc P xT i z (.string s) σ = some (s.size, bytesOf s) := by
  have e : (bytesOf s).take s.size = bytesOf s := List.take_of_length_le (by simp [bytesOf])
  simp [appSrc, h, len?, src?, h1, e]

/-! ## Parts of slices and of strings -/
theorem bnd_none {n : Nat} : bnd n none = some n := nr rfl
theorem bnd_int {n : Nat} {k : IntKind} {i : Int} (h : 0 ≤ i) : bnd n (some (.int k i)) = some i.toNat := by
  cases i with
  | ofNat m => rfl
  | negSucc m => omega
def slE (n A o len k : Nat) (l h : Option Nat) : Option Value := match l, h with
  | some l, some h => if l ≤ h ∧ h ≤ len ∧ (k = 0 ∨ k = n + 1) then some (.slice (some ⟨A, o + l * n, none⟩) (h - l) k) else none
  | _, _ => none
theorem slE_some {n A o len k l h : Nat} (h1 : l ≤ h) (h2 : h ≤ len) (h3 : k = 0 ∨ k = n + 1) : slE n A o len k (some l) (some h) = some (.slice (some ⟨A, o + l * n, none⟩) (h - l) k) := by
  simp only [slE]; rw [if_pos ⟨h1, h2, h3⟩]
theorem sl_slice {n : Nat} (hu : P.underlying t = some (.slice e)) (hs : sz? P e = some n) (A o len k : Nat) (lo hi : Option Value) : opSlice P t (.slice (some ⟨A, o, none⟩) len k) lo hi none = slE n A o len k (bnd 0 lo) (bnd len hi) := by
  simp only [opSlice, hu, hs, slE]
  cases bnd len hi <;> cases bnd 0 lo <;> rfl
theorem o_sliceSl {lo hi mx : Option Operand} {a : Addr} {n k : Nat} (h : ρ x = .slice (some a) n k) : evalOp P ρ id { dst := d, op := .slice t x lo hi mx, type := ty, pos := pos, after := af, guard := gd } σ = valOf σ (opSlice P t (.slice (some a) n k) (lo.map ρ) (hi.map ρ) (mx.map ρ)) := by
  have hf : evalFlat P ρ { dst := d, op := .slice t x lo hi mx, type := ty, pos := pos, after := af, guard := gd } σ = none := by
    unfold evalFlat
    have : flatOps ρ (.slice t x lo hi mx) = false := by
      unfold flatOps
      cases hq : (Op.slice t x lo hi mx).operands.toList.all fun x => flatV (ρ x) with
      | false => rfl
      | true =>
        rw [List.all_eq_true] at hq
        have := hq x (by simp [Op.operands])
        rw [h] at this; cases this
    rw [this]; rfl
  unfold evalOp
  simp only [hf, h]
def strSl (σ : St) (s : ByteArray) (l h : Option Nat) : Option ARes := match l, h with
  | some l, some h => if l ≤ h ∧ h ≤ s.size then some (.val (.string (s.extract l h)) σ) else none
  | _, _ => none
theorem strSl_some {s : ByteArray} {l h : Nat} (h1 : l ≤ h) (h2 : h ≤ s.size) : strSl σ s (some l) (some h) = some (.val (.string (s.extract l h)) σ) := by
  simp only [strSl]; rw [if_pos ⟨h1, h2⟩]
end
end Go.Ev

namespace Go.Ev
open Go
set_option linter.unusedVariables false
set_option linter.unusedSimpArgs false
set_option linter.defProp false

section
variable {P : Program} {ρ : Operand → Value} {id : Nat} {σ : St} {d : Option Nat} {ty : TypeId} {pos : String} {af : Array Edge} {gd : Option (Nat × Bool)} {t s e : TypeId} {x y c : Operand} {k k' : IntKind}

/-! ## Conversions -/
theorem cv_int {kk : IntKind} (h : P.underlying s = some (.int kk)) (id : Nat) (v : Value) (σ : St) : opConvert P s e id v σ = none := by
  unfold opConvert; rw [h]
theorem cvi {kk : IntKind} (hs : P.underlying s = some (.int kk)) (he : P.underlying e = some (.int k)) (k' : IntKind) (n : Int) (σ : St) : sOne P (convert s e) (.int k' n) σ = some (.val (.int k (k.wrap n)) σ) := sOne_int hs he
theorem cv_sb {b : TypeId} (h1 : P.underlying s = some .string) (h2 : P.underlying e = some (.slice b)) (h3 : P.underlying b = some (.int .u8)) (id : Nat) (v : ByteArray) (σ : St) :
    opConvert P s e id (.string v) σ = some (.val (.slice (some ⟨id, 0, none⟩) v.size 2) (σ.set id (.cells true 0 id (bytesOf v)))) := by
  simp only [opConvert, h1, h2, h3]; rfl
def strR (σ : St) (r : Option Value) : Option ARes := match r with
  | some v => some (.val v σ)
  | none => none
theorem strR_some {v : Value} : strR σ (some v) = some (.val v σ) := nr rfl
theorem cv_bs {b : TypeId} (h1 : P.underlying s = some (.slice b)) (h2 : P.underlying e = some .string) (h3 : P.underlying b = some (.int .u8)) (id : Nat) (a : Option Addr) (n kk : Nat) (σ : St) :
    opConvert P s e id (.slice a n kk) σ = strR σ (opBytesString (.slice a n kk) σ) := by
  simp only [opConvert, h1, h2, h3, strR]
  cases opBytesString (.slice a n kk) σ <;> rfl
theorem cv_ss {σ : St} (h1 : P.underlying s = some .string) (h2 : P.underlying e = some .string) (id : Nat) (v : ByteArray) : ovr (opConvert P s e id (.string v) σ) (sOne P (convert s e) (.string v) σ) = some (.val (.string v) σ) := by
  have q1 : opConvert P s e id (.string v) σ = none := by simp [opConvert, h1, h2]
  rw [q1, ovr_none]
  exact sOne_of rfl (by simp only [convert, pureRun_bind, pureRun_underlying h1, pureRun_underlying h2, Option.bind_some]; rfl) rfl
theorem bytes_bytesOf (l : List UInt8) : bytes? (l.map byteV) = some l := by
  induction l with
  | nil => rfl
  | cons a l ih =>
    have hb : (a.toNat : Int) < 256 := by have := a.toNat_lt; omega
    simp [bytes?, byteV, ih]
theorem bytesStr_nil : opBytesString (.slice none 0 0) σ = some (.string ⟨#[]⟩) := nr rfl
theorem bytesStr {A o n kk : Nat} {l : List UInt8} (h : σ.read? A o n = some (l.map byteV)) (hn : l.length = n) : opBytesString (.slice (some ⟨A, o, none⟩) n kk) σ = some (.string ⟨l.toArray⟩) := by
  simp only [opBytesString, h, bytes_bytesOf]
  split
  · have : l = [] := List.length_eq_zero_iff.1 (by omega)
    subst this; rfl
  · simp [strOf]

/-! ## Parts -/
def sSlice (P : Program) (t : TypeId) (v : Value) (lo hi mx : Option Value) (σ : St) : Option ARes :=
  ovr (if flatV v && (lo.toList ++ hi.toList ++ mx.toList).all flatV then (match pureRun P (Instr.sliceAt t v lo hi mx) with
    | some r => if flatV r then some (.val r σ) else none
    | none => none) else none) (valOf σ (opSlice P t v lo hi mx))
theorem o_slice {lo hi mx : Option Operand} : evalOp P ρ id { dst := d, op := .slice t x lo hi mx, type := ty, pos := pos, after := af, guard := gd } σ = sSlice P t (ρ x) (lo.map ρ) (hi.map ρ) (mx.map ρ) σ := by
  have hf : evalFlat P ρ { dst := d, op := .slice t x lo hi mx, type := ty, pos := pos, after := af, guard := gd } σ = if flatV (ρ x) && ((lo.map ρ).toList ++ (hi.map ρ).toList ++ (mx.map ρ).toList).all flatV then (match pureRun P (Instr.sliceAt t (ρ x) (lo.map ρ) (hi.map ρ) (mx.map ρ)) with
    | some r => if flatV r then some (.val r σ) else none
    | none => none) else none := by
    unfold evalFlat
    have h1 : flatOps ρ (.slice t x lo hi mx) = (flatV (ρ x) && ((lo.map ρ).toList ++ (hi.map ρ).toList ++ (mx.map ρ).toList).all flatV) := by
      cases lo <;> cases hi <;> cases mx <;> simp [flatOps, Op.operands, Bool.and_assoc]
    have h2 : execOp ρ { dst := d, op := .slice t x lo hi mx, type := ty, pos := pos, after := af, guard := gd } = (do let v ← Instr.sliceAt t (ρ x) (lo.map ρ) (hi.map ρ) (mx.map ρ); pure (.value v)) := rfl
    simp only [h1, h2, isSelect, Bool.not_false, Bool.and_true, pureRun_bind]
    split
    · cases pureRun P (Instr.sliceAt t (ρ x) (lo.map ρ) (hi.map ρ) (mx.map ρ)) <;> rfl
    · rfl
  unfold evalOp
  simp only [hf, sSlice, ovr]
  rfl
theorem sSlice_sl {a : Addr} {n kk : Nat} {lo hi mx : Option Value} : sSlice P t (.slice (some a) n kk) lo hi mx σ = valOf σ (opSlice P t (.slice (some a) n kk) lo hi mx) := by
  simp only [sSlice]
  have : flatV (.slice (some a) n kk) = false := rfl
  rw [this]; simp [ovr]

/-- The bounds of a part of a text. -/
theorem sliceBound_pure {n : Nat} {i : Int} {code : BoundsCode} (h0 : 0 ≤ i) (h : i ≤ n) : pureRun P (Instr.sliceBound (.int k i) n code) = some i.toNat := by
  simp only [Instr.sliceBound, asIntOf, pureRun_bind, pureRun_pure, Option.bind_some]
  rw [if_pos ⟨h0, h⟩]; rfl
theorem bnd_cases {n m : Nat} {o : Option Value} (h : bnd n o = some m) : (o = none ∧ n = m) ∨ ∃ k : IntKind, o = some (Value.int k (m : Int)) := by
  cases o with
  | none => simp only [bnd, Option.some.injEq] at h; exact .inl ⟨rfl, h⟩
  | some q =>
    unfold bnd at h
    split at h
    · rename_i e; cases e
    · rename_i k n e
      cases e
      cases h
      exact .inr ⟨k, rfl⟩
    · cases h
theorem sSlice_str {v : ByteArray} {lo hi : Option Value} (hu : P.underlying t = some .string) (hf : (lo.toList ++ hi.toList).all flatV = true) {l h : Nat} (hl : bnd 0 lo = some l) (hh : bnd v.size hi = some h) (h1 : l ≤ h) (h2 : h ≤ v.size) :
    sSlice P t (.string v) lo hi none σ = some (.val (.string (v.extract l h)) σ) := by
  have key : pureRun P (Instr.sliceAt t (.string v) lo hi none) = some (.string (v.extract l h)) := by
    have hb : pureRun P (Instr.sliceBounds false v.size v.size lo hi none) = some (l, h, v.size) := by
      rcases bnd_cases hl with ⟨rfl, rfl⟩ | ⟨kl, rfl⟩ <;> rcases bnd_cases hh with ⟨rfl, rfl⟩ | ⟨kh, rfl⟩ <;>
        simp only [Instr.sliceBounds, pureRun_bind, pureRun_pure, Option.bind_some, Option.isSome_none] <;>
        (first
          | rfl
          | (simp only [sliceBound_pure (P := P) (k := kl) (n := h) (i := (l : Int)) (Int.natCast_nonneg _) (Int.ofNat_le.2 h1), sliceBound_pure (P := P) (k := kh) (n := v.size) (i := (h : Int)) (Int.natCast_nonneg _) (Int.ofNat_le.2 h2), pureRun_bind, pureRun_pure, Option.bind_some, Int.toNat_natCast]; done)
          | (simp only [sliceBound_pure (P := P) (k := kl) (n := v.size) (i := (l : Int)) (Int.natCast_nonneg _) (Int.ofNat_le.2 h1), pureRun_bind, pureRun_pure, Option.bind_some, Int.toNat_natCast]; done)
          | (simp only [sliceBound_pure (P := P) (k := kh) (n := v.size) (i := (h : Int)) (Int.natCast_nonneg _) (Int.ofNat_le.2 h2), pureRun_bind, pureRun_pure, Option.bind_some, Int.toNat_natCast]; done))
    unfold Instr.sliceAt
    rw [pureRun_bind, pureRun_underlying hu, Option.bind_some]
    show pureRun P (Instr.slice t (Value.string v) lo hi none) = _
    unfold Instr.slice
    rw [pureRun_bind, pureRun_underlying hu, Option.bind_some]
    show pureRun P (Instr.sliceBounds false v.size v.size lo hi none >>= fun q => pure (Value.string (v.extract q.1 q.2.1))) = _
    rw [pureRun_bind, hb]
    rfl
  simp only [sSlice, Option.toList_none, List.append_nil, hf, key]
  rfl
theorem flat_int {n : Int} : flatV (.int k n) = true := rfl
theorem str_lo {v : ByteArray} {i : Int} (hu : P.underlying t = some .string) (h0 : 0 ≤ i) (h1 : i ≤ v.size) : sSlice P t (.string v) (some (.int k i)) none none σ = some (.val (.string (v.extract i.toNat v.size)) σ) :=
  sSlice_str hu (by simp [flat_int]) (bnd_int h0) bnd_none (by omega) (Nat.le_refl _)
theorem str_hi {v : ByteArray} {i : Int} (hu : P.underlying t = some .string) (h0 : 0 ≤ i) (h1 : i ≤ v.size) : sSlice P t (.string v) none (some (.int k i)) none σ = some (.val (.string (v.extract 0 i.toNat)) σ) :=
  sSlice_str hu (by simp [flat_int]) bnd_none (bnd_int h0) (Nat.zero_le _) (by omega)
theorem str_both {v : ByteArray} {i j : Int} (hu : P.underlying t = some .string) (h0 : 0 ≤ i) (h1 : i ≤ j) (h2 : j ≤ v.size) : sSlice P t (.string v) (some (.int k i)) (some (.int k' j)) none σ = some (.val (.string (v.extract i.toNat j.toNat)) σ) :=
  sSlice_str hu (by simp [flat_int]) (bnd_int h0) (bnd_int (by omega)) (by omega) (by omega)
theorem nil_hi {i : Int} (hu : P.underlying t = some (.slice e)) {n : Nat} (hs : sz? P e = some n) (h0 : i = 0) : sSlice P t (.slice none 0 0) none (some (.int k i)) none σ = some (.val (.slice none 0 0) σ) := by
  subst h0
  have q : opSlice P t (.slice none 0 0) none (some (.int k 0)) none = some (.slice none 0 0) := by simp only [opSlice, hu, hs]; rfl
  have key : pureRun P (Instr.sliceAt t (.slice none 0 0) none (some (.int k 0)) none) = (pureRun P (sizeOf e)).bind fun _ => some (.slice none 0 0) := by
    unfold Instr.sliceAt
    rw [pureRun_bind, pureRun_underlying hu, Option.bind_some]
    show pureRun P (Instr.slice t (Value.slice none 0 0) none (some (Value.int k 0)) none) = _
    unfold Instr.slice
    rw [pureRun_bind, pureRun_underlying hu, Option.bind_some]
    show pureRun P (Instr.sliceBounds true 0 0 none (some (Value.int k 0)) none >>= fun q => sizeOf e >>= fun size => pure (Value.slice (if q.2.2 = q.1 then none else (none : Option Addr).map (·.add (q.1 * size))) (q.2.1 - q.1) (q.2.2 - q.1))) = _
    have hb : pureRun P (Instr.sliceBounds true 0 0 none (some (.int k 0)) none) = some (0, 0, 0) := by rfl
    rw [pureRun_bind, hb, Option.bind_some, pureRun_bind]
    rfl
  unfold sSlice
  rw [q]
  simp only [key]
  cases pureRun P (sizeOf e) <;> simp [ovr, valOf, flatV, flat0]

/-! ## Lengths and indices -/
def sCall1 (P : Program) (σ : St) (f : Array Value → Sem Value) (a : Value) : Option ARes := if flatV a then (match pureRun P (f #[a]) with
    | some r => if flatV r then some (.val r σ) else none
    | none => none) else none
theorem execOp_b {b : Builtin} {args : List Operand} {at' : Array TypeId} (hb : ∀ vs, invoke (.builtin b at' ty ((⟨args⟩ : Array Operand).map fun | .const _ => true | _ => false)) vs = (do let v ← (match b with | .len => Builtin.len_ at' ty vs | .min => Builtin.min_ at' ty vs | .max => Builtin.max_ at' ty vs | _ => stuck "x"); pure (.value v))) :
    execOp ρ { dst := d, op := .call { callee := .builtin b, args := ⟨args⟩, argTypes := at' }, type := ty, pos := pos, after := af, guard := gd } = (do let v ← (match b with | .len => Builtin.len_ at' ty ⟨args.map ρ⟩ | .min => Builtin.min_ at' ty ⟨args.map ρ⟩ | .max => Builtin.max_ at' ty ⟨args.map ρ⟩ | _ => stuck "x"); pure (.value v)) := by
  have hm : (⟨args⟩ : Array Operand).map ρ = ⟨args.map ρ⟩ := by simp
  unfold execOp Go.resolve
  simp only [hm, pure_bind]
  exact hb _
def sCallN (P : Program) (σ : St) (f : Array Value → Sem Value) (l : List Value) : Option ARes := if l.all flatV then (match pureRun P (f ⟨l⟩) with
    | some r => if flatV r then some (.val r σ) else none
    | none => none) else none
theorem evalFlat_b {b : Builtin} {args : List Operand} {at' : Array TypeId} {f : Array Value → Sem Value} (hb : execOp ρ { dst := d, op := .call { callee := .builtin b, args := ⟨args⟩, argTypes := at' }, type := ty, pos := pos, after := af, guard := gd } = (do let v ← f ⟨args.map ρ⟩; pure (.value v))) :
    evalFlat P ρ { dst := d, op := .call { callee := .builtin b, args := ⟨args⟩, argTypes := at' }, type := ty, pos := pos, after := af, guard := gd } σ = sCallN P σ f (args.map ρ) := by
  unfold evalFlat sCallN
  have h1 : flatOps ρ (.call { callee := .builtin b, args := ⟨args⟩, argTypes := at' }) = (args.map ρ).all flatV := by
    simp [flatOps, Op.operands, Call.operands, List.all_map, Function.comp_def]
  simp only [h1, hb, isSelect, Bool.not_false, Bool.and_true, pureRun_bind]
  split
  · cases pureRun P (f ⟨args.map ρ⟩) <;> rfl
  · rfl
theorem o_lenStr (h : P.underlying t = some .string) (ρ : Operand → Value) (id : Nat) (σ : St) (d : Option Nat) (ty : TypeId) (pos : String) (af : Array Edge) (gd : Option (Nat × Bool)) (x : Operand) :
    evalOp P ρ id { dst := d, op := .call { callee := .builtin .len, args := #[x], argTypes := #[t] }, type := ty, pos := pos, after := af, guard := gd } σ = sCallN P σ (Builtin.len_ #[t] ty) [ρ x] := by
  unfold evalOp
  simp only [h]
  exact evalFlat_b (args := [x]) (execOp_b (b := .len) (fun vs => rfl))
theorem o_min {args : List Operand} {at' : Array TypeId} : evalOp P ρ id { dst := d, op := .call { callee := .builtin .min, args := ⟨args⟩, argTypes := at' }, type := ty, pos := pos, after := af, guard := gd } σ = sCallN P σ (Builtin.min_ at' ty) (args.map ρ) := by
  unfold evalOp
  exact evalFlat_b (execOp_b (b := .min) (fun vs => rfl))
theorem o_max {args : List Operand} {at' : Array TypeId} : evalOp P ρ id { dst := d, op := .call { callee := .builtin .max, args := ⟨args⟩, argTypes := at' }, type := ty, pos := pos, after := af, guard := gd } σ = sCallN P σ (Builtin.max_ at' ty) (args.map ρ) := by
  unfold evalOp
  exact evalFlat_b (execOp_b (b := .max) (fun vs => rfl))
theorem lenStr (h : P.underlying t = some .string) (ty : TypeId) (v : ByteArray) (σ : St) : sCallN P σ (Builtin.len_ #[t] ty) [.string v] = some (.val (.int .i64 v.size) σ) := by
  have : pureRun P (Builtin.len_ #[t] ty #[.string v]) = some (.int .i64 v.size) := by
    simp [Builtin.len_, pureRun_bind, pureRun_underlying h, goInt]
  unfold sCallN
  rw [if_pos (by rfl)]
  simp only [this]
  rfl
theorem o_lenSlice (h : P.underlying t = some (.slice e)) (ρ : Operand → Value) (id : Nat) (σ : St) (d : Option Nat) (ty : TypeId) (pos : String) (af : Array Edge) (gd : Option (Nat × Bool)) (x : Operand) :
    evalOp P ρ id { dst := d, op := .call { callee := .builtin .len, args := #[x], argTypes := #[t] }, type := ty, pos := pos, after := af, guard := gd } σ = valOf σ (opLen (ρ x)) := o_lenSl h
theorem opLen_sl {a : Option Addr} {n kk : Nat} : opLen (.slice a n kk) = some (.int .i64 n) := nr rfl
theorem min_int {at' : Array TypeId} {a b : Int} : sCallN P σ (Builtin.min_ at' ty) [.int k a, .int k b] = some (.val (.int k (min a b)) σ) := by
  have : pureRun P (Builtin.min_ at' ty #[.int k a, .int k b]) = some (.int k (min a b)) := by
    have e : (if b < a then b else a) = min a b := by rw [Int.min_def]; split <;> split <;> omega
    simp [Builtin.min_, Builtin.min2, pureRun_bind, e]
  unfold sCallN
  rw [if_pos (by rfl)]
  simp only [this]
  rfl
theorem max_int {at' : Array TypeId} {a b : Int} : sCallN P σ (Builtin.max_ at' ty) [.int k a, .int k b] = some (.val (.int k (max a b)) σ) := by
  have : pureRun P (Builtin.max_ at' ty #[.int k a, .int k b]) = some (.int k (max a b)) := by
    have e : (if a < b then b else a) = max a b := by rw [Int.max_def]; split <;> split <;> omega
    simp [Builtin.max_, Builtin.max2, pureRun_bind, e]
  unfold sCallN
  rw [if_pos (by rfl)]
  simp only [this]
  rfl

/-! ## Indices -/
def sIndex (P : Program) (t : TypeId) (v i : Value) (σ : St) : Option ARes :=
  ovr (if flatV v && flatV i then (match pureRun P (Instr.index t v i) with
    | some r => if flatV r then some (.val r σ) else none
    | none => none) else none) (valOf σ (opIndexArr P t v i))
theorem o_index : evalOp P ρ id { dst := d, op := .index t x y, type := ty, pos := pos, after := af, guard := gd } σ = sIndex P t (ρ x) (ρ y) σ := by
  have hf : evalFlat P ρ { dst := d, op := .index t x y, type := ty, pos := pos, after := af, guard := gd } σ = if flatV (ρ x) && flatV (ρ y) then (match pureRun P (Instr.index t (ρ x) (ρ y)) with
    | some r => if flatV r then some (.val r σ) else none
    | none => none) else none := by
    unfold evalFlat
    have h1 : flatOps ρ (.index t x y) = (flatV (ρ x) && flatV (ρ y)) := by simp [flatOps, Op.operands]
    have h2 : execOp ρ { dst := d, op := .index t x y, type := ty, pos := pos, after := af, guard := gd } = (do let v ← Instr.index t (ρ x) (ρ y); pure (.value v)) := rfl
    simp only [h1, h2, isSelect, Bool.not_false, Bool.and_true, pureRun_bind]
    split
    · cases pureRun P (Instr.index t (ρ x) (ρ y)) <;> rfl
    · rfl
  unfold evalOp
  simp only [hf, sIndex, ovr]
  rfl
theorem ix_str (hu : P.underlying t = some .string) (v : ByteArray) (k : IntKind) (i : Int) (σ : St) (h0 : 0 ≤ i) (h1 : i < v.size) : sIndex P t (.string v) (.int k i) σ = some (.val (.int .u8 ((v.data.toList.getD i.toNat 0).toNat : Int)) σ) := by
  have hlt : i.toNat < v.size := by omega
  have hg : v[i.toNat]? = some (v.data.toList.getD i.toNat 0) := by
    have hl : v.data.toList.length = v.size := by simp
    have e1 : v.data.toList.getD i.toNat 0 = v[i.toNat] := by
      rw [List.getD_eq_getElem?_getD, List.getElem?_eq_getElem (by omega)]
      simp; rfl
    rw [e1]
    exact getElem?_pos v i.toNat hlt
  have key : pureRun P (Instr.index t (.string v) (.int k i)) = some (.int .u8 ((v.data.toList.getD i.toNat 0).toNat : Int)) := by
    simp only [Instr.index, asIntOf, pureRun_bind, pureRun_pure, Option.bind_some, pureRun_underlying hu, if_pos h0, hg]
  unfold sIndex
  rw [if_pos (by rfl), key]
  rfl
theorem ia_slice {n : Nat} (hu : P.underlying t = some (.slice e)) (hs : sz? P e = some n) (A o len kk : Nat) (k : IntKind) (i : Int) (h0 : 0 ≤ i) (h1 : i < len) : opIndexAddr P t (.slice (some ⟨A, o, none⟩) len kk) (.int k i) = some (.pointer (some ⟨A, o + i.toNat * n, none⟩)) := by
  obtain ⟨m, rfl⟩ := Int.eq_ofNat_of_zero_le h0
  simp only [opIndexAddr, hu, hs]
  rw [if_pos (by omega)]; rfl
theorem ia_array {n len : Nat} (hu : P.underlying t = some (.array len e)) (hs : sz? P e = some n) (A o : Nat) (k : IntKind) (i : Int) (h0 : 0 ≤ i) (h1 : i < len) : opIndexAddr P t (.pointer (some ⟨A, o, none⟩)) (.int k i) = some (.pointer (some ⟨A, o + i.toNat * n, none⟩)) := by
  obtain ⟨m, rfl⟩ := Int.eq_ofNat_of_zero_le h0
  simp only [opIndexAddr, hu, hs]
  rw [if_pos (by omega)]; rfl
theorem fa_of {off f : Nat} (h : fieldOf P s f = some off) (A o : Nat) : opFieldAddr P s f (.pointer (some ⟨A, o, none⟩)) = some (.pointer (some ⟨A, o + off, none⟩)) := by
  simp only [opFieldAddr, h]

/-! ## Iterators, tuples, calls -/
theorem rg_str (hu : P.underlying t = some .string) (id : Nat) (v : ByteArray) (σ : St) : opRange P t id (.string v) σ = some (.val (.pointer (some ⟨id, 0, none⟩)) (σ.set id (.iter v 0))) := by
  simp only [opRange, hu]; rfl
def nextG (σ : St) (A : Nat) (o : Option AObj) : Option ARes := match o with
  | some (.iter s pos) => if pos < s.size then
        some (.val (.tuple #[.bool true, .int .i64 (pos : Nat), .int .i32 ((Utf8.decode s pos).1 : Nat)]) (σ.set A (.iter s (pos + (Utf8.decode s pos).2))))
      else some (.val (.tuple #[.bool false]) σ)
  | _ => none
theorem next_get {A : Nat} : opNext true (.pointer (some ⟨A, 0, none⟩)) σ = nextG σ A (σ.get A) := by
  unfold opNext nextG
  simp only
  cases σ.get A with
  | none => rfl
  | some o => cases o <;> rfl
theorem nextG_more {A pos : Nat} {v : ByteArray} (h : pos < v.size) : nextG σ A (some (.iter v pos)) = some (.val (.tuple #[.bool true, .int .i64 (pos : Nat), .int .i32 ((Utf8.decode v pos).1 : Nat)]) (σ.set A (.iter v (pos + (Utf8.decode v pos).2)))) := by
  simp only [nextG, if_pos h]
theorem nextG_end {A pos : Nat} {v : ByteArray} (h : ¬ pos < v.size) : nextG σ A (some (.iter v pos)) = some (.val (.tuple #[.bool false]) σ) := by
  simp only [nextG, if_neg h]
theorem ext_0 {a : Value} {l : List Value} : opExtract 0 (.tuple ⟨a :: l⟩) = some a := nr rfl
theorem ext_s {a : Value} {l : List Value} {n : Nat} : opExtract (n + 1) (.tuple ⟨a :: l⟩) = opExtract n (.tuple ⟨l⟩) := by simp [opExtract]
theorem inv_f {f : FuncId} {a c args : List Value} : opInvoke P (.func (.func f) ⟨a⟩ ⟨c⟩) ⟨args⟩ σ = opCall P f ⟨a ++ args ++ c⟩ σ := by simp [opInvoke]
theorem call_b {f : FuncId} {fn : Func} (hf : P.funcs[f]? = some fn) (hn : (fn.name == "runtime.NumGoroutine") = false) (hb : fn.body.isNone = false) (args : Array Value) (σ : St) : opCall P f args σ = some (.enter f args) := by
  simp only [opCall, hf, hn, hb]; rfl
theorem map_lit {l : List Operand} {ρ : Operand → Value} : (⟨l⟩ : Array Operand).map ρ = ⟨l.map ρ⟩ := by simp

theorem cells_agg {c : Array Value} : Value.cells (.agg c) = c := nr rfl

/-! ## Making -/
def makeG (i : TypeInfo) (z : Option (Array Value)) (id : Nat) (n m : Value) (σ : St) : Option ARes := match n, m with
  | .int _ (.ofNat n), .int _ (.ofNat m) => if n ≤ m && m ≤ 9223372036854775807 && i.bytes * m ≤ 281474976710656 then match (if m * i.size = 0 then some #[] else z) with
        | some z => some (.val (sliceTo id n i.size) (opNew id (zrow z (m * i.size)) σ))
        | none => none
      else none
  | _, _ => none
end
end Go.Ev
