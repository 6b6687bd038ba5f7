/-
  The evaluator and the contracts, merged out of 4 texts (Ev44 to SkE). No condition.
-/
import Derived.Test.YtedojhheppepdaaGreatDoorKSn1TEv43
import Derived.Test.YtedojhheppepdaaGreatDoorKSkD1
import Derived.Test.YtedojhheppepdaaGreatDoorKSkT
import Derived.KernelRfl

namespace Go.Ev
open Go
set_option linter.unusedVariables false
set_option linter.unusedSimpArgs false

theorem VRel.backs {g g' : Gam} (hg : Gam.le g g') {v v0 : Value} (h : VRel g v v0) : ∀ {v1 : Value}, VRel g' v v1 → VRel g v v1 := by
  induction h with
  | bool b => intro v1 k; cases k; exact .bool b
  | int k n => intro v1 k; cases k; exact .int _ _
  | float k b => intro v1 k; cases k; exact .float _ _
  | complex k a b => intro v1 k; cases k; exact .complex _ _ _
  | string s => intro v1 k; cases k; exact .string _
  | nilPtr => intro v1 k; cases k; exact .nilPtr
  | ptr A o x h =>
    intro v1 k
    cases k with
    | ptr _ _ y h' =>
      have := hg A x h
      rw [h'] at this; cases this
      exact .ptr A o _ h
  | nilSlice => intro v1 k; cases k; exact .nilSlice
  | slice A o len kk x o' c h hl ho h0 hk =>
    intro v1 k
    cases k with
    | slice _ _ _ _ y o2 c2 h' hl' ho' h0' hk' =>
      have := hg A x h
      rw [h'] at this; cases this
      exact .slice A o len kk _ o2 c2 h hl' ho' h0' hk'
  | nilMap => intro v1 k; cases k; exact .nilMap
  | map A x h =>
    intro v1 k
    cases k with
    | map _ y h' =>
      have := hg A x h
      rw [h'] at this; cases this
      exact .map A _ h
  | nilFunc => intro v1 k; cases k; exact .nilFunc
  | func fn a b c d h1 h2 h3 h4 ih2 ih4 =>
    intro v1 k
    cases k with
    | func _ _ b' _ d' k1 k2 k3 k4 => exact .func fn a b' c d' k1 (fun i p p' => ih2 i p (by rw [← h1]; exact p) (k2 i p p')) k3 (fun i p p' => ih4 i p (by rw [← h3]; exact p) (k4 i p p'))
    | yield l l' => exact .yield _ _
  | yield l l' =>
    intro v1 k
    cases k with
    | func _ _ b' _ d' k1 k2 k3 k4 => exact .func _ _ _ _ _ k1 (fun i p p' => absurd p (by simp)) k3 (fun i p p' => absurd p (by simp))
    | yield l l' => exact .yield _ _
  | iface t v v' h ih =>
    intro v1 k
    cases k with
    | iface _ _ v2 k => exact .iface t _ _ (ih k)
  | nilIface => intro v1 k; cases k; exact .nilIface
  | agg a b h1 h2 ih =>
    intro v1 k
    cases k with
    | agg _ b' k1 k2 => exact .agg a b' k1 fun i p p' => ih i p (by rw [← h1]; exact p) (k2 i p p')
  | tuple a b h1 h2 ih =>
    intro v1 k
    cases k with
    | tuple _ b' k1 k2 => exact .tuple a b' k1 fun i p p' => ih i p (by rw [← h1]; exact p) (k2 i p p')

/-- Old blocks are as they were, and their families. -/
structure Keeps (σ σ' : St) : Prop where
  next : σ.next ≤ σ'.next
  get : ∀ B, B < σ.next → σ'.get B = σ.get B
  fam : ∀ F, F < σ.next → σ'.famO F = σ.famO F
theorem Keeps.refl (σ : St) : Keeps σ σ := ⟨Nat.le_refl _, fun _ _ => rfl, fun _ _ => rfl⟩
theorem Keeps.trans {a b c : St} (h : Keeps a b) (k : Keeps b c) : Keeps a c :=
  ⟨Nat.le_trans h.next k.next, fun B e => (k.get B (Nat.lt_of_lt_of_le e h.next)).trans (h.get B e), fun F e => (k.fam F (Nat.lt_of_lt_of_le e h.next)).trans (h.fam F e)⟩
theorem Keeps.bump {σ : St} {n : Nat} : Keeps σ (σ.bump n) := ⟨Nat.le_add_right _ _, fun _ _ => rfl, fun _ _ => rfl⟩
theorem St.Wf.none_ge {σ : St} (h : σ.Wf) {A : Nat} (hA : σ.next ≤ A) : σ.get A = none := by
  cases e : σ.get A with
  | none => rfl
  | some o => exact absurd (h.lt _ _ e) (by omega)
theorem Keeps.set {σ τ : St} {B : Nat} {o : AObj} (h : Keeps σ τ) (hB : σ.next ≤ B) : Keeps σ (τ.set B o) :=
  ⟨h.next, fun A e => by simp [show ¬ (B = A) by omega, h.get A e], fun F e => by simp [h.fam F e]⟩
theorem Keeps.setFam {σ τ : St} {B O : Nat} (h : Keeps σ τ) (hB : σ.next ≤ B) : Keeps σ (τ.setFam B O) :=
  ⟨h.next, fun A e => by simp [h.get A e], fun F e => by simp [show ¬ (B = F) by omega, h.fam F e]⟩
theorem Keeps.setHint {σ τ : St} {B O : Nat} (h : Keeps σ τ) : Keeps σ (τ.setHint B O) :=
  ⟨h.next, fun A e => by simp [h.get A e], fun F e => by simp [h.fam F e]⟩
theorem Keeps.bump' {σ τ : St} {n : Nat} (h : Keeps σ τ) : Keeps σ (τ.bump n) := h.trans .bump
theorem Keeps.old {σ σ' : St} (h : Keeps σ σ') (hw : σ.Wf) {A : Nat} {o : AObj} (e : σ.get A = some o) : σ'.get A = some o := (h.get A (hw.lt _ _ e)).trans e
theorem Keeps.rd {σ σ' : St} (h : Keeps σ σ') (hw : σ.Wf) {A : Nat} {own : Bool} {v F : Nat} {c : List Value} (e : σ.get A = some (.cells own v F c)) : σ'.rd own v F = σ.rd own v F := by
  obtain ⟨o, ho⟩ := hw.founder A own v F c e
  unfold St.rd
  rw [h.fam F (hw.lt _ _ ho)]
  cases hf : σ.famO F with
  | none => rfl
  | some O =>
    obtain ⟨own', v', c', hO⟩ := hw.named F O hf
    simp only [h.get O (hw.lt _ _ hO)]
theorem Keeps.cells {σ σ' : St} (h : Keeps σ σ') (hw : σ.Wf) {A : Nat} {c : List Value} (e : σ.cells? A = some c) : σ'.cells? A = some c := by
  obtain ⟨own, v, F, h1, h2⟩ := cells_some e
  have g1 := h.old hw h1
  have g2 := (h.rd hw h1).trans h2
  unfold St.cells?
  rw [g1]; simp only [g2, if_true]

theorem SimF.forget {P : Program} {gl : List Nat} {f : FuncId} {args : Array Value} {σ σ' : St} {v : Value} (h : SimF P gl f args σ v σ') (hk : Keeps σ σ') (hv : ∀ g args', ARel g args args' → ∃ v0, VRel g v v0) : SimF P gl f args σ v σ := by
  intro g w args' hg hr ha
  obtain ⟨v0, hv0⟩ := hv g args' ha
  refine (h g w args' hg hr ha).mono ?_
  rintro e w' ⟨v', g', rfl, hv', hr', hx⟩
  refine ⟨v', g, rfl, hv0.backs hx.le hv', ⟨hr.wf, fun A x hA => Nat.lt_of_lt_of_le (hr.blk A x hA) hx.size, fun A x hA => ?_, hr.share, hr.order⟩,
    ⟨Gam.le_refl g, fun A x h1 h2 => (by rw [h1] at h2; cases h2), fun A x h1 h2 => (by rw [h1] at h2; cases h2), hx.size, hx.keep, fun _ _ _ => rfl, fun _ q => ⟨rfl, q⟩, Nat.le_refl _, hx.os, hx.out, hx.tape⟩⟩
  obtain ⟨o, ho, hs⟩ := hr.obj A x hA
  obtain ⟨o', ho', hs'⟩ := hr'.obj A x (hx.le A x hA)
  rw [hk.old hr.wf ho] at ho'; cases ho'
  refine ⟨o, ho, ?_⟩
  cases o with
  | cells own ver fam c =>
    obtain ⟨cs, el, fr, h1, h2, h3, h4⟩ := hs
    obtain ⟨cs', el', fr', k1, k2, k3, k4⟩ := hs'
    refine ⟨cs', el', fr', k1, k2, fun hrd i hi => ?_, k4⟩
    obtain ⟨a, _, a2⟩ := h3 hrd i hi
    obtain ⟨b, b1, b2⟩ := k3 ((hk.rd hr.wf ho).trans hrd) i hi
    exact ⟨b, b1, a2.backs hx.le b2⟩
  | iter s pos => exact hs'
  | map es clock =>
    obtain ⟨es1, h1, h2⟩ := hs
    obtain ⟨es2, k1, k2⟩ := hs'
    refine ⟨es2, k1, k2.1, fun i p p' => ?_⟩
    obtain ⟨m1, m2, m3⟩ := k2.2 i p p'
    obtain ⟨n1, n2, n3⟩ := h2.2 i p (by rw [← h2.1]; exact p)
    exact ⟨n1.backs hx.le m1, n2.backs hx.le m2, m3⟩
theorem flat_old {v : Value} (h : flatV v = true) : ∀ (args : Array Value) (g : Gam) (args' : Array Value), ARel g args args' → ∃ v0, VRel g v v0 := fun _ g _ _ => ⟨v, flatV_rel h⟩
theorem TF.forget {P : Program} {gl : List Nat} {f : FuncId} {args : Array Value} {σ : St} {Q : Value → St → Prop} {R : Value → Prop} (h : TF P gl f args σ Q) (hq : ∀ v σ', Q v σ' → Keeps σ σ' ∧ R v ∧ ∀ g args', ARel g args args' → ∃ v0, VRel g v v0) : TF P gl f args σ fun v σ' => σ' = σ ∧ R v := by
  obtain ⟨v, σ', hs, hQ⟩ := h
  obtain ⟨h1, h2, h3⟩ := hq v σ' hQ
  exact ⟨v, σ, hs.forget h1 h3, rfl, h2⟩
theorem TF.sim {P : Program} {gl : List Nat} {f : FuncId} {args : Array Value} {σ : St} {v : Value} (h : TF P gl f args σ fun v' σ' => σ' = σ ∧ v' = v) : SimF P gl f args σ v σ := by
  obtain ⟨_, _, hs, rfl, rfl⟩ := h
  exact hs
theorem TF.of_wf {P : Program} {gl : List Nat} {f : FuncId} {args : Array Value} {σ : St} {v : Value} (h : σ.Wf → TF P gl f args σ fun v' σ' => σ' = σ ∧ v' = v) : SimF P gl f args σ v σ := SimF.of_wf fun hw => (h hw).sim
end Go.Ev

namespace Go.Ev
open Go
set_option linter.unusedVariables false
set_option linter.unusedSimpArgs false

def sameB (ev : St → Option ARes) (v : Value) (τ : St) : Bool := match ev τ with
  | some (.val v' _) => veq v' v
  | _ => false
def chkReadB (ops : Array Oper) (i : Nat) (ev : St → Option ARes) (v : Value) : List (Nat × St × St) → Bool
  | [] => true
  | (j, τ, τ') :: l => cond (cond (ordB ops i j) true (cond (sameB ev v τ) (sameB ev v τ') false)) (chkReadB ops i ev v l) false
def chkLoudB (ops : Array Oper) (j : Nat) (τ τ' : St) : List (Nat × (St → Option ARes) × Value) → Bool
  | [] => true
  | (k, ev, v) :: l => cond (cond (ordB ops k j) true (cond (sameB ev v τ) (sameB ev v τ') false)) (chkLoudB ops j τ τ' l) false
/-- A read tells a value and leaves the state. -/
def IsRead (ev : St → Option ARes) : Prop := ∀ τ q, ev τ = some q → ∃ v, q = .val v τ
theorem sameB_ok {ev : St → Option ARes} {v : Value} {τ : St} (h : sameB ev v τ = true) (hr : IsRead ev) : sameR ev v τ := by
  unfold sameB at h
  unfold sameR
  split at h
  · rename_i v' τ' he
    obtain ⟨u, hu⟩ := hr τ _ he
    cases hu
    rw [he, veq_eq h]
  · cases h
theorem pairB_ok {b : Bool} {ev : St → Option ARes} {v : Value} {τ τ' : St} {K : Prop} (h : cond b true (cond (sameB ev v τ) (sameB ev v τ') false) = true) (hr : IsRead ev) (hK : K) : onPair b (sameR ev v τ ∧ sameR ev v τ') K := by
  cases b with
  | true => exact hK
  | false =>
    obtain ⟨h1, h2⟩ := cond3 h
    exact ⟨⟨sameB_ok h1 hr, sameB_ok h2 hr⟩, hK⟩
theorem chkReadB_ok {ops : Array Oper} {i : Nat} {ev : St → Option ARes} {v : Value} {K : Prop} (hr : IsRead ev) (hK : K) : ∀ {l : List (Nat × St × St)}, chkReadB ops i ev v l = true → chkRead ops i ev v l K
  | [], _ => hK
  | (j, τ, τ') :: l, h => by
    obtain ⟨h1, h2⟩ := cond3 h
    exact pairB_ok h1 hr (chkReadB_ok hr hK h2)
theorem chkLoudB_ok {ops : Array Oper} {j : Nat} {τ τ' : St} {K : Prop} (hK : K) : ∀ {l : List (Nat × (St → Option ARes) × Value)}, (∀ x ∈ l, IsRead x.2.1) → chkLoudB ops j τ τ' l = true → chkLoud ops j τ τ' l K
  | [], _, _ => hK
  | (k, ev, v) :: l, hr, h => by
    obtain ⟨h1, h2⟩ := cond3 h
    exact pairB_ok h1 (hr _ List.mem_cons_self) (chkLoudB_ok hK (fun x hx => hr x (List.mem_cons_of_mem _ hx)) h2)
theorem onW_true {A B : Prop} : onW true A B = B := rfl
def runU (P : Program) (C : CallF) (ops : Array Oper) (base : Nat) : List Oper → Nat → Env → St → List (Nat × AObj) → List (Nat × (St → Option ARes) × Value) → List (Nat × St × St) → Option (Env × St)
  | [], _, env, τ, pend, _, _ => some (env, instP pend τ)
  | o :: r, i, env, τ, pend, rs, ls => cond (wantedA ops env o) (match clsOf P o.op with
    | .pure => match evalOp P (rho env) (base + i) o τ with
      | some (.val v _) => runU P C ops base r (i + 1) (eputo env o.dst v) τ pend rs ls
      | _ => none
    | .alloc => match evalOp P (rho env) (base + i) o τ with
      | some (.val v σ1) => match σ1.get (base + i) with
        | some ao => runU P C ops base r (i + 1) (eputo env o.dst v) τ (pend ++ [(base + i, ao)]) rs ls
        | none => none
      | _ => none
    | .read => match evalOp P (rho env) (base + i) o τ with
      | some (.val v _) => cond (chkReadB ops i (evalOp P (rho env) (base + i) o) v ls) (runU P C ops base r (i + 1) (eputo env o.dst v) τ pend ((i, evalOp P (rho env) (base + i) o, v) :: rs) ls) none
      | _ => none
    | .loud => match stepOp P C env (base + i) o (instP pend τ) with
      | some (v, σ') => cond (chkLoudB ops i τ σ' rs) (runU P C ops base r (i + 1) (eputo env o.dst v) σ' [] rs ((i, τ, σ') :: ls)) none
      | none => none) (runU P C ops base r (i + 1) (eputo env o.dst undef) τ pend rs ls)
theorem runU_ok {P : Program} {gl : List Nat} {C : CallF} {ops : Array Oper} {base : Nat} {env' : Env} {σ' : St} : ∀ (l : List Oper) (i : Nat) (env : Env) (τ : St) (pend : List (Nat × AObj)) (rs : List (Nat × (St → Option ARes) × Value)) (ls : List (Nat × St × St)), (∀ x ∈ rs, IsRead x.2.1) →
    runU P C ops base l i env τ pend rs ls = some (env', σ') → wpU P gl C ops base l i env τ pend rs ls fun e s => e = env' ∧ s = σ'
  | [], i, env, τ, pend, rs, ls, hr, h => by
    simp only [runU, Option.some.injEq, Prod.mk.injEq] at h
    exact h
  | o :: r, i, env, τ, pend, rs, ls, hr, h => by
    simp only [runU] at h
    simp only [wpU]
    cases hw : wantedA ops env o with
    | false =>
      rw [hw] at h
      exact runU_ok r _ _ _ _ _ _ hr h
    | true =>
      rw [hw] at h
      simp only [cond_true] at h
      rw [onW_true]
      cases hcl : clsOf P o.op with
      | pure =>
        rw [hcl] at h
        rw [onQ_pure]
        cases he : evalOp P (rho env) (base + i) o τ with
        | none => rw [he] at h; cases h
        | some q =>
          rw [he] at h
          cases q with
          | enter f args => cases h
          | val v σ1 => rw [onQ2_pure]; exact runU_ok r _ _ _ _ _ _ hr h
      | alloc =>
        rw [hcl] at h
        rw [onQ_alloc]
        cases he : evalOp P (rho env) (base + i) o τ with
        | none => rw [he] at h; cases h
        | some q =>
          rw [he] at h
          cases q with
          | enter f args => cases h
          | val v σ1 =>
            simp only at h
            rw [onQ2_alloc]
            cases hg : σ1.get (base + i) with
            | none => rw [hg] at h; cases h
            | some ao => rw [hg] at h; rw [onObj_some]; exact runU_ok r _ _ _ _ _ _ hr h
      | read =>
        rw [hcl] at h
        rw [onQ_read]
        have hread : IsRead (evalOp P (rho env) (base + i) o) := fun τ2 q hq => by
          obtain ⟨v, e2, _⟩ := evalOp_read hcl hq
          exact ⟨v, e2⟩
        cases he : evalOp P (rho env) (base + i) o τ with
        | none => rw [he] at h; cases h
        | some q =>
          rw [he] at h
          cases q with
          | enter f args => cases h
          | val v σ1 =>
            rw [onQ2_read]
            obtain ⟨h1, h2⟩ := condN h rfl
            refine chkReadB_ok hread ?_ h1
            refine runU_ok r _ _ _ _ _ _ (fun x hx => ?_) h2
            rcases List.mem_cons.1 hx with rfl | hx
            · exact hread
            · exact hr x hx
      | loud =>
        rw [hcl] at h
        rw [onQ_loud]
        unfold stepOp at h
        cases he : evalOp P (rho env) (base + i) o (instP pend τ) with
        | none => rw [he] at h; cases h
        | some q =>
          rw [he] at h
          cases q with
          | val v σ1 =>
            simp only at h
            rw [onQ2_loud]
            obtain ⟨h1, h2⟩ := condN h rfl
            exact chkLoudB_ok (runU_ok r _ _ _ _ _ _ hr h2) hr h1
          | enter f args =>
            simp only at h
            rw [onQ2_enter]
            cases hc : C f args (instP pend τ) with
            | none => rw [hc] at h; cases h
            | some p =>
              obtain ⟨v, σ1⟩ := p
              rw [hc] at h
              rw [onCall_some]
              simp only at h
              obtain ⟨h1, h2⟩ := condN h rfl
              exact chkLoudB_ok (runU_ok r _ _ _ _ _ _ hr h2) hr h1
def evalU (P : Program) (call : CallF) (ops : Array Oper) (env : Env) (σ : St) : Option (Env × St) :=
  cond (okU P ops (befores ops)) (runU P call ops σ.next ops.toList 0 env (σ.bump ops.size) [] [] []) none
theorem evalU_ok {P : Program} {gl : List Nat} {call : CallF} (hc : call.ok P gl) (hm : P.follows .mixedOrders = true) (N : Nat) : DrawOk P gl N (evalU P call) := by
  intro id ops env σ env' σ' h hok
  unfold evalU at h
  obtain ⟨h1, h2⟩ := condN h rfl
  obtain ⟨e, s, h3, rfl, rfl⟩ := wpU_ok (N := N) (id := id) hc hm h1 hok (runU_ok (gl := gl) _ _ _ _ _ _ _ (fun x hx => by cases hx) h2)
  exact h3
noncomputable def xdrawU (P : Program) (call : CallF) : Array Oper → List Nat → XEnv → St → (XEnv → St → R) → R := fun ops keep env σ k =>
  match evalU P call ops (mapT XV.out env) σ with
  | some (env', σ') => k (mapT xvOf env') σ'
  | none => none
theorem xdrawU_ok {P : Program} {gl : List Nat} {call : CallF} (hc : call.ok P gl) (hm : P.follows .mixedOrders = true) : DrawKOk P gl (xdrawU P call) := by
  intro N id ops env σ k r g w a Q h hok hg hr hv hk
  unfold xdrawU at h
  split at h
  · rename_i env' σ' he
    have hsim := evalU_ok hc hm N id ops _ σ env' σ' he hok
    have hget : ∀ t, eget (mapT XV.out env) t = (orUndef (env.get (path t))).out := by
      intro t
      unfold eget
      rw [get_mapT]
      cases env.get (path t) <;> rfl
    have hbeyond : ∀ t, N ≤ t → varOf (List.range N) t = none := by
      intro t ht
      cases h : varOf (List.range N) t with
      | none => rfl
      | some p => have := (varOf_range h).1; omega
    have hno : ∀ t, N ≤ t → ∀ t' p, varOf (List.range N) t' = some p → p ≠ path t := by
      intro t ht t' p hp e
      obtain ⟨h1, rfl⟩ := varOf_range hp
      have := path_inj e
      omega
    have hinit : EnvRel [] g N (mapT XV.out env) a := by
      refine ⟨hv.defers, hv.size, fun t => ?_⟩
      rw [hget]
      by_cases ht : t < N
      · exact hv.vars t _ (varOf_range_in ht)
      · have e1 : a.tmps.getD t undef = undef := by
          have : ¬ t < a.tmps.size := by rw [hv.size]; exact ht
          simp [this]
        rw [e1]
        exact hv.rest t (hbeyond t (by omega)) (by omega) (hno t (by omega))
    refine wp_mono (hsim [] g w a hg hr hinit) ?_
    rintro e a' w' ⟨rfl, g', r1, r2, r3⟩
    have hback : ∀ t, (orUndef ((mapT xvOf env').get (path t))).out = eget env' t := by
      intro t
      rw [get_mapT]
      unfold eget
      cases env'.get (path t) with
      | none => rfl
      | some v => exact xvOf_out v
    refine hk _ σ' a' w' g' h r1 ⟨r2.defers, r2.size, fun t p hp => ?_, fun t h1 h2 h3 => ?_⟩ r3
    · obtain ⟨ht, rfl⟩ := varOf_range hp
      rw [hback]
      exact r2.slot t
    · rw [hback]
      have := r2.slot t
      have e1 : a'.tmps.getD t undef = undef := by
        have : ¬ t < a'.tmps.size := by rw [r2.size]; omega
        simp [this]
      rwa [e1] at this
  · cases h

end Go.Ev

namespace Go.Ev
open Go
set_option linter.unusedVariables false
set_option linter.unusedSimpArgs false

noncomputable def runUQ (P : Program) (C : CallF) (ops : Array Oper) (base : Nat) : List Oper → Nat → Env → St → List (Nat × AObj) → List (Nat × (St → Option ARes) × Value) → List (Nat × St × St) → Option (Env × St)
  | [], _, env, τ, pend, _, _ => some (env, instP pend τ)
  | o :: r, i, env, τ, pend, rs, ls => cond (wantedA ops env o) (match clsOf P o.op with
    | .pure => match evalOpQ P (rho env) (base + i) o τ with
      | some (.val v _) => runUQ P C ops base r (i + 1) (eputo env o.dst v) τ pend rs ls
      | _ => none
    | .alloc => match evalOpQ P (rho env) (base + i) o τ with
      | some (.val v σ1) => match σ1.get (base + i) with
        | some ao => runUQ P C ops base r (i + 1) (eputo env o.dst v) τ (pend ++ [(base + i, ao)]) rs ls
        | none => none
      | _ => none
    | .read => match evalOp P (rho env) (base + i) o τ with
      | some (.val v _) => cond (chkReadB ops i (evalOp P (rho env) (base + i) o) v ls) (runUQ P C ops base r (i + 1) (eputo env o.dst v) τ pend ((i, evalOp P (rho env) (base + i) o, v) :: rs) ls) none
      | _ => none
    | .loud => match stepOp P C env (base + i) o (instP pend τ) with
      | some (v, σ') => cond (chkLoudB ops i τ σ' rs) (runUQ P C ops base r (i + 1) (eputo env o.dst v) σ' [] rs ((i, τ, σ') :: ls)) none
      | none => none) (runUQ P C ops base r (i + 1) (eputo env o.dst undef) τ pend rs ls)
theorem runUQ_eq {P : Program} {C : CallF} {ops : Array Oper} {base : Nat} : ∀ (l : List Oper) (i : Nat) (env : Env) (τ : St) (pend : List (Nat × AObj)) (rs : List (Nat × (St → Option ARes) × Value)) (ls : List (Nat × St × St)), runUQ P C ops base l i env τ pend rs ls = runU P C ops base l i env τ pend rs ls
  | [], i, env, τ, pend, rs, ls => rfl
  | o :: r, i, env, τ, pend, rs, ls => by
    simp only [runUQ, runU, evalOpQ_eq, runUQ_eq r]
    try rfl
noncomputable def evalUQ (P : Program) (call : CallF) (ops : Array Oper) (env : Env) (σ : St) : Option (Env × St) :=
  cond (okU P ops (befores ops)) (runUQ P call ops σ.next ops.toList 0 env (σ.bump ops.size) [] [] []) none
theorem evalUQ_eq {P : Program} {call : CallF} {ops : Array Oper} {env : Env} {σ : St} : evalUQ P call ops env σ = evalU P call ops env σ := by unfold evalUQ evalU; rw [runUQ_eq]
noncomputable def xdrawQ (P : Program) (call : CallF) : Array Oper → List Nat → XEnv → St → (XEnv → St → R) → R := fun ops keep env σ k =>
  match evalUQ P call ops (mapT XV.out env) σ with
  | some (env', σ') => k (mapT xvOf env') σ'
  | none => none
theorem xdrawQ_eq {P : Program} {call : CallF} : xdrawQ P call = xdrawU P call := by
  funext ops keep env σ k
  unfold xdrawQ xdrawU
  rw [evalUQ_eq]
  try rfl
theorem xdrawQ_ok {P : Program} {gl : List Nat} {call : CallF} (hc : call.ok P gl) (hm : P.follows .mixedOrders = true) : DrawKOk P gl (xdrawQ P call) := by
  rw [xdrawQ_eq]; exact xdrawU_ok hc hm
end Go.Ev

namespace Go.Proofs
open Go Go.Ev
set_option maxRecDepth 100000
set_option linter.unusedVariables false
noncomputable def Tryz.kbL : List RnE := Tryz.kbL0 ++ Tryz.kbL1
theorem Tryz.kbL_ok : ∀ e ∈ Tryz.kbL, e.ok Tryz.prog ∧ e.f = 13 := (app_ok Tryz.kbL0_ok Tryz.kbL1_ok)
noncomputable def Tryz.tellC : CallF := fun _ args σ => match args.toList with
  | [] => match blk 3 σ with
    | some (.cells false 0 3 c) => cond (isTab c Tryz.tabv) (match σ.famO 3 with
      | none => some (.bool true, σ)
      | some _ => none) none
    | _ => none
  | _ => none
theorem Tryz.C0_none : ∀ args σ v σ', Tryz.C0 80 args σ = some (v, σ') → SimF Tryz.prog [3] 80 args σ v σ' := fun args σ v σ' h => Tryz.C0_ok [3] 80 args σ v σ' h
theorem Tryz.tellC_ok : ∀ args σ v σ', Tryz.tellC 80 args σ = some (v, σ') → SimF Tryz.prog [3] 80 args σ v σ' := by
  intro args σ v σ' h
  unfold Tryz.tellC at h
  split at h
  · rename_i ha
    split at h
    · rename_i c hb
      cases ht : isTab c Tryz.tabv with
      | false => rw [ht] at h; cases h
      | true =>
        rw [ht] at h
        simp only [cond_true] at h
        split at h
        · rename_i hf
          cases h
          obtain rfl : args = #[] := by cases args; simp_all
          rw [blk_eq, isTab_eq _ _ ht] at hb
          obtain ⟨r, hr, hv⟩ := Option.map_eq_some_iff.1 Tryz.skT_run
          obtain ⟨v, σ0⟩ := r
          have hv : v = .bool true := hv
          subst hv
          have hs := callOf_ok (Tryz.kf1_ok Tryz.skL_ok Tryz.C0_none) _ _ _ _ _ hr
          refine SimF.everywhere (l := Tryz.skG) (next := 1000) hs (fun x hx => ?_) (fun x hx => ?_) rfl rfl (fun A x hx => ?_)
          · simp only [Tryz.skG, List.mem_singleton] at hx; subst hx; decide
          · simp only [Tryz.skG, List.mem_singleton] at hx; subst hx
            intro v hv
            obtain ⟨n, _, rfl⟩ := List.mem_map.1 hv
            rfl
          · have hx2 := List.mem_of_find?_eq_some hx
            simp only [Tryz.skG, List.mem_singleton] at hx2; subst hx2
            have hA := List.find?_some hx
            obtain rfl : 3 = A := by simpa using hA
            exact ⟨hb, hf⟩
        · cases h
    · cases h
  · cases h
noncomputable def Tryz.extU : FuncId → Option CallF := fun f => cond (Nat.beq f 16) (some (roC Tryz.kmL)) (cond (Nat.beq f 13) (some (rnC Tryz.kbL [])) (cond (Nat.beq f 162) (some (Tryz.recC Tryz.skL)) (cond (Nat.beq f 80) (some Tryz.tellC) (Tryz.extS Tryz.skL f))))
theorem Tryz.extU_ok : ∀ f c, Tryz.extU f = some c → ∀ args σ v σ', c f args σ = some (v, σ') → SimF Tryz.prog [3] f args σ v σ' := by
  intro f c hc
  refine Tryz.ite_ext hc (fun e1 e2 => by subst e1; subst e2; exact fun args σ v σ' e => (roC_ok Tryz.kmL_ok args σ v σ' e).glob) fun hc => ?_
  refine Tryz.ite_ext hc (fun e1 e2 => by subst e1; subst e2; exact fun args σ v σ' e => (rnC_ok Tryz.kbL_ok (fun _ h => by cases h) args σ v σ' e).glob) fun hc => ?_
  refine Tryz.ite_ext hc (fun e1 e2 => by subst e1; subst e2; exact fun args σ v σ' e => Tryz.recC_ok Tryz.skL_ok 162 args σ v σ' e) fun hc => ?_
  refine Tryz.ite_ext hc (fun e1 e2 => by subst e1; subst e2; exact Tryz.tellC_ok) fun hc => ?_
  exact Tryz.extS_ok Tryz.skL_ok f c hc
noncomputable def Tryz.kf2 : KF := xF Tryz.prog Tryz.tab3 Tryz.extU (fun kf => xdrawQ Tryz.prog (callOf kf)) 100000 60
theorem Tryz.kf2_ok : Tryz.kf2.ok Tryz.prog [3] := xF_ok Tryz.mixed (fun _ _ e => e) Tryz.extU_ok (fun kf hk => xdrawQ_ok (callOf_ok hk) Tryz.mixed) 100000 60
end Go.Proofs
