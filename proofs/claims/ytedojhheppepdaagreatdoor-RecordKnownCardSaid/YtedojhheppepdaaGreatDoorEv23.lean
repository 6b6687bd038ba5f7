/-
  A quicker evaluator of code, over any program: each instruction does what its operation does. No condition.
-/
import Derived.Test.YtedojhheppepdaaGreatDoorEv22
namespace Go.Ev
open Go
set_option linter.unusedVariables false
set_option linter.unusedSimpArgs false

/-- Calls with what comes next. -/
def KF.ok (P : Program) (gl : List Nat) (call : KF) : Prop := ∀ (f : FuncId) (vs : List XV) (σ : St) (k : XV → St → R) (r : Value × St), call f vs σ k = some r → ∀ (g : Gam) (w : World) (args' : Array Value) (Q : Ending → World → Prop), Glob gl g → Rel g σ w → ARel g (vs.map XV.out).toArray args' →
  (∀ (v : XV) (σ' : St) (v' : Value) (w' : World) (g' : Gam), k v σ' = some r → VRel g' v.out v' → Rel g' σ' w' → Ext (fun A => σ.next ≤ A) g g' σ σ' w w' → Q (.returned v') w') → Calls P f args' w Q

section
variable {P : Program} {gl : List Nat} {W : List (Nat × Src)} {K : List Nat} {i n : Nat} {env : XEnv} {L : List XV}

/-- An operand's value, as resolved. -/
noncomputable def rhoX (W : List (Nat × Src)) (K : List Nat) (i : Nat) (env : XEnv) (L : List XV) : Operand → Value := fun x => match resolve W K i x with
  | some a => (a.get env L).out
  | none => undef
theorem rhoX_eq {x : Operand} {a : XArg} (h : resolve W K i x = some a) : rhoX W K i env L x = (a.get env L).out := by simp [rhoX, h]
theorem rhoX_const (v : Value) : rhoX W K i env L (.const v) = v := by
  rw [rhoX_eq (a := .val (xvOf v)) rfl]; exact xvOf_out v
theorem rhoX_global (b : Nat) : rhoX W K i env L (.global b) = .pointer (some ⟨b, 0, none⟩) := rhoX_eq (a := .val (.oth (.pointer (some ⟨b, 0, none⟩)))) rfl
theorem rhoX_func (f : FuncId) : rhoX W K i env L (.func f) = .func (.func f) #[] #[] := rhoX_eq (a := .val (.oth (.func (.func f) #[] #[]))) rfl

theorem rgen_cons (t t' : Nat) (a : XArg) (m : List (Nat × XArg)) : rgen ((t, a) :: m) env L (.tmp t') = if t = t' then (a.get env L).out else rgen m env L (.tmp t') := by
  show cond (Nat.beq t t') _ _ = _
  by_cases h : t = t'
  · subst h
    have : Nat.beq t t = true := by simp
    rw [this, if_pos rfl]; rfl
  · have : Nat.beq t t' = false := by
      rw [← Bool.not_eq_true, Nat.beq_eq]; exact h
    rw [this, if_neg h]; rfl
theorem resolveT_spec : ∀ (l : List Operand) (m : List (Nat × XArg)), resolveT W K i l = some m → ∀ x ∈ l, rgen m env L x = rhoX W K i env L x
  | [], m, h, x, hx => by cases hx
  | .tmp t :: l, m, h, x, hx => by
    simp only [resolveT] at h
    split at h
    · rename_i a r ha hr
      cases h
      cases x with
      | tmp t' =>
        rw [rgen_cons]
        split
        · rename_i e; subst e; exact (rhoX_eq ha).symm
        · rename_i e
          cases hx with
          | head => exact (e rfl).elim
          | tail _ hx => exact resolveT_spec l r hr _ hx
      | const v => exact (rhoX_const v).symm
      | global b => exact (rhoX_global b).symm
      | func f => exact (rhoX_func f).symm
    · cases h
  | .const v :: l, m, h, x, hx => by
    simp only [resolveT] at h
    cases hx with
    | head => exact (rhoX_const v).symm
    | tail _ hx => exact resolveT_spec l m h x hx
  | .global v :: l, m, h, x, hx => by
    simp only [resolveT] at h
    cases hx with
    | head => exact (rhoX_global v).symm
    | tail _ hx => exact resolveT_spec l m h x hx
  | .func v :: l, m, h, x, hx => by
    simp only [resolveT] at h
    cases hx with
    | head => exact (rhoX_func v).symm
    | tail _ hx => exact resolveT_spec l m h x hx

theorem argsK_eq : ∀ (l : List XArg) (k : List XV → R), argsK l env L k = k (l.map fun a => a.get env L)
  | [], k => rfl
  | a :: l, k => by
    show forceX (a.get env L) (fun v => argsK l env L fun vs => k (v :: vs)) = _
    rw [forceX_eq, argsK_eq l]; rfl
theorem resolveL_spec : ∀ (l : List Operand) (m : List XArg), resolveL W K i l = some m → (m.map fun a => a.get env L).map XV.out = l.map (rhoX W K i env L)
  | [], m, h => by simp only [resolveL] at h; cases h; rfl
  | x :: l, m, h => by
    simp only [resolveL] at h
    split at h
    · rename_i a r ha hr
      cases h
      have := resolveL_spec l r hr
      simp only [List.map_cons, this, rhoX_eq ha]
    · cases h

/-- What an instruction must meet. -/
def InsOk (P : Program) (gl : List Nat) (W : List (Nat × Src)) (K : List Nat) (i n : Nat) (o : Oper) (f : SK) : Prop :=
  ∀ env L base σ k r, f env L base σ k = some r → ∃ ρ, (∀ x ∈ o.op.operands, ρ x = rhoX W K i env L x) ∧ ∃ v σ', StepR P gl ρ (base + n) o σ v.out σ' ∧ k v σ' = some r

theorem InsOk.of {o : Oper} {f : SK} (h : ∀ env L base σ k r, f env L base σ k = some r → ∃ v σ', StepR P gl (rhoX W K i env L) (base + n) o σ v.out σ' ∧ k v σ' = some r) : InsOk P gl W K i n o f :=
  fun env L base σ k r e => ⟨_, fun _ _ => rfl, h env L base σ k r e⟩

/-- .. said of each world. -/
def InsW (P : Program) (gl : List Nat) (W : List (Nat × Src)) (K : List Nat) (i n : Nat) (o : Oper) (f : SK) : Prop :=
  ∀ (env : XEnv) (L : List XV) (base : Nat) (σ : St) (k : XV → St → R) (r : Value × St), f env L base σ k = some r → ∀ (g : Gam) (w : World) (a : Act) (Kc : Act → World → Prop) (Q : Exit → Act → World → Prop), Glob gl g → Rel g σ w → σ.get (base + n) = none → base + n < σ.next →
    (∀ x ∈ o.op.operands, VRel g (rhoX W K i env L x) (a.eval x)) →
    (∀ (v : XV) (σ' : St) (v' : Value) (w' : World) (g' : Gam), k v σ' = some r → VRel g' v.out v' → Rel g' σ' w' → Ext (fun A => A = base + n ∨ σ.next ≤ A) g g' σ σ' w w' → Kc (a.put o.dst v') w') → o.wp P a w Kc Q
theorem InsOk.toW {o : Oper} {f : SK} (h : InsOk P gl W K i n o f) : InsW P gl W K i n o f := by
  intro env L base σ k r e g w a Kc Q hg hr hid hlt hρ hk
  obtain ⟨ρ, hρe, v, σ', hst, hk2⟩ := h env L base σ k r e
  exact hst.wp hg hr hid hlt (fun x hx => by rw [hρe x hx]; exact hρ x hx) fun v' w' g' q1 q2 q3 => hk v σ' v' w' g' hk2 q1 q2 q3

theorem gen_ok {call : KF} (hc : call.ok P gl) {o : Oper} {ins : XIns} (h : compGen W K i n o = some ins) : InsW P gl W K i n o (xins P call ins) := by
  intro env L base σ k r e g w a Kc Q hg hr hid hlt hρ hk
  unfold compGen at h
  cases hm : resolveT W K i o.op.operands.toList with
  | none => rw [hm] at h; cases h
  | some m =>
    rw [hm] at h
    cases h
    have e : iGen P call o m n env L base σ k = some r := e
    unfold iGen at e
    have hρ2 : ∀ x ∈ o.op.operands, VRel g (rgen m env L x) (a.eval x) := fun x hx => by rw [resolveT_spec _ m hm x (by simpa using hx)]; exact hρ x hx
    split at e
    · rename_i v σ' he
      rw [normK_eq, take_eq] at e
      have hst : StepR P gl (rgen m env L) (base + n) o σ v σ' := .inl he
      exact hst.wp hg hr hid hlt hρ2 fun v' w' g' q1 q2 q3 => hk (xvOf v) σ' v' w' g' e (by rw [xvOf_out]; exact q1) q2 q3
    · rename_i f args he
      rw [takes_eq] at e
      obtain ⟨args', e1, ha⟩ := evalOp_ok he hr hid hlt hρ2
      unfold Oper.wp
      rw [e1]
      have h2 : ((args.toList.map xvOf).map XV.out).toArray = args := by
        rw [List.map_map]
        have : (XV.out ∘ xvOf) = id := funext xvOf_out
        rw [this, List.map_id]
      refine hc _ _ _ _ _ e g w args' _ hg hr (by rw [h2]; exact ha) fun v σ' v' w' g' q1 q2 q3 q4 => ?_
      exact hk v σ' v' w' g' q1 q2 q3 (q4.mono fun A hA => .inr hA)
    · cases e

theorem mov_ok {x : Operand} {a : XArg} {o : Oper} (ho : o.op = .move x ∨ o.op = .assign x) (h : resolve W K i x = some a) : InsOk P gl W K i n o (iMov a) := by
  refine .of fun env L base σ k r e => ?_
  unfold iMov at e
  rw [forceX_eq] at e
  refine ⟨_, σ, .inl ?_, e⟩
  rcases ho with ho | ho <;> (unfold evalOp; rw [ho]; simp only [rhoX_eq h])

/-- An operation on two numbers, or values told of as such. -/
theorem bin_run {op : BinOp} {t yt : TypeId} {x y : Operand} {o : Oper} (ho : o.op = .binOp op t x y yt) {k m : IntKind} {a b : Int} {v : Value} {ρ : Operand → Value} {id : Nat} {σ : St} (hx : ρ x = .int k a) (hy : ρ y = .int m b)
    (h : ∀ w, (binOp op t (.int k a) (.int m b)).run P w = .ok v w) (hf : ∀ g : Gam, VRel g v v) : StepR P gl ρ id o σ v σ := by
  refine .inr (.inr (.inl ⟨rfl, fun g ρ' w hρ => ?_⟩))
  rw [ho] at hρ
  have h1 := hρ x (by simp [Op.operands])
  have h2 := hρ y (by simp [Op.operands])
  rw [hx] at h1; rw [hy] at h2
  generalize hX : ρ' x = X at h1
  generalize hY : ρ' y = Y at h2
  cases h1; cases h2
  refine ⟨v, ?_, hf g⟩
  have hq : (eqGuard op t x y (.int k a) (.int m b)).run P w = .ok () w := by cases op <;> rfl
  simp only [execOp, ho, hX, hY, Sem.run_bind, hq, Result.andThen_ok, h w, Sem.run_pure]

theorem binV_ok {op : BinOp} {t yt : TypeId} {x y : Operand} {o : Oper} (ho : o.op = .binOp op t x y yt) {va vb : Value} {c : XV → R} {r : Value × St} {ρ : Operand → Value} {id : Nat} {σ : St} (hx : ρ x = va) (hy : ρ y = vb)
    (h : binV op va vb c = some r) : ∃ v : XV, StepR P gl ρ id o σ v.out σ ∧ c v = some r := by
  have h0 := h
  unfold binV at h
  split at h
  · obtain ⟨v, h1, h2, h3⟩ := run_bin_val (P := P) (t := t) h0 (by simp)
    exact ⟨v, bin_run ho hx hy h1 (fun g => flatV_rel h2), h3⟩
  · cases h
theorem bin_ok {op : BinOp} {t yt : TypeId} {x y : Operand} {o : Oper} (ho : o.op = .binOp op t x y yt) {a b : XArg} (ha : resolve W K i x = some a) (hb : resolve W K i y = some b) : InsOk P gl W K i n o (iBin op a b) := by
  refine .of fun env L base σ k r e => ?_
  have hx : rhoX W K i env L x = (a.get env L).out := rhoX_eq ha
  have hy : rhoX W K i env L y = (b.get env L).out := rhoX_eq hb
  unfold iBin at e
  generalize a.get env L = xa at e hx
  generalize b.get env L = xb at e hy
  cases xa with
  | nat ka m =>
    cases xb with
    | nat kb n' =>
      simp only at e
      cases hk : Nat.beq ka kb with
      | false => rw [hk] at e; cases e
      | true =>
        rw [hk] at e
        simp only [cond_true] at e
        have hk : ka = kb := by rw [Nat.beq_eq] at hk; exact hk
        subst hk
        obtain ⟨v, h1, h2, h3⟩ := run_bin_nat (P := P) (t := t) (fun hs => run_bin_val hs (by simp)) e (by simp)
        exact ⟨v, σ, bin_run ho hx hy h1 (fun g => flatV_rel h2), h3⟩
    | bool _ => cases e
    | nxt _ _ => cases e
    | oth w =>
      obtain ⟨v, h1, h2⟩ := binV_ok (P := P) (gl := gl) (id := base + n) (σ := σ) ho hx hy e
      exact ⟨v, σ, h1, h2⟩
  | bool _ => cases e
  | nxt _ _ => cases e
  | oth w =>
    obtain ⟨v, h1, h2⟩ := binV_ok (P := P) (gl := gl) (id := base + n) (σ := σ) ho hx hy e
    exact ⟨v, σ, h1, h2⟩

/-- An operation that tells of a flat value, and looks at one operand. -/
theorem one_run {x : Operand} {o : Oper} {vx v : Value} {ρ : Operand → Value} {id : Nat} {σ : St} (hm : x ∈ o.op.operands) (hx : ρ x = vx) (hfx : flatV vx = true) (hf : flatV v = true)
    (h : ∀ (ρ' : Operand → Value) w, ρ' x = vx → (execOp ρ' o).run P w = .ok (.value v) w) : StepR P gl ρ id o σ v σ := by
  refine .inr (.inr (.inl ⟨rfl, fun g ρ' w hρ => ⟨v, h ρ' w ?_, flatV_rel hf⟩⟩))
  have h1 := hρ x hm
  rw [hx] at h1
  exact flatV_eq hfx h1
theorem two_run {x y : Operand} {o : Oper} {vx vy v : Value} {ρ : Operand → Value} {id : Nat} {σ : St} (hm : x ∈ o.op.operands) (hm2 : y ∈ o.op.operands) (hx : ρ x = vx) (hy : ρ y = vy) (hfx : flatV vx = true) (hfy : flatV vy = true) (hf : flatV v = true)
    (h : ∀ (ρ' : Operand → Value) w, ρ' x = vx → ρ' y = vy → (execOp ρ' o).run P w = .ok (.value v) w) : StepR P gl ρ id o σ v σ := by
  refine .inr (.inr (.inl ⟨rfl, fun g ρ' w hρ => ⟨v, h ρ' w ?_ ?_, flatV_rel hf⟩⟩))
  · have h1 := hρ x hm
    rw [hx] at h1
    exact flatV_eq hfx h1
  · have h1 := hρ y hm2
    rw [hy] at h1
    exact flatV_eq hfy h1

theorem not_ok {t : TypeId} {x : Operand} {o : Oper} (ho : o.op = .unOp .not t x) {a : XArg} (ha : resolve W K i x = some a) : InsOk P gl W K i n o (iNot a) := by
  refine .of fun env L base σ k r e => ?_
  have hx : rhoX W K i env L x = (a.get env L).out := rhoX_eq ha
  unfold iNot at e
  generalize a.get env L = xa at e hx
  cases xa with
  | nat _ _ => cases e
  | nxt _ _ => cases e
  | oth _ => cases e
  | bool b =>
    refine ⟨.bool (!b), σ, one_run (by rw [ho]; simp [Op.operands]) hx rfl rfl fun ρ' w h => ?_, by cases b <;> exact e⟩
    simp only [execOp, ho, h, XV.out]
    simp [Op.unary]
theorem ext_ok {x : Operand} {ix : Nat} {o : Oper} (ho : o.op = .extract x ix) {a : XArg} (ha : resolve W K i x = some a) : InsOk P gl W K i n o (iExt ix a) := by
  refine .of fun env L base σ k r e => ?_
  have hx : rhoX W K i env L x = (a.get env L).out := rhoX_eq ha
  have key : ∀ v : XV, opExtract ix (rhoX W K i env L x) = some v.out → StepR P gl (rhoX W K i env L) (base + n) o σ v.out σ := fun v hv => by
    left; unfold evalOp; rw [ho]; simp only [hv, valOf]
  unfold iExt at e
  generalize a.get env L = xa at e hx
  split at e
  · rename_i p c
    match ix with
    | 0 => exact ⟨.bool true, σ, key _ (by rw [hx]; rfl), e⟩
    | 1 => exact ⟨.nat 0 p, σ, key _ (by rw [hx]; rfl), e⟩
    | 2 => exact ⟨.nat 2 c, σ, key _ (by rw [hx]; rfl), e⟩
    | _ + 3 => cases e
  · rename_i vs
    split at e
    · rename_i v hv
      rw [take_eq] at e
      refine ⟨_, σ, key _ ?_, e⟩
      rw [hx, xvOf_out]; exact hv
    · cases e
  · cases e
theorem pick_ok {c x y : Operand} {o : Oper} (ho : o.op = .pick c x y) {ac ax ay : XArg} (hc : resolve W K i c = some ac) (hx : resolve W K i x = some ax) (hy : resolve W K i y = some ay) : InsOk P gl W K i n o (iPick ac ax ay) := by
  refine .of fun env L base σ k r e => ?_
  have h1 : rhoX W K i env L c = (ac.get env L).out := rhoX_eq hc
  have h2 : rhoX W K i env L x = (ax.get env L).out := rhoX_eq hx
  have h3 : rhoX W K i env L y = (ay.get env L).out := rhoX_eq hy
  unfold iPick at e
  generalize ac.get env L = xc at e h1
  cases xc with
  | nat _ _ => cases e
  | nxt _ _ => cases e
  | oth _ => cases e
  | bool b =>
    cases b with
    | true =>
      simp only [forceX_eq] at e
      refine ⟨_, σ, .inl ?_, e⟩
      unfold evalOp; rw [ho]; simp only [h1, h2, XV.out]; rfl
    | false =>
      simp only [forceX_eq] at e
      refine ⟨_, σ, .inl ?_, e⟩
      unfold evalOp; rw [ho]; simp only [h1, h3, XV.out]; rfl
theorem nil_ok {x : Operand} {o : Oper} (ho : o.op = .nilCheck x) {a : XArg} (ha : resolve W K i x = some a) : InsOk P gl W K i n o (iNil a) := by
  refine .of fun env L base σ k r e => ?_
  have hx : rhoX W K i env L x = (a.get env L).out := rhoX_eq ha
  unfold iNil at e
  generalize a.get env L = xa at e hx
  split at e
  · exact ⟨_, σ, .inl (by unfold evalOp; rw [ho]; simp only [hx, XV.out]), e⟩
  · exact ⟨_, σ, .inl (by unfold evalOp; rw [ho]; simp only [hx, XV.out]), e⟩
  · exact ⟨_, σ, .inl (by unfold evalOp; rw [ho]; simp only [hx, XV.out]), e⟩
  · cases e
theorem faddr_ok {s : TypeId} {x : Operand} {f off : Nat} {o : Oper} (ho : o.op = .fieldAddr s x f) (hf : fieldOf P s f = some off) {a : XArg} (ha : resolve W K i x = some a) : InsOk P gl W K i n o (iFaddr off a) := by
  refine .of fun env L base σ k r e => ?_
  have hx : rhoX W K i env L x = (a.get env L).out := rhoX_eq ha
  unfold iFaddr at e
  generalize a.get env L = xa at e hx
  split at e
  · rw [forceN_eq] at e
    exact ⟨_, σ, .inl (by unfold evalOp; rw [ho]; simp only [hx, XV.out, opFieldAddr, hf, valOf]; rfl), e⟩
  · cases e
theorem iaddr_ok {t e' : TypeId} {x y : Operand} {m : Nat} {len : Option Nat} {o : Oper} (ho : o.op = .indexAddr t x y) (ht : P.underlying t = some (match len with | none => .slice e' | some l => .array l e')) (hs : sz? P e' = some m) {a b : XArg}
    (ha : resolve W K i x = some a) (hb : resolve W K i y = some b) : InsOk P gl W K i n o (iIaddr m len a b) := by
  refine .of fun env L base σ k r e => ?_
  have hx : rhoX W K i env L x = (a.get env L).out := rhoX_eq ha
  have hy : rhoX W K i env L y = (b.get env L).out := rhoX_eq hb
  unfold iIaddr at e
  generalize a.get env L = xa at e hx
  generalize b.get env L = xb at e hy
  split at e
  · rename_i kk ii
    split at e
    · rename_i A off l cap
      cases hlt : Nat.blt ii l with
      | false => rw [hlt] at e; cases e
      | true =>
        rw [hlt] at e
        simp only [cond_true, forceN_eq] at e
        have : ii < l := by rw [Nat.blt_eq] at hlt; exact hlt
        exact ⟨_, σ, .inl (by unfold evalOp; rw [ho]; simp only [hx, hy, XV.out, opIndexAddr, ht, hs, if_pos this, valOf]; rfl), e⟩
    · rename_i l A off
      cases hlt : Nat.blt ii l with
      | false => rw [hlt] at e; cases e
      | true =>
        rw [hlt] at e
        simp only [cond_true, forceN_eq] at e
        have : ii < l := by rw [Nat.blt_eq] at hlt; exact hlt
        exact ⟨_, σ, .inl (by unfold evalOp; rw [ho]; simp only [hx, hy, XV.out, opIndexAddr, ht, hs, if_pos this, valOf]; rfl), e⟩
    · cases e
  · cases e

theorem nthO_eq (c : List Value) (o : Nat) : nthO c o = c[o]? := by
  induction c generalizing o with
  | nil => rfl
  | cons v c ih => cases o with
    | zero => rfl
    | succ o => exact ih o
theorem cells_of {σ : St} {A : Nat} {own : Bool} {ver fam : Nat} {c : List Value} (h : blk A σ = some (.cells own ver fam c)) (hr : (own || σ.rd own ver fam) = true) : σ.cells? A = some c := by
  rw [blk_eq] at h
  unfold St.cells?
  rw [h]
  have : σ.rd own ver fam = true := by
    cases own with
    | true => simp [St.rd]
    | false => simpa using hr
  simp only [this, if_true]
theorem load1_ev {t : TypeId} {x : Operand} {o : Oper} (ho : o.op = .load t x) (hl : ldInfo P t = some none) {a : XArg} (ha : resolve W K i x = some a) : ∀ (env : XEnv) (L : List XV) (base : Nat) (σ : St) (k : XV → St → R) (r : Value × St), (iLoad1 a) env L base σ k = some r → ∃ v : XV, evalOp P (rhoX W K i env L) (base + n) o σ = some (.val v.out σ) ∧ k v σ = some r := by
  intro env L base σ k r e
  have hx : rhoX W K i env L x = (a.get env L).out := rhoX_eq ha
  unfold iLoad1 at e
  generalize a.get env L = xa at e hx
  split at e
  · rename_i A off
    split at e
    · rename_i own ver fam c hA
      cases hr : (own || σ.rd own ver fam) with
      | false => rw [hr] at e; cases e
      | true =>
        rw [hr] at e
        simp only [cond_true] at e
        split at e
        · rename_i v hv
          rw [take_eq] at e
          rw [nthO_eq] at hv
          refine ⟨_, ?_, e⟩
          have hlt : off < c.length := (List.getElem?_eq_some_iff.1 hv).1
          have hread : σ.read? A off 1 = some [v] := by
            unfold St.read?
            rw [cells_of hA hr]
            simp only [Option.bind_some, sub?]
            rw [if_pos (by omega)]
            have : c.drop off = v :: c.drop (off + 1) := by
              rw [List.drop_eq_getElem_cons hlt]; congr 1; exact (List.getElem?_eq_some_iff.1 hv).2
            rw [this]; rfl
          rw [xvOf_out]
          unfold evalOp; rw [ho]; simp only [hx, XV.out, opLoad, hl, hread, valOf]
        · cases e
    · cases e
  · cases e
theorem load1_ok {t : TypeId} {x : Operand} {o : Oper} (ho : o.op = .load t x) (hl : ldInfo P t = some none) {a : XArg} (ha : resolve W K i x = some a) : InsOk P gl W K i n o (iLoad1 a) :=
  .of fun env L base σ k r e => let ⟨v, h1, h2⟩ := load1_ev ho hl ha env L base σ k r e; ⟨v, σ, .inl h1, h2⟩
theorem loadN_ev {t : TypeId} {x : Operand} {m : Nat} {o : Oper} (ho : o.op = .load t x) (hl : ldInfo P t = some (some m)) {a : XArg} (ha : resolve W K i x = some a) : ∀ (env : XEnv) (L : List XV) (base : Nat) (σ : St) (k : XV → St → R) (r : Value × St), (iLoadN m a) env L base σ k = some r → ∃ v : XV, evalOp P (rhoX W K i env L) (base + n) o σ = some (.val v.out σ) ∧ k v σ = some r := by
  intro env L base σ k r e
  have hx : rhoX W K i env L x = (a.get env L).out := rhoX_eq ha
  unfold iLoadN at e
  generalize a.get env L = xa at e hx
  split at e
  · rename_i A off
    split at e
    · rename_i own ver fam c hA
      cases hr : (own || σ.rd own ver fam) with
      | false => rw [hr] at e; cases e
      | true =>
        rw [hr] at e
        simp only [cond_true] at e
        split at e
        · rename_i l hv
          refine ⟨_, ?_, e⟩
          have hread : σ.read? A off m = some l := by
            unfold St.read?
            rw [cells_of hA hr]
            rw [subR_eq] at hv
            exact hv
          unfold evalOp; rw [ho]; simp only [hx, XV.out, opLoad, hl, hread, valOf]
        · cases e
    · cases e
  · cases e
theorem loadN_ok {t : TypeId} {x : Operand} {m : Nat} {o : Oper} (ho : o.op = .load t x) (hl : ldInfo P t = some (some m)) {a : XArg} (ha : resolve W K i x = some a) : InsOk P gl W K i n o (iLoadN m a) :=
  .of fun env L base σ k r e => let ⟨v, h1, h2⟩ := loadN_ev ho hl ha env L base σ k r e; ⟨v, σ, .inl h1, h2⟩
theorem store_ok {t : TypeId} {x y : Operand} {m : Nat} {o : Oper} (ho : o.op = .store t x y) (hs : sz? P t = some m) {a b : XArg} (ha : resolve W K i x = some a) (hb : resolve W K i y = some b) : InsOk P gl W K i n o (iStore m a b) := by
  refine .of fun env L base σ k r e => ?_
  have hx : rhoX W K i env L x = (a.get env L).out := rhoX_eq ha
  have hy : rhoX W K i env L y = (b.get env L).out := rhoX_eq hb
  unfold iStore at e
  generalize a.get env L = xa at e hx
  generalize b.get env L = xb at e hy
  split at e
  · rename_i A off
    rw [forceX_eq] at e
    cases hc : Nat.beq xb.out.cells.size m with
    | false => rw [hc] at e; cases e
    | true =>
      rw [hc] at e
      have hc : xb.out.cells.size = m := by rw [Nat.beq_eq] at hc; exact hc
      simp only [cond_true] at e
      split at e
      · rename_i ver F c hA
        cases hl : (xb.out.cells.toList.all (·.oneCell')) with
        | false => rw [hl] at e; cases e
        | true =>
          rw [hl] at e
          simp only [cond_true] at e
          obtain ⟨hle, e⟩ := layK_eq _ _ _ _ _ e (by intro q; cases q)
          simp only [forceN_eq, setBlk_eq] at e
          rw [blk_eq] at hA
          have hl2 : (decide (off + m ≤ c.length) && xb.out.cells.toList.all (·.oneCell')) = true := by
            have : xb.out.cells.toList.length = m := by simpa using hc
            rw [this] at hle
            simp only [Bool.and_eq_true, decide_eq_true_eq]; exact ⟨hle, hl⟩
          refine ⟨.oth undef, _, .inl ?_, e⟩
          have hx' : rhoX W K i env L x = .pointer (some ⟨A, off, none⟩) := hx
          unfold evalOp; rw [ho]; simp only [hx', hy, opStore, hs, if_pos hc, hA, hl2, if_true]; rfl
      · cases e
  · cases e
theorem callF_eval {c : Call} {f : FuncId} {o : Oper} {σ : St} {id : Nat} {env : XEnv} {L : List XV} (ho : o.op = .call c) (hf : c.callee = .value (.func f)) (hb : hasBody P f = true) : evalOp P (rhoX W K i env L) id o σ = some (.enter f (c.args.toList.map (rhoX W K i env L)).toArray) := by
  unfold evalOp
  rw [ho]
  simp only [hf, rhoX_func, opInvoke, opCall]
  unfold hasBody at hb
  split at hb
  · rename_i fn hfn
    simp only [Bool.and_eq_true, Bool.not_eq_true'] at hb
    obtain ⟨b1, b2⟩ := hb
    rw [hfn]
    simp only [b2]
    have b3 : fn.body.isNone = false := by cases hh : fn.body with | none => rw [hh] at b1; cases b1 | some _ => rfl
    rw [b3]
    simp
    rw [← Array.toList_map, Array.toArray_toList]
  · cases hb
theorem callF_ok {call : KF} (hc : call.ok P gl) {c : Call} {f : FuncId} {o : Oper} (ho : o.op = .call c) (hf : c.callee = .value (.func f)) (hb : hasBody P f = true) {l : List XArg} (hl : resolveL W K i c.args.toList = some l) : InsW P gl W K i n o (iCall call f l) := by
  intro env L base σ k r e g w a Kc Q hg hr hid hlt hρ hk
  unfold iCall at e
  rw [argsK_eq] at e
  have he : evalOp P (rhoX W K i env L) (base + n) o σ = some (.enter f ((l.map fun a => a.get env L).map XV.out).toArray) := by
    rw [resolveL_spec _ _ hl]
    exact callF_eval ho hf hb
  obtain ⟨args', e1, ha⟩ := evalOp_ok he hr hid hlt hρ
  unfold Oper.wp
  rw [e1]
  refine hc _ _ _ _ _ e g w args' _ hg hr ha fun v σ' v' w' g' q1 q2 q3 q4 => ?_
  exact hk v σ' v' w' g' q1 q2 q3 (q4.mono fun A hA => .inr hA)
end
end Go.Ev
