/-
  A quicker evaluator of code, over any program: rows that draw their order, where the order is of no matter by sight. No condition.
-/
import Derived.Test.YtedojhheppepdaaGreatDoorEv26
namespace Go.Ev
open Go
set_option linter.unusedVariables false
set_option linter.unusedSimpArgs false

theorem instK_eq : ∀ (l : List (Nat × AObj)) (σ : St) (k : St → R), instK l σ k = k (l.foldl (fun σ x => σ.set x.1 x.2) σ)
  | [], σ, k => rfl
  | x :: l, σ, k => by
    show setBlk x.1 x.2 σ (fun σ => instK l σ k) = _
    rw [setBlk_eq, instK_eq l]; rfl
theorem putK_eq (p : Option (List Bool)) (v : XV) (env : XEnv) (k : XEnv → R) : putK p v env k = k (putE p v env) := by
  cases p with
  | none => rfl
  | some p => exact setK_eq p v env k
theorem mapT_set {α β : Type} (f : α → β) : ∀ (p : List Bool) (x : α) (t : Tr α), mapT f (t.set p x) = (mapT f t).set p (f x)
  | [], x, .nil => rfl
  | [], x, .node v l r => rfl
  | b :: p, x, .nil => by
    have := mapT_set f p x .nil
    simp only [mapT] at this
    cases b <;> simp [Tr.set, mapT, this]
  | b :: p, x, .node v l r => by
    have h1 := mapT_set f p x l
    have h2 := mapT_set f p x r
    cases b <;> simp [Tr.set, mapT, h1, h2]

theorem rank_range : ∀ (m s t r : Nat), rank (List.range' s m) t s = some r → r = t ∧ s ≤ t ∧ t < s + m
  | 0, s, t, r, h => by simp [rank] at h
  | m + 1, s, t, r, h => by
    rw [List.range'_succ] at h
    simp only [rank] at h
    split at h
    · rename_i e
      rw [Nat.beq_eq] at e
      cases h
      omega
    · have := rank_range m (s + 1) t r h
      omega
theorem rank_in : ∀ (m s t : Nat), s ≤ t → t < s + m → rank (List.range' s m) t s = some t
  | 0, s, t, h1, h2 => by omega
  | m + 1, s, t, h1, h2 => by
    rw [List.range'_succ]
    simp only [rank]
    by_cases e : s = t
    · subst e
      have : Nat.beq s s = true := by simp
      rw [this]; rfl
    · have : Nat.beq s t = false := by rw [← Bool.not_eq_true, Nat.beq_eq]; exact e
      rw [this]
      exact rank_in m (s + 1) t (by omega) (by omega)
theorem varOf_range {N t : Nat} {p : List Bool} (h : varOf (List.range N) t = some p) : t < N ∧ p = path t := by
  obtain ⟨r, h1, rfl⟩ := map_some h
  rw [List.range_eq_range'] at h1
  obtain ⟨rfl, _, h2⟩ := rank_range N 0 t r h1
  exact ⟨by omega, rfl⟩
theorem varOf_range_in {N t : Nat} (h : t < N) : varOf (List.range N) t = some (path t) := by
  unfold varOf
  rw [List.range_eq_range', rank_in N 0 t (by omega) (by omega)]
  rfl

theorem get_mapT {α β : Type} (f : α → β) : ∀ (t : Tr α) (p : List Bool), (mapT f t).get p = (t.get p).map f
  | .nil, p => by cases p <;> rfl
  | .node v l r, [] => rfl
  | .node v l r, b :: p => by
    cases b
    · exact get_mapT f r p
    · exact get_mapT f l p

theorem okQ_spec {P : Program} {ops : Array Oper} {B : List Nat} (h : okQ P ops B = true) : okDraw P ops B = true ∧ ∀ (i : Nat) (o : Oper), ops[i]? = some o → clsOf P o.op = .loud → ∀ (k : Nat) (ok : Oper), ops[k]? = some ok →
    (clsOf P ok.op = .alloc → k < i → bit B i k = true) ∧ (clsOf P ok.op = .read → bit B i k = true ∨ bit B k i = true) := by
  unfold okQ at h
  simp only [Bool.and_eq_true, List.all_eq_true] at h
  refine ⟨h.1, fun i o ho hl k ok hk => ?_⟩
  have h1 := h.2 (o, i) (by rw [List.mem_zipIdx_iff_getElem?]; simpa using ho)
  simp only [hl, List.all_eq_true] at h1
  have h2 := h1 (ok, k) (by rw [List.mem_zipIdx_iff_getElem?]; simpa using hk)
  simp only at h2
  refine ⟨fun hc hlt => ?_, fun hc => ?_⟩
  · rw [hc] at h2
    simp only [Bool.or_eq_true, Bool.not_eq_true'] at h2
    rcases h2 with q | q
    · have : Nat.blt k i = true := by simp [Nat.blt, Nat.ble_eq]; omega
      rw [this] at q; cases q
    · exact q
  · rw [hc] at h2
    simpa using h2

theorem stepR_pure {P : Program} {gl : List Nat} {ρ : Operand → Value} {id : Nat} {o : Oper} {σ σ' : St} {v : Value} (hcl : clsOf P o.op = .pure) (h : StepR P gl ρ id o σ v σ') : σ' = σ ∧ PureW P ρ o v := by
  rcases h with h | ⟨f, args, h, _⟩ | ⟨h1, h2⟩ | ⟨h1, _⟩
  · obtain ⟨v2, q, q2⟩ := evalOp_pure hcl h
    cases q
    exact ⟨rfl, q2.2⟩
  · obtain ⟨v2, q, q2⟩ := evalOp_pure hcl h
    cases q
  · exact ⟨h1, h2⟩
  · rw [hcl] at h1; cases h1

theorem load_congr {P : Program} {ρ ρ2 : Operand → Value} {id : Nat} {o : Oper} {σ : St} {t : TypeId} {x : Operand} (ho : o.op = .load t x) (h : ∀ x ∈ o.op.operands, ρ x = ρ2 x) : evalOp P ρ id o σ = evalOp P ρ2 id o σ := by
  have := h x (by rw [ho]; simp [Op.operands])
  unfold evalOp
  rw [ho]
  simp only [this]

theorem dcall_sim {P : Program} {gl : List Nat} {call : KF} (hc : call.ok P gl) {f : FuncId} {vs : List XV} {σ σ' : St} {v : Value} (h : call f vs σ (fun v σ' => some (v.out, σ')) = some (v, σ')) : SimF P gl f (vs.map XV.out).toArray σ v σ' := by
  intro g w args' hg hr ha
  refine hc _ _ _ _ _ h g w args' _ hg hr ha fun x σ2 v' w' g' q1 q2 q3 q4 => ?_
  simp only [Option.some.injEq, Prod.mk.injEq] at q1
  obtain ⟨rfl, rfl⟩ := q1
  exact ⟨v', g', rfl, q2, q3, q4⟩

/-! ## Rows -/
def pendL (base : Nat) (B : List Nat) (R : List TRow) : List (Nat × AObj) := (pendAt (rlo R) (ral R) B R.length).map fun k => (base + k, rao R k)
theorem pendL_inst (base : Nat) (B : List Nat) (R : List TRow) (τ : St) : (pendL base B R).foldl (fun σ x => σ.set x.1 x.2) τ = instL base (rao R) (pendAt (rlo R) (ral R) B R.length) τ := by
  unfold pendL instL
  rw [List.foldl_map]
theorem row_old {R S : List TRow} {j : Nat} (h : j < R.length) : (R ++ S)[j]? = R[j]? := List.getElem?_append_left h
theorem rlo_old {R S : List TRow} {j : Nat} (h : j < R.length) : rlo (R ++ S) j = rlo R j := by unfold rlo; rw [row_old h]
theorem ral_old {R S : List TRow} {j : Nat} (h : j < R.length) : ral (R ++ S) j = ral R j := by unfold ral; rw [row_old h]
theorem rao_old {R S : List TRow} {j : Nat} (h : j < R.length) : rao (R ++ S) j = rao R j := by unfold rao; rw [row_old h]
theorem row_new {R S : List TRow} {r : TRow} : (R ++ r :: S)[R.length]? = some r := by simp
theorem pendAt_lt {lo al : Nat → Bool} {B : List Nat} {p k : Nat} (h : k ∈ pendAt lo al B p) : k < p := by
  simp only [pendAt, List.mem_filter, List.mem_range] at h; exact h.1
theorem gone_step {lo : Nat → Bool} {B : List Nat} {p k : Nat} : gone lo B (p + 1) k = (gone lo B p k || (lo p && bit B p k)) := by
  unfold gone
  rw [List.range_succ, List.any_append]
  simp

theorem pendL_snoc {P : Program} {ops : Array Oper} {base : Nat} {B : List Nat} {R : List TRow} {r : TRow} (hs : OkDraw P ops B) (hlo : (r.k == 4) = false) :
    pendL base B (R ++ [r]) = pendL base B R ++ (if (r.k == 2) = true then [(base + R.length, r.ao)] else []) := by
  have hlast : rlo (R ++ [r]) R.length = false := by unfold rlo; rw [row_new]; exact hlo
  unfold pendL
  rw [List.length_append, List.length_singleton]
  unfold pendAt
  rw [List.range_succ, List.filter_append, List.map_append]
  congr 1
  · rw [List.filter_congr (q := fun k => ral R k && !gone (rlo R) B R.length k)]
    · refine List.map_congr_left fun k hk => ?_
      have : k < R.length := List.mem_range.1 (List.mem_filter.1 hk).1
      rw [rao_old this]
    · intro k hk
      have hk := List.mem_range.1 hk
      rw [ral_old hk, gone_step, hlast, gone_congr (lo' := rlo R) (fun j hj => rlo_old hj)]
      simp
  · have hg : gone (rlo (R ++ [r])) B (R.length + 1) R.length = false := by
      cases h : gone (rlo (R ++ [r])) B (R.length + 1) R.length with
      | false => rfl
      | true =>
        rw [gone_ex] at h
        obtain ⟨j, h1, _, h3⟩ := h
        have := hs.lt j R.length h3
        omega
    have ha : ral (R ++ [r]) R.length = (r.k == 2) := by unfold ral; rw [row_new]
    have hao : rao (R ++ [r]) R.length = r.ao := by unfold rao; rw [row_new]
    simp only [List.filter_cons, List.filter_nil, ha, hg]
    cases (r.k == 2) <;> simp [hao]

theorem pendL_loud {base : Nat} {B : List Nat} {R : List TRow} {r : TRow} (hk : r.k = 4) (hall : ∀ k, k < R.length → ral R k = true → bit B R.length k = true) : pendL base B (R ++ [r]) = [] := by
  unfold pendL
  rw [List.map_eq_nil_iff]
  unfold pendAt
  rw [List.filter_eq_nil_iff]
  intro k hk2
  have hk2 := List.mem_range.1 hk2
  rw [List.length_append, List.length_singleton] at hk2 ⊢
  have hlast : rlo (R ++ [r]) R.length = true := by unfold rlo; rw [row_new]; simp [hk]
  by_cases e : k = R.length
  · subst e
    have : ral (R ++ [r]) R.length = false := by unfold ral; rw [row_new]; simp [hk]
    simp [this]
  · have hlt : k < R.length := by omega
    rw [ral_old hlt]
    cases ha : ral R k with
    | false => simp
    | true => rw [gone_step, hlast, hall k hlt ha]; simp

theorem inst_pend {lo al : Nat → Bool} {B : List Nat} {i : Nat} (hall : ∀ k, k < i → al k = true → bit B i k = true) : instAt lo al B i = pendAt lo al B i := by
  unfold instAt pendAt
  refine List.filter_congr fun k hk => ?_
  have hk := List.mem_range.1 hk
  cases ha : al k with
  | false => simp
  | true => rw [hall k hk ha]; simp

/-- What a row says of its operation. -/
def RowOk2 (P : Program) (gl : List Nat) (ops : Array Oper) (base : Nat) (B : List Nat) (e : Nat → Env) (τ : Nat → St) (val : Nat → Value) (ao : Nat → AObj) (lo al : Nat → Bool) (i : Nat) (o : Oper) : Prop :=
  (wantedA ops (e i) o = false ∧ val i = undef ∧ lo i = false ∧ al i = false ∧ τ (i + 1) = τ i) ∨
  (wantedA ops (e i) o = true ∧ lo i = false ∧ al i = false ∧ τ (i + 1) = τ i ∧ PureW P (rho (e i)) o (val i)) ∨
  (wantedA ops (e i) o = true ∧ lo i = false ∧ al i = true ∧ τ (i + 1) = τ i ∧ AllocW P (rho (e i)) o (base + i) (val i) (ao i)) ∨
  (wantedA ops (e i) o = true ∧ lo i = false ∧ al i = false ∧ τ (i + 1) = τ i ∧ clsOf P o.op = .read ∧ evalOp P (rho (e i)) (base + i) o (τ i) = some (.val (val i) (τ i))) ∨
  (wantedA ops (e i) o = true ∧ lo i = true ∧ al i = false ∧ clsOf P o.op = .loud ∧ ∃ ρ, (∀ x ∈ o.op.operands, ρ x = rho (e i) x) ∧ StepR P gl ρ (base + i) o (instL base ao (instAt lo al B i) (τ i)) (val i) (τ (i + 1)))

theorem rhoX_rho {N : Nat} {env : XEnv} {x : Operand} (hx : (resolve [] (List.range N) 0 x).isSome = true) : rhoX [] (List.range N) 0 env [] x = rho (mapT XV.out env) x := by
  cases x with
  | tmp t =>
    rw [resolve_tmp] at hx
    simp only [look] at hx
    cases hv : varOf (List.range N) t with
    | none => rw [hv] at hx; cases hx
    | some p =>
      obtain ⟨h1, rfl⟩ := varOf_range hv
      have : resolve [] (List.range N) 0 (.tmp t) = some (.var (path t)) := by rw [resolve_tmp]; simp only [look, hv]; rfl
      rw [rhoX_eq this, get_var]
      show _ = eget _ t
      unfold eget
      rw [get_mapT]
      cases env.get (path t) <;> rfl
  | const v => exact rhoX_const v
  | global b => exact rhoX_global b
  | func f => exact rhoX_func f
end Go.Ev
