/-
  The evaluator of code, over any program: the evaluator of a region that draws its order. No condition.
-/
import Derived.Test.YtedojhheppepdaaGreatDoorEv17
namespace Go.Ev
open Go
set_option linter.unusedVariables false
set_option linter.unusedSimpArgs false

/-! ## What is looked at in the text alone -/
def beforesGo : List Oper → List Nat → List Nat
  | [], B => B
  | o :: l, B => beforesGo l (B ++ [edgeBits B o.after.toList])
def befores (ops : Array Oper) : List Nat := beforesGo ops.toList []

def okEdges (o : Oper) (i : Nat) (B : List Nat) : Bool := o.after.toList.all (fun e => !Region.binds .any e || decide (e.on < i)) && B.getD i 0 == edgeBits B o.after.toList
def okPair (P : Program) (ops : Array Oper) (B : List Nat) (i : Nat) (o : Oper) (k : Nat) (ok : Oper) : Bool :=
  k == i || bit B i k || bit B k i || !((match ok.dst with | some d => (o.looksAt ops).contains d || o.dst == some d | none => false) || (decide (clsOf P o.op = .loud) && decide (clsOf P ok.op = .loud)))
def okDraw (P : Program) (ops : Array Oper) (B : List Nat) : Bool :=
  B.length == ops.size && ops.toList.zipIdx.all (fun x => okEdges x.1 x.2 B && ops.toList.zipIdx.all (fun y => okPair P ops B x.2 x.1 y.2 y.1))

theorem edgeBits_in (B : List Nat) (j : Nat) : ∀ (l : List Edge) (s : Nat), (s.testBit j = true ∨ ∃ e ∈ l, Region.binds .any e = true ∧ (e.on = j ∨ bit B e.on j = true)) →
    (l.foldl (fun s e => if Region.binds .any e then s ||| 2 ^ e.on ||| B.getD e.on 0 else s) s).testBit j = true
  | [], s, h => by
    rcases h with h | ⟨e, h, _⟩
    · exact h
    · cases h
  | e :: l, s, h => by
    rw [List.foldl_cons]
    refine edgeBits_in B j l _ ?_
    rcases h with h | ⟨e', h1, h2, h3⟩
    · left
      split
      · rw [Nat.testBit_or, Nat.testBit_or, h]; rfl
      · exact h
    · cases h1 with
      | head =>
        left
        rw [if_pos h2, Nat.testBit_or, Nat.testBit_or, Nat.testBit_two_pow]
        rcases h3 with h3 | h3
        · simp [h3]
        · simp only [bit] at h3; rw [h3]; simp
      | tail _ h1 => exact .inr ⟨e', h1, h2, h3⟩

theorem okDraw_ok {P : Program} {ops : Array Oper} {B : List Nat} (h : okDraw P ops B = true) : OkDraw P ops B := by
  simp only [okDraw, Bool.and_eq_true, List.all_eq_true, beq_iff_eq] at h
  obtain ⟨hlen, hall⟩ := h
  have mem : ∀ (i : Nat) (o : Oper), ops[i]? = some o → (o, i) ∈ ops.toList.zipIdx := by
    intro i o ho
    rw [List.mem_zipIdx_iff_getElem?]
    simpa using ho
  have hE := fun i o (ho : ops[i]? = some o) => (hall _ (mem i o ho)).1
  have hP := fun i o k ok (ho : ops[i]? = some o) (hk : ops[k]? = some ok) => (hall _ (mem i o ho)).2 _ (mem k ok hk)
  simp only [okEdges, Bool.and_eq_true, List.all_eq_true, Bool.or_eq_true, Bool.not_eq_true', decide_eq_true_eq, beq_iff_eq] at hE
  have edge : ∀ i o, ops[i]? = some o → ∀ e ∈ o.after, Region.binds .any e = true → e.on < i := by
    intro i o ho e he hb
    rcases (hE i o ho).1 e (by simpa using he) with q | q
    · rw [hb] at q; cases q
    · exact q
  have ex : ∀ i o j, ops[i]? = some o → bit B i j = true → ∃ e ∈ o.after, Region.binds .any e = true ∧ (e.on = j ∨ bit B e.on j = true) := by
    intro i o j ho hb
    unfold bit at hb
    rw [(hE i o ho).2] at hb
    rcases edgeBits_ex B j _ _ hb with q | ⟨e, q1, q2⟩
    · simp at q
    · exact ⟨e, by simpa using q1, q2⟩
  have inn : ∀ i o j, ops[i]? = some o → (∃ e ∈ o.after, Region.binds .any e = true ∧ (e.on = j ∨ bit B e.on j = true)) → bit B i j = true := by
    rintro i o j ho ⟨e, q1, q2⟩
    unfold bit
    rw [(hE i o ho).2]
    exact edgeBits_in B j _ _ (.inr ⟨e, by simpa using q1, q2⟩)
  have out : ∀ i j, ops.size ≤ i → bit B i j = false := by
    intro i j hi
    unfold bit
    have : B.getD i 0 = 0 := by rw [List.getD_eq_getElem?_getD, List.getElem?_eq_none (by omega)]; rfl
    rw [this]; simp
  refine ⟨edge, ex, out, ?_, fun i o k ok d ho hk hne hd hl => ?_, fun i o k ok d ho hk hne hd hl => ?_, fun i o k ok ho hk hne h1 h2 => ?_⟩
  · intro i
    induction i using Nat.strongRecOn with
    | _ i ih =>
      intro j k h1 h2
      have hi : i < ops.size := by
        rcases Nat.lt_or_ge i ops.size with q | q
        · exact q
        · rw [out i j q] at h1; cases h1
      have ho : ops[i]? = some ops[i] := Array.getElem?_eq_getElem hi
      obtain ⟨e, he, hb, h3⟩ := ex i _ j ho h1
      refine inn i _ k ho ⟨e, he, hb, .inr ?_⟩
      rcases h3 with rfl | h3
      · exact h2
      · exact ih e.on (edge i _ ho e he hb) j k h3 h2
  · have := hP i o k ok ho hk
    simp only [okPair, hd, Bool.or_eq_true, beq_iff_eq, Bool.not_eq_true', Bool.or_eq_false_iff] at this
    rcases this with ((q | q) | q) | q
    · exact (hne q).elim
    · exact .inl q
    · exact .inr q
    · have := q.1.1
      rw [List.contains_eq_mem] at this
      simp at this
      exact (this hl).elim
  · have := hP i o k ok ho hk
    simp only [okPair, hd, Bool.or_eq_true, beq_iff_eq, Bool.not_eq_true', Bool.or_eq_false_iff] at this
    rcases this with ((q | q) | q) | q
    · exact (hne q).elim
    · exact .inl q
    · exact .inr q
    · have := q.1.2
      rw [hl] at this
      simp at this
  · have := hP i o k ok ho hk
    simp only [okPair, Bool.or_eq_true, beq_iff_eq, Bool.not_eq_true', Bool.or_eq_false_iff, h1, h2] at this
    rcases this with ((q | q) | q) | q
    · exact (hne q).elim
    · exact .inl q
    · exact .inr q
    · have := q.2; simp at this

/-! ## The run in the text's order -/
structure TRow where
  v : Value
  k : Nat
  ao : AObj
  env : Env
  st : St

def rlo (R : List TRow) (i : Nat) : Bool := match R[i]? with | some r => r.k == 4 | none => false
def ral (R : List TRow) (i : Nat) : Bool := match R[i]? with | some r => r.k == 2 | none => false
def rval (R : List TRow) (i : Nat) : Value := match R[i]? with | some r => r.v | none => undef
def rao (R : List TRow) (i : Nat) : AObj := match R[i]? with | some r => r.ao | none => .iter .empty 0
def renv (R : List TRow) (env : Env) (i : Nat) : Env := match R[i]? with | some r => r.env | none => env
def rst (R : List TRow) (σ : St) (i : Nat) : St := match R[i]? with | some r => r.st | none => σ

def drawRow (P : Program) (call : CallF) (ops : Array Oper) (base : Nat) (B : List Nat) (R : List TRow) (i : Nat) (env : Env) (σ : St) (o : Oper) : Option (TRow × St) :=
  if wantedA ops env o then
    match clsOf P o.op with
    | .pure => match evalOp P (rho env) (base + i) o σ with
      | some (.val v _) => some (⟨v, 1, .iter .empty 0, env, σ⟩, σ)
      | _ => none
    | .alloc => match evalOp P (rho env) (base + i) o σ with
      | some (.val v σ') => match σ'.get (base + i) with
        | some ao => some (⟨v, 2, ao, env, σ⟩, σ)
        | none => none
      | _ => none
    | .read => match evalOp P (rho env) (base + i) o σ with
      | some (.val v _) => some (⟨v, 3, .iter .empty 0, env, σ⟩, σ)
      | _ => none
    | .loud => match stepOp P call env (base + i) o (instL base (rao R) (instAt (rlo R) (ral R) B i) σ) with
      | some (v, σ') => some (⟨v, 4, .iter .empty 0, env, σ⟩, σ')
      | none => none
  else some (⟨undef, 0, .iter .empty 0, env, σ⟩, σ)
def goDraw (P : Program) (call : CallF) (ops : Array Oper) (base : Nat) (B : List Nat) : List Oper → Nat → Env → St → List TRow → Option (List TRow × Env × St)
  | [], _, env, σ, R => some (R, env, σ)
  | o :: l, i, env, σ, R => match drawRow P call ops base B R i env σ o with
    | some (r, σ') => goDraw P call ops base B l (i + 1) (eputo env o.dst r.v) σ' (R ++ [r])
    | none => none

def veq0 : Value → Value → Bool
  | .bool a, .bool b => a == b
  | .int k a, .int k' b => decide (k = k') && decide (a = b)
  | .float k a, .float k' b => decide (k = k') && decide (a = b)
  | .pointer a, .pointer b => decide (a = b)
  | .slice a n c, .slice b m d => decide (a = b) && n == m && c == d
  | .string a, .string b => decide (a = b)
  | .map a, .map b => decide (a = b)
  | .nilIface, .nilIface => true
  | .nilFunc, .nilFunc => true
  | _, _ => false
def veqs : List Value → List Value → Bool
  | [], [] => true
  | a :: l, b :: m => veq0 a b && veqs l m
  | _, _ => false
def veq : Value → Value → Bool
  | .agg a, .agg b => veqs a.toList b.toList
  | .iface t a, .iface u b => t == u && veq0 a b
  | a, b => veq0 a b
theorem veq0_eq {a b : Value} (h : veq0 a b = true) : a = b := by
  unfold veq0 at h
  split at h <;> simp_all
theorem veqs_eq : ∀ {l m : List Value}, veqs l m = true → l = m
  | [], [], _ => rfl
  | [], _ :: _, h => by simp [veqs] at h
  | _ :: _, [], h => by simp [veqs] at h
  | a :: l, b :: m, h => by
    simp only [veqs, Bool.and_eq_true] at h
    rw [veq0_eq h.1, veqs_eq h.2]
theorem veq_eq {a b : Value} (h : veq a b = true) : a = b := by
  unfold veq at h
  split at h
  · rename_i x y
    have := veqs_eq h
    rw [← Array.toArray_toList (xs := x), this, Array.toArray_toList]
  · simp only [Bool.and_eq_true, beq_iff_eq] at h
    rw [h.1, veq0_eq h.2]
  · exact veq0_eq h

/-- A read comes to v in this state too. -/
def sameRead (P : Program) (ρ : Operand → Value) (id : Nat) (o : Oper) (v : Value) (σ : St) : Bool :=
  match evalOp P ρ id o σ with
  | some (.val v' _) => veq v' v
  | _ => false
def chkReads (P : Program) (ops : Array Oper) (base : Nat) (B : List Nat) (R : List TRow) (env : Env) (σ : St) : Bool :=
  ops.toList.zipIdx.all fun x => match R[x.2]? with
    | some r => !(r.k == 3) || (List.range ops.size).all fun j => !rlo R j || bit B x.2 j || bit B j x.2 || (sameRead P (rho r.env) (base + x.2) x.1 r.v (rst R σ j) && sameRead P (rho r.env) (base + x.2) x.1 r.v (rst R σ (j + 1)))
    | none => true

def evalDraw (P : Program) (call : CallF) (ops : Array Oper) (env : Env) (σ : St) : Option (Env × St) :=
  let B := befores ops
  if okDraw P ops B then
    match goDraw P call ops σ.next B ops.toList 0 env (σ.bump ops.size) [] with
    | some (R, env', σ') => if chkReads P ops σ.next B R env' σ' then some (env', instL σ.next (rao R) (pendAt (rlo R) (ral R) B ops.size) σ') else none
    | none => none
  else none

theorem gone_congr {lo lo' : Nat → Bool} {B : List Nat} {p : Nat} (h : ∀ j, j < p → lo j = lo' j) (k : Nat) : gone lo B p k = gone lo' B p k := by
  rw [Bool.eq_iff_iff, gone_ex, gone_ex]
  constructor
  · rintro ⟨j, a, b, c⟩; exact ⟨j, a, by rw [← h j a]; exact b, c⟩
  · rintro ⟨j, a, b, c⟩; exact ⟨j, a, by rw [h j a]; exact b, c⟩
theorem instAt_congr {lo lo' al al' : Nat → Bool} {B : List Nat} {p : Nat} (h : ∀ j, j < p → lo j = lo' j) (h2 : ∀ j, j < p → al j = al' j) : instAt lo al B p = instAt lo' al' B p := by
  unfold instAt
  refine List.filter_congr fun k hk => ?_
  rw [h2 k (List.mem_range.1 hk), gone_congr h]
theorem instL_congr {base : Nat} {ao ao' : Nat → AObj} : ∀ (l : List Nat) (σ : St), (∀ k ∈ l, ao k = ao' k) → instL base ao l σ = instL base ao' l σ
  | [], σ, h => rfl
  | k :: l, σ, h => by
    have := instL_congr (base := base) (ao := ao) (ao' := ao') l (σ.set (base + k) (ao k)) (fun k' hk' => h k' (List.mem_cons_of_mem _ hk'))
    simp only [instL, List.foldl_cons] at this ⊢
    rw [this, h k List.mem_cons_self]
theorem instAt_lt {lo al : Nat → Bool} {B : List Nat} {p k : Nat} (h : k ∈ instAt lo al B p) : k < p := by
  simp only [instAt, List.mem_filter, List.mem_range] at h; exact h.1

/-- What a row says of its operation. -/
def RowOk (P : Program) (call : CallF) (ops : Array Oper) (base : Nat) (B : List Nat) (e : Nat → Env) (τ : Nat → St) (val : Nat → Value) (ao : Nat → AObj) (lo al : Nat → Bool) (rd : Nat → Bool) (i : Nat) (o : Oper) : Prop :=
  (wantedA ops (e i) o = false ∧ val i = undef ∧ lo i = false ∧ al i = false ∧ τ (i + 1) = τ i) ∨
  (wantedA ops (e i) o = true ∧ lo i = false ∧ al i = false ∧ τ (i + 1) = τ i ∧ PureOk P (rho (e i)) o (val i)) ∨
  (wantedA ops (e i) o = true ∧ lo i = false ∧ al i = true ∧ τ (i + 1) = τ i ∧ AllocOk P (rho (e i)) o (base + i) (val i) (ao i)) ∨
  (wantedA ops (e i) o = true ∧ lo i = false ∧ al i = false ∧ τ (i + 1) = τ i ∧ clsOf P o.op = .read ∧ evalOp P (rho (e i)) (base + i) o (τ i) = some (.val (val i) (τ i)) ∧ rd i = true) ∨
  (wantedA ops (e i) o = true ∧ lo i = true ∧ al i = false ∧ clsOf P o.op = .loud ∧ stepOp P call (e i) (base + i) o (instL base ao (instAt lo al B i) (τ i)) = some (val i, τ (i + 1)))

def rrd (R : List TRow) (i : Nat) : Bool := match R[i]? with | some r => r.k == 3 | none => false

theorem get_app {R S : List TRow} {r : TRow} : (R ++ r :: S)[R.length]? = some r := by simp
theorem get_app1 {R S : List TRow} {r s : TRow} : (R ++ r :: s :: S)[R.length + 1]? = some s := by simp [List.getElem?_append_right]

theorem goDraw_spec {P : Program} {call : CallF} {ops : Array Oper} {base : Nat} {B : List Nat} {env' : Env} {σ' : St} {R' : List TRow} : ∀ (l : List Oper) (env : Env) (σ : St) (R : List TRow),
    goDraw P call ops base B l R.length env σ R = some (R', env', σ') → (∃ S, R' = R ++ S ∧ S.length = l.length) ∧ renv R' env' R.length = env ∧ rst R' σ' R.length = σ ∧
      ∀ j o, l[j]? = some o → renv R' env' (R.length + j + 1) = eputo (renv R' env' (R.length + j)) o.dst (rval R' (R.length + j)) ∧ RowOk P call ops base B (renv R' env') (rst R' σ') (rval R') (rao R') (rlo R') (ral R') (rrd R') (R.length + j) o
  | [], env, σ, R, h => by
    simp only [goDraw, Option.some.injEq, Prod.mk.injEq] at h
    obtain ⟨rfl, rfl, rfl⟩ := h
    refine ⟨⟨[], by simp⟩, ?_, ?_, fun j o hj => by simp at hj⟩
    · unfold renv; rw [List.getElem?_eq_none (Nat.le_refl _)]
    · unfold rst; rw [List.getElem?_eq_none (Nat.le_refl _)]
  | o :: l, env, σ, R, h => by
    simp only [goDraw] at h
    split at h
    · rename_i r σ1 hrow
      have hlen : (R ++ [r]).length = R.length + 1 := by simp
      rw [← hlen] at h
      obtain ⟨⟨S, hS1, hS2⟩, he, hs, hrest⟩ := goDraw_spec l _ _ _ h
      have hR' : R' = R ++ r :: S := by rw [hS1]; simp
      have hget : R'[R.length]? = some r := by rw [hR']; exact get_app
      have hold : ∀ j, j < R.length → R'[j]? = R[j]? := fun j hj => by rw [hR', List.getElem?_append_left hj]
      have hre : r.env = env ∧ r.st = σ := by
        unfold drawRow at hrow
        split at hrow
        · split at hrow
          · split at hrow <;> first | (cases hrow; exact ⟨rfl, rfl⟩) | cases hrow
          · split at hrow
            · split at hrow <;> first | (cases hrow; exact ⟨rfl, rfl⟩) | cases hrow
            · cases hrow
          · split at hrow <;> first | (cases hrow; exact ⟨rfl, rfl⟩) | cases hrow
          · split at hrow <;> first | (cases hrow; exact ⟨rfl, rfl⟩) | cases hrow
        · cases hrow; exact ⟨rfl, rfl⟩
      have e1 : renv R' env' R.length = env := by unfold renv; rw [hget]; exact hre.1
      have e2 : rst R' σ' R.length = σ := by unfold rst; rw [hget]; exact hre.2
      have e3 : rval R' R.length = r.v := by unfold rval; rw [hget]
      have e4 : rlo R' R.length = (r.k == 4) := by unfold rlo; rw [hget]
      have e5 : ral R' R.length = (r.k == 2) := by unfold ral; rw [hget]
      have e6 : rao R' R.length = r.ao := by unfold rao; rw [hget]
      have e7 : rrd R' R.length = (r.k == 3) := by unfold rrd; rw [hget]
      have e8 : renv R' env' (R.length + 1) = eputo env o.dst r.v := by rw [← hlen]; exact he
      have e9 : rst R' σ' (R.length + 1) = σ1 := by rw [← hlen]; exact hs
      refine ⟨⟨r :: S, hR', by simp [hS2]⟩, e1, e2, fun j o' hj => ?_⟩
      cases j with
      | succ j =>
        have := hrest j o' (by simpa using hj)
        rw [hlen] at this
        rw [show R.length + (j + 1) = R.length + 1 + j by omega]
        exact this
      | zero =>
        simp only [List.getElem?_cons_zero, Option.some.injEq] at hj
        subst hj
        simp only [Nat.add_zero]
        refine ⟨by rw [e8, e1, e3], ?_⟩
        unfold RowOk
        rw [e1, e2, e3, e4, e5, e6, e7, e9]
        unfold drawRow at hrow
        split at hrow
        · rename_i hw
          split at hrow
          · rename_i hcl
            split at hrow
            · rename_i v σ2 hev
              cases hrow
              obtain ⟨v2, q1, q2⟩ := evalOp_pure hcl hev
              cases q1
              exact .inr (.inl ⟨hw, rfl, rfl, rfl, q2⟩)
            · cases hrow
          · rename_i hcl
            split at hrow
            · rename_i v σ2 hev
              split at hrow
              · rename_i ao hao
                cases hrow
                obtain ⟨v2, ao2, q1, q2⟩ := evalOp_alloc hcl hev
                cases q1
                rw [St.get_set, if_pos rfl] at hao
                cases hao
                exact .inr (.inr (.inl ⟨hw, rfl, rfl, rfl, q2⟩))
              · cases hrow
            · cases hrow
          · rename_i hcl
            split at hrow
            · rename_i v σ2 hev
              cases hrow
              obtain ⟨v2, q1, q2⟩ := evalOp_read hcl hev
              cases q1
              exact .inr (.inr (.inr (.inl ⟨hw, rfl, rfl, rfl, hcl, hev, rfl⟩)))
            · cases hrow
          · rename_i hcl
            split at hrow
            · rename_i v σ2 hev
              cases hrow
              refine .inr (.inr (.inr (.inr ⟨hw, rfl, rfl, hcl, ?_⟩)))
              have h1 : ∀ j, j < R.length → rlo R' j = rlo R j := fun j hj => by unfold rlo; rw [hold j hj]
              have h2 : ∀ j, j < R.length → ral R' j = ral R j := fun j hj => by unfold ral; rw [hold j hj]
              rw [instAt_congr h1 h2, instL_congr (ao' := rao R)]
              · exact hev
              · intro k hk
                have := instAt_lt hk
                unfold rao; rw [hold k this]
            · cases hrow
        · rename_i hw
          cases hrow
          exact .inl ⟨by simpa using hw, rfl, rfl, rfl, rfl⟩
    · cases h

theorem sameRead_ok {P : Program} {ρ : Operand → Value} {id : Nat} {o : Oper} {v : Value} {σ : St} (hcl : clsOf P o.op = .read) (h : sameRead P ρ id o v σ = true) : evalOp P ρ id o σ = some (.val v σ) := by
  unfold sameRead at h
  split at h
  · rename_i v' σ' hev
    obtain ⟨v2, q1, _⟩ := evalOp_read hcl hev
    cases q1
    rw [hev, veq_eq h]
  · cases h

theorem stepOp_stepR {P : Program} {gl : List Nat} {call : CallF} (hc : call.ok P gl) {env : Env} {id : Nat} {o : Oper} {σ σ' : St} {v : Value} (h : stepOp P call env id o σ = some (v, σ')) : StepR P gl (rho env) id o σ v σ' := by
  unfold stepOp at h
  split at h
  · rename_i v2 σ2 he
    cases h
    exact .inl he
  · rename_i f args he
    exact .inr (.inl ⟨f, args, he, hc _ _ _ _ _ h⟩)
  · cases h
theorem evalDraw_ok {P : Program} {gl : List Nat} {call : CallF} (hc : call.ok P gl) (hm : P.follows .mixedOrders = true) (N : Nat) : DrawOk P gl N (evalDraw P call) := by
  intro id ops env σ env' σ' h hok
  unfold evalDraw at h
  simp only at h
  split at h
  · rename_i hdr
    split at h
    · rename_i R e1 s1 hgo
      split at h
      · rename_i hch
        simp only [Option.some.injEq, Prod.mk.injEq] at h
        obtain ⟨rfl, rfl⟩ := h
        obtain ⟨⟨S, hS1, hS2⟩, q1, q2, q3⟩ := goDraw_spec (R := []) ops.toList env _ hgo
        simp only [List.nil_append] at hS1
        subst hS1
        simp only [Array.length_toList] at hS2
        simp only [List.length_nil, Nat.zero_add] at q1 q2 q3
        have hlast1 : renv R e1 ops.size = e1 := by unfold renv; rw [List.getElem?_eq_none (by omega)]
        have hlast2 : rst R s1 ops.size = s1 := by unfold rst; rw [List.getElem?_eq_none (by omega)]
        have ht : Trc P gl ops σ.next (befores ops) (renv R e1) (rst R s1) (rval R) (rao R) (rlo R) (ral R) := by
          refine ⟨fun i o ho => (q3 i o (by simpa using ho)).1, fun i o ho => ?_, fun i hi => ?_, fun i hi => ?_⟩
          · rcases (q3 i o (by simpa using ho)).2 with k | k | k | k | k
            · exact .inl k
            · exact .inr (.inl ⟨k.1, k.2.1, k.2.2.1, k.2.2.2.1, k.2.2.2.2.2⟩)
            · exact .inr (.inr (.inl ⟨k.1, k.2.1, k.2.2.1, k.2.2.2.1, k.2.2.2.2.2⟩))
            · obtain ⟨k1, k2, k3, k4, k5, k6, k7⟩ := k
              refine .inr (.inr (.inr (.inl ⟨k1, k2, k3, k4, k5, k6, fun j hj hl b1 b2 => ?_⟩)))
              simp only [chkReads, List.all_eq_true] at hch
              have hx := hch (o, i) (by rw [List.mem_zipIdx_iff_getElem?]; simpa using ho)
              simp only at hx
              unfold rrd at k7
              cases hr : R[i]? with
              | none => rw [hr] at k7; cases k7
              | some r =>
                rw [hr] at hx k7
                have hre : renv R e1 i = r.env := by unfold renv; rw [hr]
                have hrv : rval R i = r.v := by unfold rval; rw [hr]
                have k7 : (r.k == 3) = true := k7
                simp only [k7, Bool.not_true, Bool.false_or, List.all_eq_true, List.mem_range] at hx
                have := hx j hj
                rw [hl, b1, b2] at this
                simp only [Bool.not_true, Bool.false_or, Bool.and_eq_true] at this
                rw [hre, hrv]
                exact ⟨sameRead_ok k5 this.1, sameRead_ok k5 this.2⟩
            · obtain ⟨k1, k2, k3, k4, k5⟩ := k
              exact .inr (.inr (.inr (.inr ⟨k1, k2, k3, _, fun _ _ => rfl, stepOp_stepR hc k5⟩)))
          · have hin : i < ops.size := by
              rcases Nat.lt_or_ge i ops.size with q | q
              · exact q
              · unfold rlo at hi; rw [List.getElem?_eq_none (by omega)] at hi; cases hi
            refine ⟨ops[i], Array.getElem?_eq_getElem hin, ?_⟩
            rcases (q3 i ops[i] (by simp [hin])).2 with k | k | k | k | k
            · rw [hi] at k; cases k.2.2.1
            · rw [hi] at k; cases k.2.1
            · rw [hi] at k; cases k.2.1
            · rw [hi] at k; cases k.2.1
            · exact k.2.2.2.1
          · rcases Nat.lt_or_ge i ops.size with q | q
            · exact q
            · unfold ral at hi; rw [List.getElem?_eq_none (by omega)] at hi; cases hi
        have := simC_draw (id := id) hm (okDraw_ok hdr) ht q1 q2 hok
        rw [hlast1, hlast2] at this
        exact this
      · cases h
    · cases h
  · cases h
end Go.Ev
