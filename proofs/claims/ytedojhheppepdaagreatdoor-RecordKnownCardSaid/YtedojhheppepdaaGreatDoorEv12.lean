/-
  The evaluator of code, over any program: which operations look at no memory, which make a block, which only read; what each does in any world. Made for regions that draw their order. No condition.
-/
import Derived.Test.YtedojhheppepdaaGreatDoorEv11
namespace Go.Ev
open Go
set_option linter.unusedVariables false
set_option linter.unusedSimpArgs false

inductive Cls where
  | pure | alloc | read | loud
  deriving DecidableEq

def clsConv (P : Program) (src dst : TypeId) : Cls :=
  match P.underlying src with
  | some .string => match P.underlying dst with
    | some (.slice e) => match P.underlying e with
      | some (.int .u8) => .alloc
      | _ => .loud
    | _ => .loud
  | some (.slice _) => match P.underlying dst with
    | some .string => .read
    | _ => .loud
  | _ => .pure
def clsOf (P : Program) : Op → Cls
  | .move _ | .assign _ | .pick .. | .build .. | .nilCheck _ | .binOp .. | .unOp .. | .makeInterface .. | .makeFunc (.func _) .. | .slice .. | .fieldAddr .. | .field .. | .indexAddr .. | .index .. | .extract .. => .pure
  | .alloc _ | .box .. | .buildSlice .. | .makeSlice .. | .range .. => .alloc
  | .convert src dst _ => clsConv P src dst
  | .load .. => .read
  | .call c => match c.callee with
    | .builtin .len => match c.argTypes.toList with
      | [t] => match P.underlying t with
        | some (.slice _) => .pure
        | some .string => .pure
        | _ => .loud
      | _ => .loud
    | .builtin .cap => .pure
    | .builtin .min => .pure
    | .builtin .max => .pure
    | _ => .loud
  | _ => .loud

/-- What an operation that looks at no memory does. -/
def PureOk (P : Program) (ρ : Operand → Value) (o : Oper) (v : Value) : Prop :=
  (∀ id σ, evalOp P ρ id o σ = some (.val v σ)) ∧
  ∀ (g : Gam) (ρ' : Operand → Value) (w : World), (∀ x ∈ o.op.operands, VRel g (ρ x) (ρ' x)) → ∃ v', (execOp ρ' o).run P w = .ok (.value v') w ∧ VRel g v v'

theorem evalFlat_pure {P : Program} {ρ : Operand → Value} {o : Oper} {σ : St} {r : ARes} (h : evalFlat P ρ o σ = some r) :
    ∃ v, r = .val v σ ∧ (∀ σ', evalFlat P ρ o σ' = some (.val v σ')) ∧ ∀ (g : Gam) (ρ' : Operand → Value) (w : World), (∀ x ∈ o.op.operands, VRel g (ρ x) (ρ' x)) → ∃ v', (execOp ρ' o).run P w = .ok (.value v') w ∧ VRel g v v' := by
  unfold evalFlat at h
  split at h
  · rename_i hc
    split at h
    · rename_i v hv
      split at h
      · rename_i hf
        cases h
        refine ⟨v, rfl, fun σ' => ?_, fun g ρ' w hρ => ?_⟩
        · unfold evalFlat; rw [if_pos hc, hv]; simp [hf]
        · simp only [Bool.and_eq_true, flatOps, List.all_eq_true] at hc
          have e : execOp ρ' o = execOp ρ o := execOp_congr o (fun cs b e => by rw [e] at hc; simp [isSelect] at hc) fun x hx => flatV_eq (hc.1 x (by simpa using hx)) (hρ x hx)
          exact ⟨v, by rw [e]; exact pureRun_run hv w, flatV_rel hf⟩
      · cases h
    · cases h
  · cases h
theorem evalFlat_none {P : Program} {ρ : Operand → Value} {o : Oper} {σ : St} (h : evalFlat P ρ o σ = none) (σ' : St) : evalFlat P ρ o σ' = none := by
  cases e : evalFlat P ρ o σ' with
  | none => rfl
  | some r =>
    obtain ⟨v, _, k, _⟩ := evalFlat_pure e
    rw [k σ] at h; cases h
theorem valOf_pure {σ : St} {r : Option Value} {a : ARes} (h : valOf σ r = some a) : ∃ v, r = some v ∧ a = .val v σ := by
  unfold valOf at h
  split at h
  · cases h; exact ⟨_, rfl, rfl⟩
  · cases h

theorem evalOp_pure {P : Program} {ρ : Operand → Value} {id : Nat} {o : Oper} {σ : St} {r : ARes} (hcl : clsOf P o.op = .pure) (h : evalOp P ρ id o σ = some r) : ∃ v, r = .val v σ ∧ PureOk P ρ o v := by
  have flat : (∀ σ', evalOp P ρ id o σ' = evalFlat P ρ o σ') → (∀ id' σ', evalOp P ρ id' o σ' = evalFlat P ρ o σ') → evalFlat P ρ o σ = some r → ∃ v, r = .val v σ ∧ PureOk P ρ o v := by
    intro _ e2 e
    obtain ⟨v, k1, k2, k3⟩ := evalFlat_pure e
    exact ⟨v, k1, fun id' σ' => by rw [e2]; exact k2 σ', k3⟩
  have fromVal : ∀ {s : Option Value} {m : (Operand → Value) → Sem Value}, valOf σ s = some r → (∀ id' σ', evalOp P ρ id' o σ' = valOf σ' s) →
      (∀ ρ', execOp ρ' o = (do pure (.value (← m ρ')))) → (∀ v, s = some v → ∀ (g : Gam) (ρ' : Operand → Value) (w : World), (∀ x ∈ o.op.operands, VRel g (ρ x) (ρ' x)) → ∃ v', (m ρ').run P w = .ok v' w ∧ VRel g v v') →
      ∃ v, r = .val v σ ∧ PureOk P ρ o v := by
    intro s m hv he hx hk
    obtain ⟨v, rfl, rfl⟩ := valOf_pure hv
    refine ⟨v, rfl, fun id' σ' => by rw [he]; rfl, fun g ρ' w hρ => ?_⟩
    obtain ⟨v', a, b⟩ := hk v rfl g ρ' w hρ
    exact ⟨v', by rw [hx]; simp only [Sem.run_bind, a, Result.andThen_ok, Sem.run_pure], b⟩
  cases ho : o.op with
  | move x =>
    unfold evalOp at h; rw [ho] at h
    cases h
    refine ⟨_, rfl, fun id' σ' => by unfold evalOp; rw [ho], fun g ρ' w hρ => ?_⟩
    rw [ho] at hρ
    exact ⟨_, by simp only [execOp, ho, Sem.run_pure], hρ x (by simp [Op.operands])⟩
  | assign x =>
    unfold evalOp at h; rw [ho] at h
    cases h
    refine ⟨_, rfl, fun id' σ' => by unfold evalOp; rw [ho], fun g ρ' w hρ => ?_⟩
    rw [ho] at hρ
    exact ⟨_, by simp only [execOp, ho, Sem.run_pure], hρ x (by simp [Op.operands])⟩
  | pick c a b =>
    unfold evalOp at h; rw [ho] at h
    simp only at h
    split at h
    · rename_i t ht
      cases h
      refine ⟨_, rfl, fun id' σ' => by unfold evalOp; rw [ho]; simp only [ht], fun g ρ' w hρ => ?_⟩
      rw [ho] at hρ
      have hc := hρ c (by simp [Op.operands])
      rw [ht] at hc
      obtain ⟨y, hy⟩ : ∃ y, y = ρ' c := ⟨_, rfl⟩
      rw [← hy] at hc
      cases hc
      refine ⟨if t then ρ' a else ρ' b, by simp [execOp, ho, ← hy, asBool], ?_⟩
      cases t
      · exact hρ b (by simp [Op.operands])
      · exact hρ a (by simp [Op.operands])
    · cases h
  | build t parts =>
    unfold evalOp at h; rw [ho] at h
    refine fromVal (m := fun ρ' => Instr.build t (parts.map fun (i, x) => (i, ρ' x))) h (fun id' σ' => by unfold evalOp; rw [ho]) (fun ρ' => by simp [execOp, ho]) (fun v hv g ρ' w hρ => ?_)
    rw [ho] at hρ
    refine opBuild_ok w hv (by simp) (fun i h1 h2 => ?_)
    simp only [Array.getElem_map]
    refine ⟨trivial, hρ _ ?_⟩
    simp only [Op.operands, List.mem_toArray, List.mem_map]
    exact ⟨parts[i]'(by simpa using h1), by simp, rfl⟩
  | nilCheck x =>
    unfold evalOp at h; rw [ho] at h
    simp only at h
    have hop : x ∈ (Op.nilCheck x).operands := by simp [Op.operands]
    split at h
    · rename_i a ha
      cases h
      refine ⟨_, rfl, fun id' σ' => by unfold evalOp; rw [ho]; simp only [ha], fun g ρ' w hρ => ?_⟩
      rw [ho] at hρ
      have hx := hρ x hop
      rw [ha] at hx
      obtain ⟨y, hy⟩ : ∃ y, y = ρ' x := ⟨_, rfl⟩
      rw [← hy] at hx
      cases hx with
      | ptr A o z hz => exact ⟨_, by simp [execOp, ho, ← hy], .ptr A o z hz⟩
    · rename_i t v ha
      cases h
      refine ⟨_, rfl, fun id' σ' => by unfold evalOp; rw [ho]; simp only [ha], fun g ρ' w hρ => ?_⟩
      rw [ho] at hρ
      have hx := hρ x hop
      rw [ha] at hx
      obtain ⟨y, hy⟩ : ∃ y, y = ρ' x := ⟨_, rfl⟩
      rw [← hy] at hx
      cases hx with
      | iface _ _ _ hv => exact ⟨_, by simp [execOp, ho, ← hy], .iface _ _ _ hv⟩
    · rename_i f a c ha
      cases h
      refine ⟨_, rfl, fun id' σ' => by unfold evalOp; rw [ho]; simp only [ha], fun g ρ' w hρ => ?_⟩
      rw [ho] at hρ
      have hx := hρ x hop
      rw [ha] at hx
      obtain ⟨y, hy⟩ : ∃ y, y = ρ' x := ⟨_, rfl⟩
      rw [← hy] at hx
      cases hx with
      | func _ _ b _ d h1 h2 h3 h4 => exact ⟨_, by simp [execOp, ho, ← hy], .func _ _ _ _ _ h1 h2 h3 h4⟩
    · cases h
  | binOp op t x y yt =>
    unfold evalOp at h; rw [ho] at h
    simp only at h
    split at h
    · rename_i r2 hr2
      cases h
      obtain ⟨v, k1, k2, k3⟩ := evalFlat_pure hr2
      exact ⟨v, k1, fun id' σ' => by unfold evalOp; rw [ho]; simp only [k2 σ'], k3⟩
    · rename_i hfl
      have hfl' := evalFlat_none hfl
      split at h
      · split at h
        · rename_i b hb
          cases h
          refine ⟨_, rfl, fun id' σ' => by unfold evalOp; rw [ho]; simp only [hfl' σ', hb], fun g ρ' w hρ => ?_⟩
          rw [ho] at hρ
          obtain ⟨e1, e2⟩ := opEq_ok (P := P) w hb (hρ x (by simp [Op.operands])) (hρ y (by simp [Op.operands]))
          refine ⟨.bool b, ?_, .bool _⟩
          have hbin : (binOp .eql t (ρ' x) (ρ' y)).run P w = .ok (.bool b) w := by
            rw [(opEq_bin hb (hρ x (by simp [Op.operands])) (hρ y (by simp [Op.operands]))).1]; simp [e1]
          simp only [execOp, ho, Sem.run_bind, e2, Result.andThen_ok, hbin, Sem.run_pure]
        · cases h
      · split at h
        · rename_i b hb
          cases h
          refine ⟨_, rfl, fun id' σ' => by unfold evalOp; rw [ho]; simp only [hfl' σ', hb], fun g ρ' w hρ => ?_⟩
          rw [ho] at hρ
          obtain ⟨e1, e2⟩ := opEq_ok (P := P) w hb (hρ x (by simp [Op.operands])) (hρ y (by simp [Op.operands]))
          refine ⟨.bool !b, ?_, .bool _⟩
          have hbin : (binOp .neq t (ρ' x) (ρ' y)).run P w = .ok (.bool !b) w := by
            rw [(opEq_bin hb (hρ x (by simp [Op.operands])) (hρ y (by simp [Op.operands]))).2]; simp [e1]
          simp only [execOp, ho, Sem.run_bind, e2, Result.andThen_ok, hbin, Sem.run_pure]
        · cases h
      · cases h
  | unOp op t x =>
    have e : ∀ id' σ', evalOp P ρ id' o σ' = evalFlat P ρ o σ' := fun id' σ' => by unfold evalOp; rw [ho]
    exact flat (e id) e (by rw [← e id σ]; exact h)
  | makeInterface t x =>
    unfold evalOp at h; rw [ho] at h
    simp only at h
    split at h
    · cases h
    · rename_i d hd hu
      cases h
      refine ⟨_, rfl, fun id' σ' => ?_, fun g ρ' w hρ => ?_⟩
      · unfold evalOp; rw [ho]; simp only [hu]
      · rw [ho] at hρ
        refine ⟨.iface t (ρ' x), ?_, .iface _ _ _ (hρ x (by simp [Op.operands]))⟩
        have : (Instr.makeInterface t (ρ' x)).run P w = .ok (.iface t (ρ' x)) w := by
          simp only [Instr.makeInterface, Sem.run_bind, rU w hu, Result.andThen_ok]
          cases d <;> first | rfl | (rename_i q; exact (hd q rfl).elim)
        simp only [execOp, ho, Sem.run_bind, this, Result.andThen_ok, Sem.run_pure]
    · cases h
  | makeFunc fn first captured =>
    cases fn with
    | func f =>
      unfold evalOp at h; rw [ho] at h
      cases h
      refine ⟨_, rfl, fun id' σ' => by unfold evalOp; rw [ho], fun g ρ' w hρ => ?_⟩
      rw [ho] at hρ
      have h1 := ARel.map (g := g) (ρ := ρ) (ρ' := ρ') first (fun x hx => hρ x (by simp [Op.operands, hx]))
      have h2 := ARel.map (g := g) (ρ := ρ) (ρ' := ρ') captured (fun x hx => hρ x (by simp [Op.operands, hx]))
      exact ⟨_, by simp [execOp, ho, Instr.makeFunc], .func _ _ _ _ _ h1.1 h1.2 h2.1 h2.2⟩
    | _ => rw [ho] at hcl; simp [clsOf] at hcl
  | slice t x lo hi mx =>
    unfold evalOp at h; rw [ho] at h
    simp only at h
    split at h
    · rename_i r2 hr2
      cases h
      obtain ⟨v, k1, k2, k3⟩ := evalFlat_pure hr2
      exact ⟨v, k1, fun id' σ' => by unfold evalOp; rw [ho]; simp only [k2 σ'], k3⟩
    · rename_i hfl
      have hfl' := evalFlat_none hfl
      refine fromVal (m := fun ρ' => Instr.sliceAt t (ρ' x) (lo.map ρ') (hi.map ρ') (mx.map ρ')) h (fun id' σ' => by unfold evalOp; rw [ho]; simp only [hfl' σ']) (fun ρ' => by simp [execOp, ho]) (fun v hv g ρ' w hρ => ?_)
      rw [ho] at hρ
      exact opSlice_ok w hv (hρ x (by simp [Op.operands])) (ORel.map lo fun y e => hρ y (by simp [Op.operands, e])) (ORel.map hi fun y e => hρ y (by simp [Op.operands, e])) (ORel.map mx fun y e => hρ y (by simp [Op.operands, e]))
  | fieldAddr s x f =>
    unfold evalOp at h; rw [ho] at h
    refine fromVal (m := fun ρ' => Instr.fieldAt s (ρ' x) f) h (fun id' σ' => by unfold evalOp; rw [ho]) (fun ρ' => by simp [execOp, ho]) (fun v hv g ρ' w hρ => ?_)
    rw [ho] at hρ
    exact opFieldAddr_ok w hv (hρ x (by simp [Op.operands]))
  | field t x f =>
    unfold evalOp at h; rw [ho] at h
    refine fromVal (m := fun ρ' => Instr.field t (ρ' x) f) h (fun id' σ' => by unfold evalOp; rw [ho]) (fun ρ' => by simp [execOp, ho]) (fun v hv g ρ' w hρ => ?_)
    rw [ho] at hρ
    exact opField_ok w hv (hρ x (by simp [Op.operands]))
  | indexAddr t x ix =>
    unfold evalOp at h; rw [ho] at h
    refine fromVal (m := fun ρ' => Instr.indexAt t (ρ' x) (ρ' ix)) h (fun id' σ' => by unfold evalOp; rw [ho]) (fun ρ' => by simp [execOp, ho]) (fun v hv g ρ' w hρ => ?_)
    rw [ho] at hρ
    exact opIndexAddr_ok w hv (hρ x (by simp [Op.operands])) (hρ ix (by simp [Op.operands]))
  | index t x ix =>
    unfold evalOp at h; rw [ho] at h
    simp only at h
    split at h
    · rename_i r2 hr2
      cases h
      obtain ⟨v, k1, k2, k3⟩ := evalFlat_pure hr2
      exact ⟨v, k1, fun id' σ' => by unfold evalOp; rw [ho]; simp only [k2 σ'], k3⟩
    · rename_i hfl
      have hfl' := evalFlat_none hfl
      refine fromVal (m := fun ρ' => Instr.index t (ρ' x) (ρ' ix)) h (fun id' σ' => by unfold evalOp; rw [ho]; simp only [hfl' σ']) (fun ρ' => by simp [execOp, ho]) (fun v hv g ρ' w hρ => ?_)
      rw [ho] at hρ
      exact opIndexArr_ok w hv (hρ x (by simp [Op.operands])) (hρ ix (by simp [Op.operands]))
  | extract x ix =>
    unfold evalOp at h; rw [ho] at h
    refine fromVal (m := fun ρ' => Instr.extract (ρ' x) ix) h (fun id' σ' => by unfold evalOp; rw [ho]) (fun ρ' => by simp [execOp, ho]) (fun v hv g ρ' w hρ => ?_)
    rw [ho] at hρ
    exact opExtract_ok w hv (hρ x (by simp [Op.operands]))
  | convert src dst x =>
    rw [ho] at hcl
    have hnone : ∀ id' σ', opConvert P src dst id' (ρ x) σ' = none := by
      intro id' σ'
      unfold opConvert
      split
      · rename_i e s h1 h2 h3
        simp only [clsOf, clsConv, h1, h2] at hcl
        split at hcl <;> cases hcl
      · rename_i e a l c h1 h2 h3
        simp only [clsOf, clsConv, h1, h2] at hcl
        cases hcl
      · rfl
    have e : ∀ id' σ', evalOp P ρ id' o σ' = evalFlat P ρ o σ' := fun id' σ' => by unfold evalOp; rw [ho]; simp only [hnone id' σ']
    exact flat (e id) e (by rw [← e id σ]; exact h)
  | call c =>
    rw [ho] at hcl
    have hb : (c.callee = .builtin .len ∧ ∃ t, c.argTypes.toList = [t] ∧ ((∃ e, P.underlying t = some (.slice e)) ∨ P.underlying t = some .string)) ∨ c.callee = .builtin .cap ∨ c.callee = .builtin .min ∨ c.callee = .builtin .max := by
      unfold clsOf at hcl
      simp only at hcl
      split at hcl
      · rename_i hc
        left
        refine ⟨hc, ?_⟩
        split at hcl
        · rename_i t ht
          refine ⟨t, ht, ?_⟩
          split at hcl
          · rename_i e he; exact .inl ⟨e, he⟩
          · rename_i he; exact .inr he
          · cases hcl
        · cases hcl
      · rename_i hc; exact .inr (.inl hc)
      · rename_i hc; exact .inr (.inr (.inl hc))
      · rename_i hc; exact .inr (.inr (.inr hc))
      · cases hcl
    rcases hb with ⟨hc, t, ht, hu⟩ | hc | hc | hc
    · have h' := h
      unfold evalOp at h'; rw [ho] at h'
      simp only [hc, ht] at h'
      split at h'
      · rename_i sT x e1 e2
        cases e1
        rcases hu with ⟨e, hu⟩ | hu
        · simp only [hu] at h'
          have e1 : c.argTypes = #[t] := by rw [← Array.toArray_toList (xs := c.argTypes), ht]
          have e3 : c.args = #[x] := by rw [← Array.toArray_toList (xs := c.args), e2]
          refine fromVal (m := fun ρ' => Builtin.len_ #[t] o.type #[ρ' x]) h' (fun id' σ' => by unfold evalOp; rw [ho]; simp only [hc, ht, e2, hu]) (fun ρ' => by simp [execOp, ho, resolve, hc, invoke, builtin, e1, e3]) (fun v hv g ρ' w hρ => ?_)
          rw [ho] at hρ
          exact opLen_ok w ⟨e, hu⟩ hv (hρ x (by simp [Op.operands, Call.operands, e3]))
        · have e : ∀ id' σ', evalOp P ρ id' o σ' = evalFlat P ρ o σ' := fun id' σ' => by unfold evalOp; rw [ho]; simp only [hc, ht, e2, hu]
          exact flat (e id) e (by rw [← e id σ]; exact h)
      · cases h'
    · have h' := h
      unfold evalOp at h'; rw [ho] at h'
      simp only [hc] at h'
      split at h'
      · rename_i t x e1 e2
        split at h'
        · rename_i e hu
          have e3 : c.argTypes = #[t] := by rw [← Array.toArray_toList (xs := c.argTypes), e1]
          have e4 : c.args = #[x] := by rw [← Array.toArray_toList (xs := c.args), e2]
          refine fromVal (m := fun ρ' => Builtin.cap_ #[t] o.type #[ρ' x]) h' (fun id' σ' => by unfold evalOp; rw [ho]; simp only [hc, e1, e2, hu]) (fun ρ' => by simp [execOp, ho, resolve, hc, invoke, builtin, e3, e4]) (fun v hv g ρ' w hρ => ?_)
          rw [ho] at hρ
          exact opCap_ok w ⟨e, hu⟩ hv (hρ x (by simp [Op.operands, Call.operands, e4]))
        · cases h'
      · cases h'
    · have e : ∀ id' σ', evalOp P ρ id' o σ' = evalFlat P ρ o σ' := fun id' σ' => by unfold evalOp; rw [ho]; simp only [hc]
      exact flat (e id) e (by rw [← e id σ]; exact h)
    · have e : ∀ id' σ', evalOp P ρ id' o σ' = evalFlat P ρ o σ' := fun id' σ' => by unfold evalOp; rw [ho]; simp only [hc]
      exact flat (e id) e (by rw [← e id σ]; exact h)
  | _ => rw [ho] at hcl; simp [clsOf] at hcl
end Go.Ev
