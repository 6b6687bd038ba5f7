/-
  The evaluator's operations, over any program, seventh part: ranges over strings; the evaluator of one operation ('evalOp') and its proof ('evalOp_ok'). No condition.
-/
import Derived.Test.YtedojhheppepdaaGreatDoorEv9
namespace Go.Ev
open Go
set_option linter.unusedVariables false
set_option linter.unusedSimpArgs false

/-! ## Blocks that are no cells -/
def AObj.plain : AObj → Bool
  | .cells .. => false
  | _ => true
def setW (w : World) (b : Nat) (o : Obj) : World := { w with heap := w.heap.setIfInBounds b o }
theorem setW_same {w : World} {b : Nat} {o : Obj} (h : b < w.heap.size) : (setW w b o).heap[b]? = some o := by simp [setW, h]
theorem setW_other {w : World} {b b' : Nat} {o : Obj} (h : b' ≠ b) : (setW w b o).heap[b']? = w.heap[b']? := by
  simp only [setW, Array.getElem?_setIfInBounds]; rw [if_neg (fun e => h e.symm)]

theorem St.rd_plain {σ : St} {A : Nat} {ao ao' : AObj} (h : σ.get A = some ao) (hp : ao.plain = true) (hp' : ao'.plain = true) (own : Bool) (ver F : Nat) : (σ.set A ao').rd own ver F = σ.rd own ver F := by
  unfold St.rd
  simp only [St.famO_set]
  cases σ.famO F with
  | none => rfl
  | some O =>
    simp only [St.get_set]
    by_cases e : A = O
    · subst e
      rw [if_pos rfl, h]
      cases ao <;> first | (cases hp; done) | (cases ao' <;> first | (cases hp'; done) | rfl)
    · rw [if_neg e]

theorem Rel.setPlain {g : Gam} {σ : St} {w : World} (h : Rel g σ w) {A : Nat} {x : CA} {ao ao' : AObj} {o : Obj} (hx : g A = some x) (hA : σ.get A = some ao) (hp : ao.plain = true) (hp' : ao'.plain = true)
    (hs : OSays g (σ.set A ao') (setW w x.block o) x ao') : Rel g (σ.set A ao') (setW w x.block o) ∧ Ext (fun _ => False) g g σ (σ.set A ao') w (setW w x.block o) := by
  have nc : ∀ {own v F c}, ao ≠ .cells own v F c := fun e => by subst e; cases hp
  have nc' : ∀ {own v F c}, ao' ≠ .cells own v F c := fun e => by subst e; cases hp'
  have hfam : ∀ B, (σ.set A ao').fam B = σ.fam B := fun B => by
    unfold St.fam; simp only [St.get_set]
    by_cases e : A = B
    · subst e; rw [if_pos rfl, hA]
      cases ao <;> first | (cases hp; done) | (cases ao' <;> first | (cases hp'; done) | rfl)
    · rw [if_neg e]
  have cellsIff : ∀ B own v F c, (σ.set A ao').get B = some (.cells own v F c) ↔ σ.get B = some (.cells own v F c) := fun B own v F c => by
    simp only [St.get_set]
    by_cases e : A = B
    · subst e; rw [if_pos rfl, hA]
      exact ⟨fun e => (nc' (Option.some.inj e)).elim, fun e => (nc (Option.some.inj e)).elim⟩
    · rw [if_neg e]
  have sz : (setW w x.block o).heap.size = w.heap.size := by simp [setW]
  have famA : σ.fam A = none := by
    unfold St.fam; rw [hA]
    cases ao <;> first | (cases hp; done) | rfl
  constructor
  · refine ⟨⟨?_, ?_, ?_, ?_, ?_, ?_⟩, fun B y e => by rw [sz]; exact h.blk B y e, ?_, ?_, ?_⟩
    · intro B ob e
      simp only [St.get_set] at e
      split at e
      · subst_vars; exact h.wf.lt _ _ hA
      · exact h.wf.lt B ob e
    · intro B own v F c e
      rw [cellsIff] at e
      obtain ⟨ob, hob⟩ := h.wf.founder B own v F c e
      simp only [St.get_set]
      by_cases e2 : A = F
      · exact ⟨_, if_pos e2⟩
      · exact ⟨ob, by rw [if_neg e2]; exact hob⟩
    · intro B v F c e
      rw [cellsIff] at e
      rcases h.wf.owner B v F c e with k | ⟨k1, k2⟩
      · exact .inl k
      · exact .inr ⟨k1, fun X own v' c' eX => k2 X own v' c' ((cellsIff _ _ _ _ _).1 eX)⟩
    · intro F O e
      obtain ⟨own, v, c, hO⟩ := h.wf.named F O e
      exact ⟨own, v, c, (cellsIff _ _ _ _ _).2 hO⟩
    · intro F O X own v c own' v' c' e hO hX
      exact h.wf.stamp F O X own v c own' v' c' e ((cellsIff _ _ _ _ _).1 hO) ((cellsIff _ _ _ _ _).1 hX)
    · intro B n e
      obtain ⟨own, v, F, c, h1, h2⟩ := h.wf.hint B n e
      exact ⟨own, v, F, c, (cellsIff _ _ _ _ _).2 h1, h2⟩
    · intro B y e
      by_cases hB : B = A
      · subst hB
        rw [hx] at e; cases e
        exact ⟨ao', by simp, hs⟩
      · obtain ⟨ob, hob, hsays⟩ := h.obj B y e
        refine ⟨ob, by simp only [St.get_set]; rw [if_neg (fun e => hB e.symm)]; exact hob, OSays.mono (Gam.le_refl g) ?_ ?_ hsays⟩
        · by_cases hb : y.block = x.block
          · rcases h.share B y A x e hx hb with k | ⟨F, _, k⟩
            · exact (hB k).elim
            · rw [famA] at k; cases k
          · exact setW_other hb
        · intro own ver fam c _ hr
          rwa [St.rd_plain hA hp hp'] at hr
    · intro B y B' y' e e' eb
      rcases h.share B y B' y' e e' eb with k | ⟨F, k1, k2⟩
      · exact .inl k
      · exact .inr ⟨F, by rw [hfam]; exact k1, by rw [hfam]; exact k2⟩
    · intro X y O z F v c own c' eX eO eb hne hfo hX hO
      exact h.order X y O z F v c own c' eX eO eb hne hfo ((cellsIff _ _ _ _ _).1 hX) ((cellsIff _ _ _ _ _).1 hO)
  · refine ⟨Gam.le_refl g, fun B y e e0 => (by rw [e] at e0; cases e0), fun B y e e0 => (by rw [e] at e0; cases e0), by rw [sz]; exact Nat.le_refl _, ?_, ?_, ?_, Nat.le_refl _, rfl, rfl, rfl⟩
    · intro b _ hall
      refine setW_other (fun e => ?_)
      obtain ⟨v, f, c, k, _⟩ := hall A x hx e.symm
      rw [hA] at k; exact nc (Option.some.inj k)
    · intro B e _
      simp only [St.get_set]
      rw [if_neg (fun e2 => by subst e2; rw [hx] at e; cases e)]
    · rintro B ⟨v, f, c, k, kf⟩
      have : A ≠ B := fun e => by subst e; rw [hA] at k; exact nc (Option.some.inj k)
      exact ⟨by simp [this], v, f, c, by simp [this, k], kf⟩

/-! ## Ranges over strings -/
def opRange (P : Program) (t : TypeId) (id : Nat) (x : Value) (σ : St) : Option ARes :=
  match P.underlying t, x with
  | some .string, .string s => some (.val (ptrTo id) (σ.set id (.iter s 0)))
  | _, _ => none
theorem opRange_ok {P : Program} {t : TypeId} {id : Nat} {x x' : Value} {r : ARes} {σ : St} {g : Gam} {w : World} (h : opRange P t id x σ = some r) (hr : Rel g σ w) (hid : σ.get id = none) (hlt : id < σ.next) (hx : VRel g x x') :
    OpOk P g σ w (· = id) (do pure (.value (← Instr.range t x'))) r := by
  unfold opRange at h
  split at h
  · rename_i s hu
    cases hx
    cases h
    obtain ⟨ra, rb⟩ := hr.new hid hlt 0 (.iter s 0) (.stringIter s 0) (fun _ _ _ _ e => by cases e) ⟨rfl, newW_new _ _⟩
    refine .new (g' := g.add id ⟨w.heap.size, 0, 0⟩) (v' := .pointer (some ⟨w.heap.size, 0, none⟩)) (w' := newW w (.stringIter s 0)) ?_ (.ptr id 0 _ (Gam.add_self g id _)) ra rb
    simp [Instr.range, rU w hu, newW]
  · cases h

def opNext (isString : Bool) (x : Value) (σ : St) : Option ARes :=
  match x, isString with
  | .pointer (some ⟨A, 0, none⟩), true => match σ.get A with
    | some (.iter s pos) => if pos < s.size then
        some (.val (.tuple #[.bool true, .int .i64 (pos : Nat), .int .i32 ((Utf8.decode s pos).1 : Nat)]) (σ.set A (.iter s (pos + (Utf8.decode s pos).2))))
      else some (.val (.tuple #[.bool false]) σ)
    | _ => none
  | _, _ => none
theorem flat_tuple {g : Gam} {l : Array Value} (h : l.toList.all flat0 = true) : VRel g (.tuple l) (.tuple l) := flatV_rel (v := .tuple l) h
theorem opNext_ok {P : Program} {isS : Bool} {ty : TypeId} {id : Nat} {x x' : Value} {r : ARes} {σ : St} {g : Gam} {w : World} (h : opNext isS x σ = some r) (hr : Rel g σ w) (hx : VRel g x x') :
    OpOk P g σ w (· = id) (do pure (.value (← Instr.next x' isS ty))) r := by
  unfold opNext at h
  split at h
  · rename_i A
    cases hx; rename_i y hy
    split at h
    · rename_i s pos hA
      obtain ⟨ob, hob, hs⟩ := hr.obj A y hy
      rw [hA] at hob; cases hob
      obtain ⟨hb, hheap⟩ := hs
      have hget : ∀ {β} (f : Obj → Sem β), (getObj y.block >>= f).run P w = (f (.stringIter s pos)).run P w := fun f => by
        show (Sem.bind (.getObj y.block .pure) f).run P w = _
        simp only [Sem.bind, Sem.run, hheap]
      split at h
      · rename_i hlt
        cases h
        obtain ⟨ra, rb⟩ := hr.setPlain (ao' := .iter s (pos + (Utf8.decode s pos).2)) (o := .stringIter s (pos + (Utf8.decode s pos).2)) hy hA rfl rfl ⟨hb, setW_same (hr.blk A y hy)⟩
        refine .new (w' := setW w y.block (.stringIter s (pos + (Utf8.decode s pos).2))) ?_ (flat_tuple rfl) ra (rb.mono fun _ h => h.elim)
        have hset : ∀ (o : Obj), (setObj y.block o).run P w = .ok () (setW w y.block o) := fun o => by
          simp only [setObj, Sem.run, hheap]; rfl
        simp only [hb, Nat.zero_add, Instr.next, Sem.run_bind]
        rw [show (getObj y.block).run P w = .ok (.stringIter s pos) w by simp only [getObj, Sem.run, hheap]]
        simp [hlt, hset, goInt]
      · rename_i hlt
        cases h
        refine .val0 hr ?_ (flat_tuple (l := #[.bool false]) rfl)
        simp only [hb, Nat.zero_add, Instr.next, Sem.run_bind]
        rw [show (getObj y.block).run P w = .ok (.stringIter s pos) w by simp only [getObj, Sem.run, hheap]]
        simp [hlt]
    · cases h
  · cases h

theorem opEq_bin {P : Program} {t : TypeId} {x x' y y' : Value} {b : Bool} {g : Gam} (h : opEq P t x y = some b) (hx : VRel g x x') (hy : VRel g y y') :
    binOp .eql t x' y' = (do pure (.bool (← Op.equal t x' y'))) ∧ binOp .neq t x' y' = (do pure (.bool (!(← Op.equal t x' y')))) := by
  unfold opEq at h
  split at h <;> (try (cases h; done)) <;> (split at h <;> (try (cases h; done)) <;> (cases hx <;> cases hy <;> exact ⟨rfl, rfl⟩))

/-! ## One operation -/
/-- A call of a Go function: entered where it has a body; else the model's own, where it looks at the program alone. -/
def opCall (P : Program) (f : FuncId) (args : Array Value) (σ : St) : Option ARes :=
  match P.funcs[f]? with
  | some fn => if (fn.name == "runtime.NumGoroutine") = true then none
    else if fn.body.isNone then
      if args.toList.all flatV then match pureRun P (callFunc f args) with
        | some (.value v) => if flatV v then some (.val v σ) else none
        | _ => none
      else none
    else some (.enter f args)
  | none => none
theorem opCall_ok {P : Program} {f : FuncId} {args args' : Array Value} {r : ARes} {σ : St} {g : Gam} {w : World} {N : Nat → Prop} (h : opCall P f args σ = some r) (hr : Rel g σ w) (ha : ARel g args args') :
    OpOk P g σ w N (callFunc f args') r := by
  unfold opCall at h
  split at h
  · rename_i fn hf
    split at h
    · cases h
    · rename_i hn
      split at h
      · rename_i hb
        split at h
        · rename_i hall
          have e : args' = args := (Array.ext ha.1 fun i h1 h2 => (flatV_eq (all_get (p := flatV) hall i h1) (ha.2 i h1 h2)).symm).symm
          subst e
          split at h
          · rename_i v hv
            split at h
            · rename_i hfl
              cases h
              exact .val0 hr (pureRun_run hv w) (flatV_rel hfl)
            · cases h
          · cases h
        · cases h
      · rename_i hb
        cases h
        refine ⟨args', ?_, ha⟩
        unfold callFunc
        simp only [Sem.run_bind, run_program, Result.andThen_ok, hf]
        rw [if_neg hn, if_neg hb]
        rfl
  · cases h

def opInvoke (P : Program) (x : Value) (args : Array Value) (σ : St) : Option ARes :=
  match x with
  | .func (.func f) first captured => opCall P f (first ++ args ++ captured) σ
  | _ => none
theorem ARel.append {g : Gam} {a b c d : Array Value} (h : ARel g a b) (k : ARel g c d) : ARel g (a ++ c) (b ++ d) := by
  refine ⟨by simp [h.1, k.1], fun i h1 h2 => ?_⟩
  simp only [Array.getElem_append]
  by_cases e : i < a.size
  · rw [dif_pos e, dif_pos (by rw [← h.1]; exact e)]; exact h.2 _ _ _
  · rw [dif_neg e, dif_neg (by rw [← h.1]; exact e)]
    have : i - b.size = i - a.size := by rw [h.1]
    simp only [this]
    exact k.2 _ _ _
theorem ARel.map {g : Gam} {ρ ρ' : Operand → Value} (a : Array Operand) (h : ∀ x ∈ a, VRel g (ρ x) (ρ' x)) : ARel g (a.map ρ) (a.map ρ') :=
  ⟨by simp, fun i h1 h2 => by simp only [Array.getElem_map]; exact h _ (Array.getElem_mem _)⟩
theorem opInvoke_ok {P : Program} {x x' : Value} {args args' : Array Value} {r : ARes} {σ : St} {g : Gam} {w : World} {N : Nat → Prop} (h : opInvoke P x args σ = some r) (hr : Rel g σ w) (hx : VRel g x x') (ha : ARel g args args') :
    OpOk P g σ w N (do let d ← Deferred.ofValue x' args'; invoke d.target d.args) r := by
  unfold opInvoke at h
  split at h
  · rename_i f first captured
    cases hx; rename_i b d h1 h2 h3 h4
    have := opCall_ok (N := N) h hr ((ARel.append (ARel.append ⟨h1, h2⟩ ha) ⟨h3, h4⟩))
    cases r with
    | val v σ' =>
      obtain ⟨n, w', g', v', e, rest⟩ := this
      exact ⟨n, w', g', v', by simpa [Deferred.ofValue, invoke] using e, rest⟩
    | enter f' a' =>
      obtain ⟨args2, e, rest⟩ := this
      exact ⟨args2, by simpa [Deferred.ofValue, invoke] using e, rest⟩
  · cases h

def valOf (σ : St) : Option Value → Option ARes
  | some v => some (.val v σ)
  | none => none

def evalOp (P : Program) (ρ : Operand → Value) (id : Nat) (o : Oper) (σ : St) : Option ARes :=
  match o.op with
  | .move x => some (.val (ρ x) σ)
  | .assign x => some (.val (ρ x) σ)
  | .pick c a b => match ρ c with
    | .bool t => some (.val (if t then ρ a else ρ b) σ)
    | _ => none
  | .alloc elem => match zero? P elem with
    | some z => some (.val (ptrTo id) (opNew id z.cells σ))
    | none => none
  | .box elem x => some (.val (ptrTo id) (opNew id (ρ x).cells σ))
  | .build t parts => valOf σ (opBuild P t (parts.map fun (i, x) => (i, ρ x)))
  | .buildSlice t len parts => opBuildSlice P t len id (parts.map fun (i, x) => (i, ρ x)) σ
  | .load t a => valOf σ (opLoad P t (ρ a) σ)
  | .store t a x => match opStore P t (ρ a) (ρ x) σ with
    | some σ' => some (.val undef σ')
    | none => none
  | .nilCheck x => match ρ x with
    | .pointer (some a) => some (.val (.pointer (some a)) σ)
    | .iface t v => some (.val (.iface t v) σ)
    | .func (.func f) a c => some (.val (.func (.func f) a c) σ)
    | _ => none
  | .binOp op t x y _ => match evalFlat P ρ o σ with
    | some r => some r
    | none => match op with
      | .eql => match opEq P t (ρ x) (ρ y) with
        | some b => some (.val (.bool b) σ)
        | none => none
      | .neq => match opEq P t (ρ x) (ρ y) with
        | some b => some (.val (.bool !b) σ)
        | none => none
      | _ => none
  | .convert src dst x => match opConvert P src dst id (ρ x) σ with
    | some r => some r
    | none => evalFlat P ρ o σ
  | .makeInterface t x => match P.underlying t with
    | some (.interface _) => none
    | some _ => some (.val (.iface t (ρ x)) σ)
    | none => none
  | .makeFunc (.func f) first captured => some (.val (.func (.func f) (first.map ρ) (captured.map ρ)) σ)
  | .makeSlice t l c => opMakeSlice P t id (ρ l) (ρ c) σ
  | .slice t x lo hi mx => match evalFlat P ρ o σ with
    | some r => some r
    | none => valOf σ (opSlice P t (ρ x) (lo.map ρ) (hi.map ρ) (mx.map ρ))
  | .fieldAddr s x f => valOf σ (opFieldAddr P s f (ρ x))
  | .field t x f => valOf σ (opField P t f (ρ x))
  | .indexAddr t x ix => valOf σ (opIndexAddr P t (ρ x) (ρ ix))
  | .index t x ix => match evalFlat P ρ o σ with
    | some r => some r
    | none => valOf σ (opIndexArr P t (ρ x) (ρ ix))
  | .extract x ix => valOf σ (opExtract ix (ρ x))
  | .range t x => opRange P t id (ρ x) σ
  | .next it isS => opNext isS (ρ it) σ
  | .call c => match c.callee with
    | .value f => opInvoke P (ρ f) (c.args.map ρ) σ
    | .builtin .append => match c.argTypes.toList, c.args.toList with
      | [sT, xT], [s, x] => opAppend P sT xT id (ρ s) (ρ x) σ
      | _, _ => none
    | .builtin .copy => match c.argTypes.toList, c.args.toList with
      | [dT, _], [d, s] => opCopy P dT (ρ d) (ρ s) σ
      | _, _ => none
    | .builtin .clear => match c.argTypes.toList, c.args.toList with
      | [t], [x] => opClear P t (ρ x) σ
      | _, _ => none
    | .builtin .len => match c.argTypes.toList, c.args.toList with
      | [t], [x] => match P.underlying t with
        | some (.slice _) => valOf σ (opLen (ρ x))
        | _ => evalFlat P ρ o σ
      | _, _ => none
    | .builtin .cap => match c.argTypes.toList, c.args.toList with
      | [t], [x] => match P.underlying t with
        | some (.slice _) => valOf σ (opCap (ρ x))
        | _ => none
      | _, _ => none
    | _ => evalFlat P ρ o σ
  | _ => evalFlat P ρ o σ

theorem valOf_ok {P : Program} {g : Gam} {σ : St} {w : World} {N : Nat → Prop} {s : Sem Value} {r : Option Value} {a : ARes} (h : valOf σ r = some a) (hr : Rel g σ w)
    (k : ∀ v, r = some v → ∃ v', s.run P w = .ok v' w ∧ VRel g v v') : OpOk P g σ w N (do pure (.value (← s))) a := by
  unfold valOf at h
  split at h
  · cases h
    obtain ⟨v', e, hv⟩ := k _ rfl
    exact .val0 hr (by simp only [Sem.run_bind, e, Result.andThen_ok, Sem.run_pure]) hv
  · cases h

theorem ORel.map {g : Gam} {ρ ρ' : Operand → Value} (x : Option Operand) (h : ∀ y, x = some y → VRel g (ρ y) (ρ' y)) : ORel g (x.map ρ) (x.map ρ') := by
  cases x with
  | none => trivial
  | some y => exact h y rfl

theorem evalOp_ok {P : Program} {ρ ρ' : Operand → Value} {id : Nat} {o : Oper} {σ : St} {g : Gam} {w : World} {r : ARes} (h : evalOp P ρ id o σ = some r) (hr : Rel g σ w) (hid : σ.get id = none) (hlt : id < σ.next)
    (hρ : ∀ x ∈ o.op.operands, VRel g (ρ x) (ρ' x)) : OpOk P g σ w (· = id) (execOp ρ' o) r := by
  have flat : evalFlat P ρ o σ = some r → OpOk P g σ w (· = id) (execOp ρ' o) r := fun e => evalFlat_ok e hr hρ
  unfold evalOp at h
  cases ho : o.op with
  | move x =>
    rw [ho] at h hρ
    cases h
    exact .val0 hr (by simp only [execOp, ho, Sem.run_pure]) (hρ x (by simp [Op.operands]))
  | assign x =>
    rw [ho] at h hρ
    cases h
    exact .val0 hr (by simp only [execOp, ho, Sem.run_pure]) (hρ x (by simp [Op.operands]))
  | pick c a b =>
    rw [ho] at h hρ
    have hc := hρ c (by simp [Op.operands])
    simp only at h
    split at h
    · rename_i t ht
      cases h
      rw [ht] at hc
      cases hc' : ρ' c <;> rw [hc'] at hc <;> cases hc
      refine .val0 (v' := if t then ρ' a else ρ' b) hr (by simp [execOp, ho, hc', asBool]) ?_
      cases t
      · exact hρ b (by simp [Op.operands])
      · exact hρ a (by simp [Op.operands])
    · cases h
  | alloc elem =>
    rw [ho] at h hρ
    simp only at h
    split at h
    · rename_i z hz
      cases h
      obtain ⟨z1, z2⟩ := zero?_spec hz
      obtain ⟨g', e1, e2, e3, e4, e5⟩ := opNew_ok (P := P) hr hid hlt (ARel.refl_flat z2) elem
      refine .new (v' := .pointer (some ⟨w.heap.size, 0, none⟩)) ?_ e2 e4 e5
      simp [execOp, ho, Instr.alloc, rZ w z1, newVar, e1]
    · cases h
  | box elem x =>
    rw [ho] at h hρ
    cases h
    obtain ⟨g', e1, e2, e3, e4, e5⟩ := opNew_ok (P := P) hr hid hlt (hρ x (by simp [Op.operands])).cells elem
    refine .new (v' := .pointer (some ⟨w.heap.size, 0, none⟩)) ?_ e2 e4 e5
    simp [execOp, ho, Instr.box, newVar, e1]
  | build t parts =>
    rw [ho] at h hρ
    have hp : ∀ i (h : i < (parts.map fun (p : Nat × Operand) => (p.1, ρ p.2)).size) (h' : i < (parts.map fun (p : Nat × Operand) => (p.1, ρ' p.2)).size), (parts.map fun (p : Nat × Operand) => (p.1, ρ p.2))[i].1 = (parts.map fun (p : Nat × Operand) => (p.1, ρ' p.2))[i].1 ∧ VRel g (parts.map fun (p : Nat × Operand) => (p.1, ρ p.2))[i].2 (parts.map fun (p : Nat × Operand) => (p.1, ρ' p.2))[i].2 := fun i h1 h2 => by
      simp only [Array.getElem_map]
      refine ⟨trivial, hρ _ ?_⟩
      simp only [Op.operands, List.mem_toArray, List.mem_map]
      exact ⟨parts[i]'(by simpa using h1), by simp, rfl⟩
    have := valOf_ok (N := (· = id)) (s := Instr.build t (parts.map fun (i, x) => (i, ρ' x))) h hr (fun v hv => opBuild_ok w hv (by simp) hp)
    simpa [execOp, ho] using this
  | buildSlice t len parts =>
    rw [ho] at h hρ
    have hp : ∀ i (h : i < (parts.map fun (p : Nat × Operand) => (p.1, ρ p.2)).size) (h' : i < (parts.map fun (p : Nat × Operand) => (p.1, ρ' p.2)).size), (parts.map fun (p : Nat × Operand) => (p.1, ρ p.2))[i].1 = (parts.map fun (p : Nat × Operand) => (p.1, ρ' p.2))[i].1 ∧ VRel g (parts.map fun (p : Nat × Operand) => (p.1, ρ p.2))[i].2 (parts.map fun (p : Nat × Operand) => (p.1, ρ' p.2))[i].2 := fun i h1 h2 => by
      simp only [Array.getElem_map]
      refine ⟨trivial, hρ _ ?_⟩
      simp only [Op.operands, List.mem_toArray, List.mem_map]
      exact ⟨parts[i]'(by simpa using h1), by simp, rfl⟩
    have := opBuildSlice_ok (ps' := parts.map fun (i, x) => (i, ρ' x)) h hr hid hlt (by simp) hp
    simpa [execOp, ho] using this
  | load t a =>
    rw [ho] at h hρ
    have := valOf_ok (N := (· = id)) (s := Instr.loadAt t (ρ' a)) h hr (fun v hv => opLoad_ok hv hr (hρ a (by simp [Op.operands])))
    simpa [execOp, ho] using this
  | store t a x =>
    rw [ho] at h hρ
    simp only at h
    split at h
    · rename_i σ' hs
      cases h
      obtain ⟨w', e1, e2, e3⟩ := opStore_ok (P := P) hs hr (hρ a (by simp [Op.operands])) (hρ x (by simp [Op.operands]))
      exact ⟨.skip, w', g, undef, by simp [execOp, ho, e1], .inr ⟨rfl, rfl⟩, .tuple _ _ rfl fun i h => by simp at h, e2, e3.mono fun _ h => h.elim⟩
    · cases h
  | nilCheck x =>
    rw [ho] at h hρ
    have hx := hρ x (by simp [Op.operands])
    simp only at h
    split at h
    · rename_i a ha
      cases h
      rw [ha] at hx
      obtain ⟨y, hy⟩ : ∃ y, y = ρ' x := ⟨_, rfl⟩
      rw [← hy] at hx
      cases hx with
      | ptr A o z hz => exact .val0 hr (by simp [execOp, ho, ← hy]) (.ptr A o z hz)
    · rename_i t v ha
      cases h
      rw [ha] at hx
      obtain ⟨y, hy⟩ : ∃ y, y = ρ' x := ⟨_, rfl⟩
      rw [← hy] at hx
      cases hx with
      | iface _ _ _ hv => exact .val0 hr (by simp [execOp, ho, ← hy]) (.iface _ _ _ hv)
    · rename_i f a c ha
      cases h
      rw [ha] at hx
      obtain ⟨y, hy⟩ : ∃ y, y = ρ' x := ⟨_, rfl⟩
      rw [← hy] at hx
      cases hx with
      | func _ _ b _ d h1 h2 h3 h4 => exact .val0 hr (by simp [execOp, ho, ← hy]) (.func _ _ _ _ _ h1 h2 h3 h4)
    · cases h
  | binOp op t x y yt =>
    rw [ho] at h hρ
    simp only at h
    split at h
    · cases h; exact flat (by assumption)
    · split at h
      · split at h
        · rename_i b hb
          cases h
          obtain ⟨e1, e2⟩ := opEq_ok (P := P) w hb (hρ x (by simp [Op.operands])) (hρ y (by simp [Op.operands]))
          refine .val0 (v' := .bool b) hr ?_ (.bool _)
          have hbin : (binOp .eql t (ρ' x) (ρ' y)).run P w = .ok (.bool b) w := by
            rw [(opEq_bin hb (hρ x (by simp [Op.operands])) (hρ y (by simp [Op.operands]))).1]; simp [e1]
          simp only [execOp, ho, Sem.run_bind, e2, Result.andThen_ok, hbin, Sem.run_pure]
        · cases h
      · split at h
        · rename_i b hb
          cases h
          obtain ⟨e1, e2⟩ := opEq_ok (P := P) w hb (hρ x (by simp [Op.operands])) (hρ y (by simp [Op.operands]))
          refine .val0 (v' := .bool !b) hr ?_ (.bool _)
          have hbin : (binOp .neq t (ρ' x) (ρ' y)).run P w = .ok (.bool !b) w := by
            rw [(opEq_bin hb (hρ x (by simp [Op.operands])) (hρ y (by simp [Op.operands]))).2]; simp [e1]
          simp only [execOp, ho, Sem.run_bind, e2, Result.andThen_ok, hbin, Sem.run_pure]
        · cases h
      · cases h
  | convert src dst x =>
    rw [ho] at h hρ
    simp only at h
    split at h
    · cases h
      have := opConvert_ok (P := P) (by assumption) hr hid hlt (hρ x (by simp [Op.operands]))
      simpa [execOp, ho] using this
    · exact flat h
  | makeInterface t x =>
    rw [ho] at h hρ
    simp only at h
    split at h
    · cases h
    · rename_i d hd hu
      cases h
      refine .val0 (v' := .iface t (ρ' x)) hr ?_ (.iface _ _ _ (hρ x (by simp [Op.operands])))
      have : (Instr.makeInterface t (ρ' x)).run P w = .ok (.iface t (ρ' x)) w := by
        simp only [Instr.makeInterface, Sem.run_bind, rU w hu, Result.andThen_ok]
        cases d <;> first | rfl | (rename_i q; exact (hd q rfl).elim)
      simp only [execOp, ho, Sem.run_bind, this, Result.andThen_ok, Sem.run_pure]
    · cases h
  | makeFunc fn first captured =>
    rw [ho] at h hρ
    cases fn with
    | func f =>
      cases h
      have h1 := ARel.map (g := g) (ρ := ρ) (ρ' := ρ') first (fun x hx => hρ x (by simp [Op.operands, hx]))
      have h2 := ARel.map (g := g) (ρ := ρ) (ρ' := ρ') captured (fun x hx => hρ x (by simp [Op.operands, hx]))
      exact .val0 hr (by simp [execOp, ho, Instr.makeFunc]) (.func _ _ _ _ _ h1.1 h1.2 h2.1 h2.2)
    | _ => exact flat h
  | makeSlice t l c =>
    rw [ho] at h hρ
    have := opMakeSlice_ok (P := P) h hr hid hlt (hρ l (by simp [Op.operands])) (hρ c (by simp [Op.operands]))
    simpa [execOp, ho] using this
  | slice t x lo hi mx =>
    rw [ho] at h hρ
    simp only at h
    split at h
    · cases h; exact flat (by assumption)
    · have := valOf_ok (N := (· = id)) (s := Instr.sliceAt t (ρ' x) (lo.map ρ') (hi.map ρ') (mx.map ρ')) h hr (fun v hv => opSlice_ok w hv (hρ x (by simp [Op.operands]))
        (ORel.map lo fun y e => hρ y (by simp [Op.operands, e])) (ORel.map hi fun y e => hρ y (by simp [Op.operands, e])) (ORel.map mx fun y e => hρ y (by simp [Op.operands, e])))
      simpa [execOp, ho] using this
  | fieldAddr s x f =>
    rw [ho] at h hρ
    have := valOf_ok (N := (· = id)) (s := Instr.fieldAt s (ρ' x) f) h hr (fun v hv => opFieldAddr_ok w hv (hρ x (by simp [Op.operands])))
    simpa [execOp, ho] using this
  | field t x f =>
    rw [ho] at h hρ
    have := valOf_ok (N := (· = id)) (s := Instr.field t (ρ' x) f) h hr (fun v hv => opField_ok w hv (hρ x (by simp [Op.operands])))
    simpa [execOp, ho] using this
  | indexAddr t x ix =>
    rw [ho] at h hρ
    have := valOf_ok (N := (· = id)) (s := Instr.indexAt t (ρ' x) (ρ' ix)) h hr (fun v hv => opIndexAddr_ok w hv (hρ x (by simp [Op.operands])) (hρ ix (by simp [Op.operands])))
    simpa [execOp, ho] using this
  | index t x ix =>
    rw [ho] at h hρ
    simp only at h
    split at h
    · cases h; exact flat (by assumption)
    · have := valOf_ok (N := (· = id)) (s := Instr.index t (ρ' x) (ρ' ix)) h hr (fun v hv => opIndexArr_ok w hv (hρ x (by simp [Op.operands])) (hρ ix (by simp [Op.operands])))
      simpa [execOp, ho] using this
  | extract x ix =>
    rw [ho] at h hρ
    have := valOf_ok (P := P) (N := (· = id)) (s := Instr.extract (ρ' x) ix) h hr (fun v hv => opExtract_ok w hv (hρ x (by simp [Op.operands])))
    simpa [execOp, ho] using this
  | range t x =>
    rw [ho] at h hρ
    have := opRange_ok (P := P) h hr hid hlt (hρ x (by simp [Op.operands]))
    simpa [execOp, ho] using this
  | next it isS =>
    rw [ho] at h hρ
    have := opNext_ok (P := P) (ty := o.type) (id := id) h hr (hρ it (by simp [Op.operands]))
    simpa [execOp, ho] using this
  | call c =>
    rw [ho] at h hρ
    simp only at h
    have harg : ∀ x ∈ c.args, VRel g (ρ x) (ρ' x) := fun x hx => hρ x (by simp [Op.operands, Call.operands, hx])
    split at h
    · rename_i f hf
      have := opInvoke_ok (P := P) (N := (· = id)) h hr (hρ f (by simp [Op.operands, Call.operands, hf])) (ARel.map c.args harg)
      simpa [execOp, ho, resolve, hf] using this
    · rename_i hb
      split at h
      · rename_i sT xT s x h1 h2
        have := opAppend_ok (P := P) (ty := o.type) h hr hid hlt (harg s (by rw [← Array.mem_toList_iff, h2]; simp)) (harg x (by rw [← Array.mem_toList_iff, h2]; simp))
        have e1 : c.argTypes = #[sT, xT] := by rw [← Array.toArray_toList (xs := c.argTypes), h1]
        have e2 : c.args = #[s, x] := by rw [← Array.toArray_toList (xs := c.args), h2]
        simpa [execOp, ho, resolve, hb, invoke, builtin, e1, e2] using this
      · cases h
    · rename_i hb
      split at h
      · rename_i sT xT s x h1 h2
        have := opCopy_ok (P := P) (sT := xT) (ty := o.type) (id := id) h hr (harg s (by rw [← Array.mem_toList_iff, h2]; simp)) (harg x (by rw [← Array.mem_toList_iff, h2]; simp))
        have e1 : c.argTypes = #[sT, xT] := by rw [← Array.toArray_toList (xs := c.argTypes), h1]
        have e2 : c.args = #[s, x] := by rw [← Array.toArray_toList (xs := c.args), h2]
        simpa [execOp, ho, resolve, hb, invoke, builtin, e1, e2] using this
      · cases h
    · rename_i hb
      split at h
      · rename_i sT x h1 h2
        have := opClear_ok (P := P) (ty := o.type) (id := id) h hr (harg x (by rw [← Array.mem_toList_iff, h2]; simp))
        have e1 : c.argTypes = #[sT] := by rw [← Array.toArray_toList (xs := c.argTypes), h1]
        have e2 : c.args = #[x] := by rw [← Array.toArray_toList (xs := c.args), h2]
        simpa [execOp, ho, resolve, hb, invoke, builtin, e1, e2] using this
      · cases h
    · rename_i hb
      split at h
      · rename_i sT x h1 h2
        have e1 : c.argTypes = #[sT] := by rw [← Array.toArray_toList (xs := c.argTypes), h1]
        have e2 : c.args = #[x] := by rw [← Array.toArray_toList (xs := c.args), h2]
        split at h
        · rename_i e hu
          have := valOf_ok (N := (· = id)) (s := Builtin.len_ #[sT] o.type #[ρ' x]) h hr (fun v hv => opLen_ok w ⟨e, hu⟩ hv (harg x (by rw [← Array.mem_toList_iff, h2]; simp)))
          simpa [execOp, ho, resolve, hb, invoke, builtin, e1, e2] using this
        · exact flat h
      · cases h
    · rename_i hb
      split at h
      · rename_i sT x h1 h2
        have e1 : c.argTypes = #[sT] := by rw [← Array.toArray_toList (xs := c.argTypes), h1]
        have e2 : c.args = #[x] := by rw [← Array.toArray_toList (xs := c.args), h2]
        split at h
        · rename_i e hu
          have := valOf_ok (N := (· = id)) (s := Builtin.cap_ #[sT] o.type #[ρ' x]) h hr (fun v hv => opCap_ok w ⟨e, hu⟩ hv (harg x (by rw [← Array.mem_toList_iff, h2]; simp)))
          simpa [execOp, ho, resolve, hb, invoke, builtin, e1, e2] using this
        · cases h
      · cases h
    · exact flat h
  | _ => rw [ho] at h; exact flat h
end Go.Ev
