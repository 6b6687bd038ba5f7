/-
  The evaluator of code, over any program: a region that draws its order comes to what the evaluator says, whichever order is drawn. No condition.
-/
import Derived.Test.YtedojhheppepdaaGreatDoorEv13
namespace Go.Ev
open Go
set_option linter.unusedVariables false
set_option linter.unusedSimpArgs false

/-! ## Operations that read -/
theorem VRel.back {G g : Gam} {A o : Nat} {v' : Value} (h : VRel G (.pointer (some ⟨A, o, none⟩)) v') (hg : ∀ x, G A = some x → g A = some x) : VRel g (.pointer (some ⟨A, o, none⟩)) v' := by
  cases h with
  | ptr _ _ x hx => exact .ptr _ _ x (hg x hx)
theorem VRel.backS {G g : Gam} {A o n k : Nat} {v' : Value} (h : VRel G (.slice (some ⟨A, o, none⟩) n k) v') (hg : ∀ x, G A = some x → g A = some x) : VRel g (.slice (some ⟨A, o, none⟩) n k) v' := by
  cases h with
  | slice _ _ _ _ x o' c hx h1 h2 h3 h4 => exact .slice _ _ _ _ x o' c (hg x hx) h1 h2 h3 h4
theorem read?_some {σ : St} {A o n : Nat} {l : List Value} (h : σ.read? A o n = some l) : σ.get A ≠ none := fun e => by
  unfold St.read? St.cells? at h
  rw [e] at h
  cases h

theorem conv_cases {P : Program} {src dst e : TypeId} {id : Nat} {v : Value} {σ : St} {r : ARes} (h1 : P.underlying src = some (.slice e)) (h2 : P.underlying dst = some .string) (h : opConvert P src dst id v σ = some r) :
    ∃ r3, r = .val r3 σ ∧ opBytesString v σ = some r3 ∧ P.underlying e = some (.int .u8) ∧ ∃ a l c, v = .slice a l c := by
  unfold opConvert at h
  rw [h1, h2] at h
  cases v with
  | slice a l c =>
    simp only at h
    split at h
    · rename_i hu
      split at h
      · rename_i r3 hr3
        cases h
        exact ⟨r3, rfl, hr3, hu, a, l, c, rfl⟩
      · cases h
    · cases h
  | _ => cases h

/-- What an operation that reads does: its value is the same whatever name it would be given; in a world that stands to the state it gives just that, whatever else the operands' names stand for. -/
theorem evalOp_read {P : Program} {ρ : Operand → Value} {id : Nat} {o : Oper} {σ : St} {r : ARes} (hcl : clsOf P o.op = .read) (h : evalOp P ρ id o σ = some r) :
    ∃ v, r = .val v σ ∧ ∀ (g G : Gam) (ρ' : Operand → Value) (w : World), Rel g σ w → (∀ A x, G A = some x → σ.get A ≠ none → g A = some x) → (∀ x ∈ o.op.operands, VRel G (ρ x) (ρ' x)) →
      ∃ v', (execOp ρ' o).run P w = .ok (.value v') w ∧ VRel g v v' := by
  cases ho : o.op with
  | load t a =>
    unfold evalOp at h; rw [ho] at h
    obtain ⟨v, hv, rfl⟩ := valOf_pure h
    refine ⟨v, rfl, fun g G ρ' w hr hG hρ => ?_⟩
    have ha := hρ a (by simp [Op.operands])
    have hb : VRel g (ρ a) (ρ' a) := by
      have hv2 := hv
      unfold opLoad at hv2
      split at hv2
      · rename_i A o2 he
        rw [he] at ha ⊢
        refine ha.back fun x hx => hG A x hx ?_
        split at hv2
        · split at hv2
          · rename_i l hl; exact read?_some hl
          · cases hv2
        · split at hv2
          · rename_i l hl; exact read?_some hl
          · cases hv2
        · cases hv2
      · cases hv2
    obtain ⟨v', e, hv'⟩ := opLoad_ok (P := P) hv hr hb
    exact ⟨v', by simp only [execOp, ho, Sem.run_bind, e, Result.andThen_ok, Sem.run_pure], hv'⟩
  | convert src dst x =>
    rw [ho] at hcl
    have hk : (∃ e, P.underlying src = some (.slice e)) ∧ P.underlying dst = some .string := by
      unfold clsOf clsConv at hcl
      simp only at hcl
      split at hcl
      · split at hcl
        · split at hcl <;> cases hcl
        · cases hcl
      · rename_i e h1
        split at hcl
        · rename_i h2; exact ⟨⟨e, h1⟩, h2⟩
        · cases hcl
      · cases hcl
    obtain ⟨⟨e, h1⟩, h2⟩ := hk
    unfold evalOp at h; rw [ho] at h
    simp only at h
    split at h
    · rename_i r2 hr2
      cases h
      obtain ⟨r3, rfl, hr3, hu8, a, l, c, hx⟩ := conv_cases h1 h2 hr2
      refine ⟨_, rfl, fun g G ρ' w hr hG hρ => ?_⟩
      have ha := hρ x (by simp [Op.operands])
      have hrun : ∀ v', (Conv.bytesToString (ρ' x)).run P w = .ok v' w → (execOp ρ' o).run P w = .ok (.value v') w := by
        intro v' e1
        rw [hx] at ha
        obtain ⟨y, hy⟩ : ∃ y, y = ρ' x := ⟨_, rfl⟩
        rw [← hy] at ha e1
        cases ha <;> simp [execOp, ho, ← hy, convert, rU w h1, rU w h2, rU w hu8, e1]
      by_cases hl : l = 0 ∨ a = none
      · have hs : r3 = .string ⟨#[]⟩ ∧ ∃ v', (Conv.bytesToString (ρ' x)).run P w = .ok v' w ∧ v' = .string ⟨#[]⟩ := by
          rw [hx] at ha hr3
          obtain ⟨y, hy⟩ : ∃ y, y = ρ' x := ⟨_, rfl⟩
          rw [← hy] at ha ⊢
          unfold opBytesString at hr3
          split at hr3
          · rename_i heq
            cases heq
            cases hr3
            cases ha
            exact ⟨rfl, .string ⟨#[]⟩, by simp [Conv.bytesToString]; rfl, rfl⟩
          · rename_i A o2 l2 c2 heq
            cases heq
            cases ha; rename_i x2 o' c3 q1 q2 q3 q4 q5
            have hl0 : l = 0 := by rcases hl with hl | hl; exact hl; cases hl
            subst hl0
            rw [if_pos rfl] at hr3
            cases hr3
            have := run_bytesToString (P := P) w ⟨x2.block, o', none⟩ 0 c3 [] (by simp [loadCells, loadCellsFrom])
            exact ⟨rfl, _, this, rfl⟩
          · cases hr3
        obtain ⟨rfl, v', e1, rfl⟩ := hs
        exact ⟨_, hrun _ e1, .string _⟩
      · have hb : VRel g (ρ x) (ρ' x) := by
          rw [hx] at ha hr3 ⊢
          unfold opBytesString at hr3
          split at hr3
          · rename_i heq; cases heq; exact (hl (.inr rfl)).elim
          · rename_i A o2 l2 c2 heq
            cases heq
            rw [if_neg (fun e => hl (.inl e))] at hr3
            refine ha.backS fun x2 hx2 => hG A x2 hx2 ?_
            split at hr3
            · rename_i l3 hl3; exact read?_some hl3
            · cases hr3
          · cases hr3
        obtain ⟨v', e1, e2⟩ := opBytesString_ok (P := P) hr3 hr hb
        exact ⟨v', hrun _ e1, e2⟩
    · obtain ⟨v, k1, k2, k3⟩ := evalFlat_pure h
      refine ⟨v, k1, fun g G ρ' w hr hG hρ => ?_⟩
      exact k3 g ρ' w fun y hy => by
        have hf := evalFlat_flat h y hy
        have := flatV_eq hf (hρ y (by rw [ho] at hy; exact hy))
        rw [this]; exact flatV_rel hf
  | makeFunc fn a b => rw [ho] at hcl; cases fn <;> simp [clsOf] at hcl
  | call c =>
    rw [ho] at hcl
    unfold clsOf at hcl
    simp only at hcl
    repeat (split at hcl)
    all_goals cases hcl
  | _ => rw [ho] at hcl; simp [clsOf] at hcl

/-! ## More blocks in the world, and installing them -/
theorem Rel.more {g : Gam} {σ : St} {w : World} (h : Rel g σ w) {w1 : World} (hw : w1.heap = w.heap) (ob : Obj) : Rel g σ (newW w1 ob) := by
  have hold : ∀ b, b < w.heap.size → (newW w1 ob).heap[b]? = w.heap[b]? := fun b hb => by rw [newW_old w1 ob b (by rw [hw]; exact hb), hw]
  refine ⟨h.wf, fun A x a => by rw [newW_size, hw]; exact Nat.lt_succ_of_lt (h.blk A x a), fun A x a => ?_, h.share, h.order⟩
  obtain ⟨o, b, c⟩ := h.obj A x a
  exact ⟨o, b, OSays.mono (Gam.le_refl g) (hold _ (h.blk A x a)) (fun _ _ _ _ _ h => h) c⟩
theorem Ext.more (N : Nat → Prop) (g : Gam) (σ : St) {w w1 : World} (hw : w1.heap = w.heap) (h1 : w1.os = w.os) (h2 : w1.output = w.output) (h3 : w1.tape = w.tape) (ob : Obj) : Ext N g g σ σ w (newW w1 ob) :=
  ⟨Gam.le_refl g, fun A x h h' => (by rw [h] at h'; cases h'), fun A x h h' => (by rw [h] at h'; cases h'), by rw [newW_size, hw]; omega, fun b hb _ => by rw [newW_old w1 ob b (by rw [hw]; exact hb), hw], fun _ _ _ => rfl, fun _ h => ⟨rfl, h⟩, Nat.le_refl _, h1, h2, h3⟩

/-- A block that the world holds already, and that no name stands for, is given a name. -/
theorem Rel.install {g : Gam} {σ : St} {w : World} (h : Rel g σ w) {id b n : Nat} {ao : AObj} {ob : Obj} (hid : σ.get id = none) (hlt : id < σ.next) (hb : w.heap[b]? = some ob) (hfree : ∀ A x, g A = some x → x.block ≠ b)
    (hf : ∀ own v F c, ao = .cells own v F c → F = id) (hs : NewSays g n ao ob) : Rel (g.add id ⟨b, 0, n⟩) (σ.set id ao) w := by
  have gid : g id = none := by
    cases e : g id with
    | none => rfl
    | some x => obtain ⟨o, ho, _⟩ := h.obj id x e; rw [hid] at ho; cases ho
  have hle := Gam.le_add (x := ⟨b, 0, n⟩) gid
  have old : ∀ A x, (g.add id ⟨b, 0, n⟩) A = some x → A ≠ id → g A = some x := fun A x e hA => by simpa [Gam.add, hA] using e
  refine ⟨h.wf.new hid hlt ao hf, ?_, ?_, ?_, ?_⟩
  · intro A x e
    by_cases hA : A = id
    · subst hA; rw [Gam.add_self] at e; cases e; exact (Array.getElem?_eq_some_iff.1 hb).1
    · exact h.blk A x (old A x e hA)
  · intro A x e
    by_cases hA : A = id
    · subst hA; rw [Gam.add_self] at e; cases e
      exact ⟨ao, by simp, (hs.mono hle).says _ hb⟩
    · obtain ⟨p, hp, hq⟩ := h.obj A x (old A x e hA)
      refine ⟨p, by simp only [St.get_set]; rw [if_neg (fun e => hA e.symm)]; exact hp, OSays.mono hle rfl ?_ hq⟩
      intro own ver fam c _ hr
      rwa [St.rd_new h.wf hid] at hr
  · intro A x A' x' e e' eb
    by_cases hA : A = id
    · by_cases hA' : A' = id
      · exact .inl (hA.trans hA'.symm)
      · subst hA; rw [Gam.add_self] at e; cases e
        exact (hfree A' x' (old A' x' e' hA') eb.symm).elim
    · by_cases hA' : A' = id
      · subst hA'; rw [Gam.add_self] at e'; cases e'
        exact (hfree A x (old A x e hA) eb).elim
      · rcases h.share A x A' x' (old A x e hA) (old A' x' e' hA') eb with h1 | ⟨F, h1, h2⟩
        · exact .inl h1
        · refine .inr ⟨F, ?_, ?_⟩
          · unfold St.fam; simp only [St.get_set]; rw [if_neg (fun e => hA e.symm)]; exact h1
          · unfold St.fam; simp only [St.get_set]; rw [if_neg (fun e => hA' e.symm)]; exact h2
  · intro X x O y F v c own c' eX eO eb hne hfo hX hO
    have hOn : O ≠ id := fun e => by
      subst e
      simp only [St.famO_set] at hfo
      obtain ⟨_, _, _, hh⟩ := h.wf.named F O hfo
      rw [hid] at hh; cases hh
    have hXn : X ≠ id := fun e => by
      subst e
      rw [Gam.add_self] at eX; cases eX
      exact (hfree O y (old O y eO hOn) eb.symm).elim
    simp only [St.get_set, St.famO_set] at hX hO hfo
    rw [if_neg (fun e => hXn e.symm)] at hX
    rw [if_neg (fun e => hOn e.symm)] at hO
    exact h.order X x O y F v c own c' (old X x eX hXn) (old O y eO hOn) eb hne hfo hX hO
end Go.Ev
