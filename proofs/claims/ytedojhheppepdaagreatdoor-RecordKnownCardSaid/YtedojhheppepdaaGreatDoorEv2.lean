/-
  The evaluator's ground, over any program: the relation between an abstract state and a world ('Rel'), what a step may change ('Ext'), and the moves: a new block, cells read, cells written, append in place and append to a new block. No condition.
-/
import Derived.Test.YtedojhheppepdaaGreatDoorEv1
import Derived.Laws.IdiomCopy
namespace Go.Ev
open Go

/-- A map's entries, abstract and the model's own. -/
def MRel (g : Gam) (es : List (Value × Value × Nat)) (es' : Array MapEntry) : Prop :=
  es.length = es'.size ∧ ∀ i (h : i < es.length) (h' : i < es'.size), VRel g es[i].1 es'[i].key ∧ VRel g es[i].2.1 es'[i].val ∧ es[i].2.2 = es'[i].born

/-- What an abstract block says of the world. -/
def OSays (g : Gam) (σ : St) (w : World) (x : CA) : AObj → Prop
  | .cells own ver fam c => ∃ cs el fr, w.heap[x.block]? = some (.cells cs el fr) ∧ cs.size = x.size ∧
      (σ.rd own ver fam = true → ∀ i (h : i < c.length), ∃ v', cs[x.base + i]? = some v' ∧ VRel g c[i] v') ∧
      (own = true → ∀ i, i < x.size → ¬ (fr.1 ≤ i ∧ i < fr.2))
  | .iter s pos => x.base = 0 ∧ w.heap[x.block]? = some (.stringIter s pos)
  | .map es clock => ∃ es', w.heap[x.block]? = some (.map es' clock) ∧ MRel g es es'

structure Rel (g : Gam) (σ : St) (w : World) : Prop where
  wf : σ.Wf
  blk : ∀ A x, g A = some x → x.block < w.heap.size
  obj : ∀ A x, g A = some x → ∃ o, σ.get A = some o ∧ OSays g σ w x o
  share : ∀ A x A' x', g A = some x → g A' = some x' → x.block = x'.block → A = A' ∨ ∃ F, σ.fam A = some F ∧ σ.fam A' = some F
  order : ∀ X x O y F v c own c', g X = some x → g O = some y → x.block = y.block → X ≠ O → σ.famO F = some O →
    σ.get X = some (.cells false v F c) → σ.get O = some (.cells own v F c') → x.base + c.length ≤ y.base + c'.length

/-- What a step from (g, σ, w) to (g', σ', w') may change; N: the names that it may lay. -/
structure Ext (N : Nat → Prop) (g g' : Gam) (σ σ' : St) (w w' : World) : Prop where
  le : Gam.le g g'
  new : ∀ A x, g' A = some x → g A = none → N A
  fresh : ∀ A x, g' A = some x → g A = none → w.heap.size ≤ x.block ∨ ∃ A0 x0, g A0 = some x0 ∧ x0.block = x.block ∧ ¬ σ.ro A0
  size : w.heap.size ≤ w'.heap.size
  keep : ∀ b, b < w.heap.size → (∀ A x, g A = some x → x.block = b → σ.ro A) → w'.heap[b]? = w.heap[b]?
  frame : ∀ A, g A = none → ¬ N A → σ'.get A = σ.get A
  ro : ∀ A, σ.ro A → σ'.get A = σ.get A ∧ σ'.ro A
  next : σ.next ≤ σ'.next
  os : w'.os = w.os
  out : w'.output = w.output
  tape : w'.tape = w.tape

theorem Ext.refl (N : Nat → Prop) (g : Gam) (σ : St) (w : World) : Ext N g g σ σ w w :=
  ⟨Gam.le_refl g, fun A x h h' => (by rw [h] at h'; cases h'), fun A x h h' => (by rw [h] at h'; cases h'), Nat.le_refl _, fun _ _ _ => rfl, fun _ _ _ => rfl, fun _ h => ⟨rfl, h⟩, Nat.le_refl _, rfl, rfl, rfl⟩

theorem Ext.trans {N : Nat → Prop} {g g1 g2 : Gam} {σ σ1 σ2 : St} {w w1 w2 : World} (h : Ext N g g1 σ σ1 w w1) (k : Ext N g1 g2 σ1 σ2 w1 w2) : Ext N g g2 σ σ2 w w2 := by
  refine ⟨Gam.le_trans h.le k.le, fun A x e e0 => ?_, fun A x e e0 => ?_, Nat.le_trans h.size k.size, fun b hb hall => ?_, fun A e hN => ?_, fun A hr => ?_, Nat.le_trans h.next k.next, k.os.trans h.os, k.out.trans h.out, k.tape.trans h.tape⟩
  · cases e1 : g1 A with
    | some y => exact h.new A y e1 e0
    | none => exact k.new A x e e1
  · cases e1 : g1 A with
    | some y =>
      have : y = x := Option.some.inj ((k.le A y e1).symm.trans e)
      subst this
      exact h.fresh A y e1 e0
    | none =>
      rcases k.fresh A x e e1 with h1 | ⟨A0, x0, a, b, c⟩
      · exact .inl (Nat.le_trans h.size h1)
      · cases e2 : g A0 with
        | some z =>
          have : z = x0 := Option.some.inj ((h.le A0 z e2).symm.trans a)
          subst this
          exact .inr ⟨A0, z, e2, b, fun hr => c (h.ro A0 hr).2⟩
        | none =>
          rcases h.fresh A0 x0 a e2 with h1 | ⟨A1, x1, a1, b1, c1⟩
          · exact .inl (b ▸ h1)
          · exact .inr ⟨A1, x1, a1, b1.trans b, c1⟩
  · have h1 := h.keep b hb hall
    refine (k.keep b (Nat.lt_of_lt_of_le hb h.size) (fun A x e eb => ?_)).trans h1
    cases e0 : g A with
    | some y =>
      have : y = x := Option.some.inj ((h.le A y e0).symm.trans e)
      subst this
      exact (h.ro A (hall A y e0 eb)).2
    | none =>
      rcases h.fresh A x e e0 with h2 | ⟨A0, x0, a, b0, c⟩
      · omega
      · exact (c (hall A0 x0 a (b0.trans eb))).elim
  · have e1 : g1 A = none := by
      cases e1 : g1 A with
      | none => rfl
      | some y => exact (hN (h.new A y e1 e)).elim
    exact (k.frame A e1 hN).trans (h.frame A e hN)
  · obtain ⟨a, b⟩ := h.ro A hr
    obtain ⟨c, d⟩ := k.ro A b
    exact ⟨c.trans a, d⟩

theorem Ext.mono {N N' : Nat → Prop} (hN : ∀ A, N A → N' A) {g g' : Gam} {σ σ' : St} {w w' : World} (h : Ext N g g' σ σ' w w') : Ext N' g g' σ σ' w w' :=
  ⟨h.le, fun A x a b => hN A (h.new A x a b), h.fresh, h.size, h.keep, fun A a b => h.frame A a (fun n => b (hN A n)), h.ro, h.next, h.os, h.out, h.tape⟩

theorem MRel.mono {g g' : Gam} (hg : Gam.le g g') {es : List (Value × Value × Nat)} {es' : Array MapEntry} (h : MRel g es es') : MRel g' es es' :=
  ⟨h.1, fun i h1 h2 => ⟨(h.2 i h1 h2).1.mono hg, (h.2 i h1 h2).2.1.mono hg, (h.2 i h1 h2).2.2⟩⟩

/-- What a block says stands where its world's block, the reading rights and the names it needs stand. -/
theorem OSays.mono {g g' : Gam} {σ σ' : St} {w w' : World} {x : CA} {o : AObj} (hg : Gam.le g g') (hb : w'.heap[x.block]? = w.heap[x.block]?)
    (hr : ∀ own ver fam c, o = .cells own ver fam c → σ'.rd own ver fam = true → σ.rd own ver fam = true) (h : OSays g σ w x o) : OSays g' σ' w' x o := by
  cases o with
  | cells own ver fam c =>
    obtain ⟨cs, el, fr, h1, h2, h3, h4⟩ := h
    refine ⟨cs, el, fr, hb.trans h1, h2, fun hrd i hi => ?_, h4⟩
    obtain ⟨v', a, b⟩ := h3 (hr _ _ _ _ rfl hrd) i hi
    exact ⟨v', a, b.mono hg⟩
  | iter s pos => exact ⟨h.1, hb.trans h.2⟩
  | map es clock =>
    obtain ⟨es', h1, h2⟩ := h
    exact ⟨es', hb.trans h1, h2.mono hg⟩

theorem St.fam_eq {σ : St} {A : Nat} {own : Bool} {v F : Nat} {c : List Value} (h : σ.get A = some (.cells own v F c)) : σ.fam A = some F := by simp [St.fam, h]

/-- A draw, or the streams' count: the relation looks at the heap alone. -/
theorem Rel.heap {g : Gam} {σ : St} {w w' : World} (h : Rel g σ w) (e : w'.heap = w.heap) : Rel g σ w' :=
  ⟨h.wf, fun A x a => by rw [e]; exact h.blk A x a,
    fun A x a => let ⟨o, b, c⟩ := h.obj A x a; ⟨o, b, OSays.mono (Gam.le_refl g) (by rw [e]) (fun _ _ _ _ _ h => h) c⟩, h.share, h.order⟩
theorem Ext.heap {N : Nat → Prop} {g : Gam} {σ : St} {w w' : World} (e : w'.heap = w.heap) (h1 : w'.os = w.os) (h2 : w'.output = w.output) (h3 : w'.tape = w.tape) : Ext N g g σ σ w w' :=
  ⟨Gam.le_refl g, fun A x h h' => (by rw [h] at h'; cases h'), fun A x h h' => (by rw [h] at h'; cases h'), by rw [e]; exact Nat.le_refl _, fun _ _ _ => by rw [e], fun _ _ _ => rfl, fun _ h => ⟨rfl, h⟩, Nat.le_refl _, h1, h2, h3⟩
theorem Rel.bump {g : Gam} {σ : St} {w : World} (h : Rel g σ w) (n : Nat) : Rel g (σ.bump n) w :=
  ⟨h.wf.bump n, h.blk, fun A x a => let ⟨o, b, c⟩ := h.obj A x a; ⟨o, b, OSays.mono (Gam.le_refl g) rfl (fun _ _ _ _ _ h => h) c⟩, h.share, h.order⟩
theorem Ext.bump {N : Nat → Prop} (g : Gam) (σ : St) (w : World) (n : Nat) : Ext N g g σ (σ.bump n) w w :=
  ⟨Gam.le_refl g, fun A x h h' => (by rw [h] at h'; cases h'), fun A x h h' => (by rw [h] at h'; cases h'), Nat.le_refl _, fun _ _ _ => rfl, fun _ _ _ => rfl, fun _ h => ⟨rfl, h⟩, Nat.le_add_right _ _, rfl, rfl, rfl⟩

/-! ## A new block -/

/-- The reading rights of old cells stand behind a new block. -/
theorem St.rd_new {σ : St} (h : σ.Wf) {id : Nat} (hid : σ.get id = none) (ao : AObj) (own : Bool) (ver fam : Nat) : (σ.set id ao).rd own ver fam = σ.rd own ver fam := by
  unfold St.rd
  simp only [St.famO_set]
  cases hf : σ.famO fam with
  | none => rfl
  | some O =>
    obtain ⟨own', v', c', hO⟩ := h.named fam O hf
    have hne : id ≠ O := fun e => by subst e; rw [hid] at hO; cases hO
    simp [hne]

theorem St.Wf.new {σ : St} (h : σ.Wf) {id : Nat} (hid : σ.get id = none) (hlt : id < σ.next) (ao : AObj) (hf : ∀ own v F c, ao = .cells own v F c → F = id) : (σ.set id ao).Wf := by
  have nofam : ∀ X own v c, σ.get X = some (.cells own v id c) → False := fun X own v c e => by
    obtain ⟨o, ho⟩ := h.founder X own v id c e
    rw [hid] at ho; cases ho
  have noO : σ.famO id = none := by
    cases e : σ.famO id with
    | none => rfl
    | some O => obtain ⟨own, v, c, hO⟩ := h.named id O e; exact (nofam _ _ _ _ hO).elim
  have ne : ∀ {A : Nat} {o : AObj}, σ.get A = some o → id ≠ A := fun e e' => by subst e'; rw [hid] at e; cases e
  constructor
  · intro A o e
    simp only [St.get_set] at e
    split at e
    · subst_vars; exact hlt
    · exact h.lt A o e
  · intro A own v F c e
    simp only [St.get_set] at e ⊢
    split at e
    · have e' := Option.some.inj e
      have := hf _ _ _ _ e'
      subst this
      exact ⟨_, by rw [if_pos rfl]⟩
    · obtain ⟨o, ho⟩ := h.founder A own v F c e
      exact ⟨o, by rw [if_neg (ne ho)]; exact ho⟩
  · intro A v F c e
    simp only [St.get_set, St.famO_set] at e ⊢
    split at e
    · have e' := Option.some.inj e
      have := hf _ _ _ _ e'
      subst this; subst_vars
      refine .inr ⟨noO, fun X own v' c' hX => ?_⟩
      split at hX
      · subst_vars; rfl
      · exact (nofam _ _ _ _ hX).elim
    · rcases h.owner A v F c e with h1 | ⟨h1, h2⟩
      · exact .inl h1
      · refine .inr ⟨h1, fun X own v' c' hX => ?_⟩
        split at hX
        · subst_vars
          have := hf _ _ _ _ (Option.some.inj hX)
          subst this
          exact (nofam _ _ _ _ e).elim
        · exact h2 X own v' c' hX
  · intro F O e
    obtain ⟨own, v, c, hO⟩ := h.named F O e
    exact ⟨own, v, c, by simp only [St.get_set]; rw [if_neg (ne hO)]; exact hO⟩
  · intro F O X own v c own' v' c' e hO hX
    simp only [St.get_set, St.famO_set] at e hO hX
    obtain ⟨o1, w1, c1, hO'⟩ := h.named F O e
    rw [if_neg (ne hO')] at hO
    split at hX
    · subst_vars
      have := hf _ _ _ _ (Option.some.inj hX)
      subst this
      rw [noO] at e; cases e
    · exact h.stamp F O X own v c own' v' c' e hO hX
  · intro A n e
    obtain ⟨own, v, F, c, h1, h2⟩ := h.hint A n e
    exact ⟨own, v, F, c, by simp only [St.get_set]; rw [if_neg (ne h1)]; exact h1, h2⟩

/-- The world with one block more. -/
def newW (w : World) (o : Obj) : World := { w with heap := w.heap.push o }
theorem newW_old (w : World) (o : Obj) (b : Nat) (h : b < w.heap.size) : (newW w o).heap[b]? = w.heap[b]? := by
  simp only [newW, Array.getElem?_push]; rw [if_neg (by omega)]
theorem newW_new (w : World) (o : Obj) : (newW w o).heap[w.heap.size]? = some o := by simp only [newW, Array.getElem?_push, if_true]
theorem newW_size (w : World) (o : Obj) : (newW w o).heap.size = w.heap.size + 1 := by simp [newW]

theorem Rel.new {g : Gam} {σ : St} {w : World} (h : Rel g σ w) {id : Nat} (hid : σ.get id = none) (hlt : id < σ.next) (n : Nat) (ao : AObj) (o : Obj)
    (hf : ∀ own v F c, ao = .cells own v F c → F = id)
    (hs : OSays (g.add id ⟨w.heap.size, 0, n⟩) (σ.set id ao) (newW w o) ⟨w.heap.size, 0, n⟩ ao) :
    Rel (g.add id ⟨w.heap.size, 0, n⟩) (σ.set id ao) (newW w o) ∧ Ext (· = id) g (g.add id ⟨w.heap.size, 0, n⟩) σ (σ.set id ao) w (newW w o) := by
  have gid : g id = none := by
    cases e : g id with
    | none => rfl
    | some x => obtain ⟨o, ho, _⟩ := h.obj id x e; rw [hid] at ho; cases ho
  have hle := Gam.le_add (x := ⟨w.heap.size, 0, n⟩) gid
  have old : ∀ A x, (g.add id ⟨w.heap.size, 0, n⟩) A = some x → A ≠ id → g A = some x := fun A x e hA => by
    simpa [Gam.add, hA] using e
  constructor
  · refine ⟨h.wf.new hid hlt ao hf, ?_, ?_, ?_, ?_⟩
    · intro A x e
      rw [newW_size]
      by_cases hA : A = id
      · subst hA; rw [Gam.add_self] at e; cases e; exact Nat.lt_succ_self _
      · have := h.blk A x (old A x e hA); omega
    · intro A x e
      by_cases hA : A = id
      · subst hA; rw [Gam.add_self] at e; cases e
        exact ⟨ao, by simp, hs⟩
      · obtain ⟨p, hp, hq⟩ := h.obj A x (old A x e hA)
        refine ⟨p, by simp only [St.get_set]; rw [if_neg (fun e => hA e.symm)]; exact hp, OSays.mono hle (newW_old _ _ _ (h.blk A x (old A x e hA))) ?_ hq⟩
        intro own ver fam c _ hr
        rwa [St.rd_new h.wf hid] at hr
    · intro A x A' x' e e' eb
      by_cases hA : A = id
      · by_cases hA' : A' = id
        · exact .inl (hA.trans hA'.symm)
        · subst hA; rw [Gam.add_self] at e; cases e
          have := h.blk A' x' (old A' x' e' hA'); simp only at eb; omega
      · by_cases hA' : A' = id
        · subst hA'; rw [Gam.add_self] at e'; cases e'
          have := h.blk A x (old A x e hA); simp only at eb; omega
        · rcases h.share A x A' x' (old A x e hA) (old A' x' e' hA') eb with h1 | ⟨F, h1, h2⟩
          · exact .inl h1
          · refine .inr ⟨F, ?_, ?_⟩
            · unfold St.fam; simp only [St.get_set]; rw [if_neg (fun e => hA e.symm)]; exact h1
            · unfold St.fam; simp only [St.get_set]; rw [if_neg (fun e => hA' e.symm)]; exact h2
    · intro X x O y F v c own c' eX eO eb hne hfo hX hO
      have hOn : O ≠ id := fun e => by
        subst e
        simp only [St.famO_set] at hfo
        obtain ⟨_, _, _, hh⟩ := h.wf.named F O hfo
        rw [hid] at hh; cases hh
      have hXn : X ≠ id := fun e => by
        subst e
        rw [Gam.add_self] at eX; cases eX
        have := h.blk O y (old O y eO hOn); simp only at eb; omega
      simp only [St.get_set, St.famO_set] at hX hO hfo
      rw [if_neg (fun e => hXn e.symm)] at hX
      rw [if_neg (fun e => hOn e.symm)] at hO
      exact h.order X x O y F v c own c' (old X x eX hXn) (old O y eO hOn) eb hne hfo hX hO
  · refine ⟨hle, ?_, ?_, by rw [newW_size]; omega, fun b hb _ => newW_old _ _ _ hb, ?_, ?_, Nat.le_refl _, rfl, rfl, rfl⟩
    · intro A x e e0
      by_cases hA : A = id
      · exact hA
      · rw [old A x e hA] at e0; cases e0
    · intro A x e e0
      by_cases hA : A = id
      · subst hA; rw [Gam.add_self] at e; cases e; exact .inl (Nat.le_refl _)
      · rw [old A x e hA] at e0; cases e0
    · intro A _ hn
      simp only [St.get_set]; rw [if_neg (fun e => hn e.symm)]
    · rintro A ⟨ver, fam, c, hA, hfo⟩
      have hne : id ≠ A := fun e => by subst e; rw [hid] at hA; cases hA
      exact ⟨by simp [hne], ver, fam, c, by simp [hne, hA], hfo⟩

/-- A new block of cells that may be written. -/
theorem Rel.newCells {g : Gam} {σ : St} {w : World} (h : Rel g σ w) {id : Nat} (hid : σ.get id = none) (hlt : id < σ.next) (c : List Value) (cs : Array Value) (el : TypeId)
    (hn : c.length ≤ cs.size) (hv : ∀ i (h : i < c.length) (h' : i < cs.size), VRel g c[i] cs[i]) :
    Rel (g.add id ⟨w.heap.size, 0, cs.size⟩) (σ.set id (.cells true 0 id c)) (newW w (.cells cs el)) ∧ Ext (· = id) g (g.add id ⟨w.heap.size, 0, cs.size⟩) σ (σ.set id (.cells true 0 id c)) w (newW w (.cells cs el)) := by
  have gid : g id = none := by
    cases e : g id with
    | none => rfl
    | some x => obtain ⟨o, ho, _⟩ := h.obj id x e; rw [hid] at ho; cases ho
  refine h.new hid hlt cs.size _ _ (fun own v F c' e => by cases e; rfl) ⟨cs, el, (0, 0), newW_new _ _, rfl, fun _ i hi => ?_, fun _ i _ => by simp⟩
  have hi' : i < cs.size := by omega
  exact ⟨cs[i], by simp [hi'], (hv i hi hi').mono (Gam.le_add gid)⟩

/-! ## Cells are read -/

theorem cell?_at {w : World} {b : Nat} {cs : Array Value} {el : TypeId} {fr : Nat × Nat} (h : w.heap[b]? = some (.cells cs el fr)) (i : Nat) : w.cell? ⟨b, i, none⟩ = cs[i]? := by
  simp [World.cell?, h]
theorem frozen?_at {w : World} {b : Nat} {cs : Array Value} {el : TypeId} {fr : Nat × Nat} (h : w.heap[b]? = some (.cells cs el fr)) (i : Nat) : w.frozen? ⟨b, i, none⟩ = (decide (fr.1 ≤ i) && decide (i < fr.2)) := by
  simp [World.frozen?, h]
theorem add_off (b o i : Nat) : (⟨b, o, none⟩ : Addr).add i = ⟨b, o + i, none⟩ := by unfold Addr.add; split <;> simp_all

theorem getD_lt (c : List Value) (i : Nat) (h : i < c.length) : c.getD i undef = c[i] := by simp [List.getD, h]

/-- What may be read of an abstract block: its cells. -/
def St.cells? (σ : St) (A : Nat) : Option (List Value) :=
  match σ.get A with
  | some (.cells own ver fam c) => if σ.rd own ver fam then some c else none
  | _ => none
/-- n cells from o on. -/
def sub? (c : List Value) (o n : Nat) : Option (List Value) := if o + n ≤ c.length then some ((c.drop o).take n) else none
def St.read? (σ : St) (A o n : Nat) : Option (List Value) := (σ.cells? A).bind fun c => sub? c o n

theorem Rel.cells {g : Gam} {σ : St} {w : World} (h : Rel g σ w) {A : Nat} {x : CA} (hx : g A = some x) {c : List Value} (hc : σ.cells? A = some c) :
    ∃ cs el fr, w.heap[x.block]? = some (.cells cs el fr) ∧ cs.size = x.size ∧ ∀ i (h : i < c.length), ∃ v', cs[x.base + i]? = some v' ∧ VRel g c[i] v' := by
  obtain ⟨o, ho, hs⟩ := h.obj A x hx
  unfold St.cells? at hc
  rw [ho] at hc
  cases o with
  | cells own ver fam c0 =>
    simp only at hc
    split at hc
    · cases hc
      obtain ⟨cs, el, fr, h1, h2, h3, _⟩ := hs
      exact ⟨cs, el, fr, h1, h2, h3 (by assumption)⟩
    · cases hc
  | iter s pos => cases hc
  | map es clock => cases hc

theorem Rel.readC {g : Gam} {σ : St} {w : World} (h : Rel g σ w) {A o n : Nat} {x : CA} (hx : g A = some x) {l : List Value} (hr : σ.read? A o n = some l) :
    ∃ vs : List Value, vs.length = n ∧ l.length = n ∧ (∀ j v, vs[j]? = some v → w.cell? ((⟨x.block, x.base + o, none⟩ : Addr).add j) = some v) ∧ ∀ i (h : i < l.length) (h' : i < vs.length), VRel g l[i] vs[i] := by
  unfold St.read? at hr
  cases hc : σ.cells? A with
  | none => rw [hc] at hr; cases hr
  | some c =>
    rw [hc] at hr
    simp only [Option.bind_some, sub?] at hr
    split at hr
    · rename_i hle
      cases hr
      obtain ⟨cs, el, fr, h1, h2, h3⟩ := h.cells hx hc
      have hlen : ((c.drop o).take n).length = n := by simp; omega
      let f : Nat → Value := fun i => cs.getD (x.base + (o + i)) undef
      have hf : ∀ i, i < n → cs[x.base + (o + i)]? = some (f i) ∧ VRel g (c.getD (o + i) undef) (f i) := by
        intro i hi
        obtain ⟨v', a, b⟩ := h3 (o + i) (by omega)
        have e : f i = v' := by simp [f, a]
        rw [e]
        exact ⟨a, by rw [getD_lt _ _ (by omega)]; exact b⟩
      refine ⟨(List.range n).map f, by simp, hlen, ?_, ?_⟩
      · intro j v hj
        have hjn : j < n := by have := (List.getElem?_eq_some_iff.1 hj).1; simpa using this
        have e : v = f j := by simpa [hjn] using hj.symm
        rw [add_off, cell?_at h1, Nat.add_assoc, e]; exact (hf j hjn).1
      · intro i hi hi'
        have hin : i < n := by omega
        have := (hf i hin).2
        rw [getD_lt _ _ (by omega)] at this
        simpa using this
    · cases hr
theorem Rel.read {P : Program} {g : Gam} {σ : St} {w : World} (h : Rel g σ w) {A o n : Nat} {x : CA} (hx : g A = some x) {l : List Value} (hr : σ.read? A o n = some l) :
    ∃ vs : List Value, vs.length = n ∧ l.length = n ∧ (loadCells ⟨x.block, x.base + o, none⟩ n).run P w = .ok vs.toArray w ∧ ∀ i (h : i < l.length) (h' : i < vs.length), VRel g l[i] vs[i] := by
  obtain ⟨vs, e1, e2, e3, e4⟩ := h.readC hx hr
  refine ⟨vs, e1, e2, ?_, e4⟩
  have := run_loadCells_list (P := P) w _ vs e3
  rwa [e1] at this
/-- As 'read', in whatever world of the same heap. -/
theorem Rel.readW {P : Program} {g : Gam} {σ : St} {w : World} (h : Rel g σ w) {A o n : Nat} {x : CA} (hx : g A = some x) {l : List Value} (hr : σ.read? A o n = some l) :
    ∃ vs : List Value, vs.length = n ∧ l.length = n ∧ (∀ w2 : World, w2.heap = w.heap → (loadCells ⟨x.block, x.base + o, none⟩ n).run P w2 = .ok vs.toArray w2) ∧ ∀ i (h : i < l.length) (h' : i < vs.length), VRel g l[i] vs[i] := by
  obtain ⟨vs, e1, e2, e3, e4⟩ := h.readC hx hr
  refine ⟨vs, e1, e2, fun w2 hw => ?_, e4⟩
  have := run_loadCells_list (P := P) w2 _ vs (fun j v hj => by have := e3 j v hj; simpa [World.cell?, hw] using this)
  rwa [e1] at this
end Go.Ev
