/-
  The evaluator's ground, over any program: the moves that write: cells stored, append in place and append to a new block. No condition.
-/
import Derived.Test.YtedojhheppepdaaGreatDoorEv2
namespace Go.Ev
open Go

/-- Values laid over a row of the world's. -/
def layA (cs : Array Value) (o : Nat) : List Value → Array Value
  | [] => cs
  | v :: r => layA (cs.setIfInBounds o v) (o + 1) r
/-- Values laid over a list. -/
def lay (c : List Value) (o : Nat) (vs : List Value) : List Value := c.take o ++ vs ++ c.drop (o + vs.length)

theorem layA_size (vs : List Value) : ∀ (cs : Array Value) (o : Nat), (layA cs o vs).size = cs.size := by
  induction vs with
  | nil => intro cs o; rfl
  | cons v r ih => intro cs o; simp [layA, ih]
theorem layA_out (vs : List Value) : ∀ (cs : Array Value) (o i : Nat), (i < o ∨ o + vs.length ≤ i) → (layA cs o vs)[i]? = cs[i]? := by
  induction vs with
  | nil => intro cs o i _; rfl
  | cons v r ih =>
    intro cs o i h
    simp only [layA, List.length_cons] at h ⊢
    rw [ih _ _ _ (by omega)]
    simp only [Array.getElem?_setIfInBounds]
    rw [if_neg (by omega)]
theorem layA_in (vs : List Value) : ∀ (cs : Array Value) (o i : Nat) (h : i < vs.length), o + vs.length ≤ cs.size → (layA cs o vs)[o + i]? = some vs[i] := by
  induction vs with
  | nil => intro cs o i h _; simp at h
  | cons v r ih =>
    intro cs o i h hs
    simp only [layA, List.length_cons] at h hs ⊢
    cases i with
    | zero =>
      rw [layA_out _ _ _ _ (by omega)]
      simp only [Nat.add_zero, Array.getElem?_setIfInBounds]
      simp; omega
    | succ i =>
      have := ih (cs.setIfInBounds o v) (o + 1) i (by omega) (by simp; omega)
      rw [show o + (i + 1) = o + 1 + i by omega, this]
      simp
theorem lay_length (c : List Value) (o : Nat) (vs : List Value) (h : o + vs.length ≤ c.length) : (lay c o vs).length = c.length := by
  simp [lay]; omega
theorem lay_get (c : List Value) (o : Nat) (vs : List Value) (h : o + vs.length ≤ c.length) (i : Nat) :
    (lay c o vs)[i]? = if i < o then c[i]? else if i < o + vs.length then vs[i - o]? else c[i]? := by
  unfold lay
  have h1 : (c.take o).length = o := by simp; omega
  by_cases a : i < o
  · rw [if_pos a, List.append_assoc, List.getElem?_append_left (by omega)]
    simp [a]
  · rw [if_neg a, List.append_assoc, List.getElem?_append_right (by omega), h1]
    by_cases b : i < o + vs.length
    · rw [if_pos b, List.getElem?_append_left (by omega)]
    · rw [if_neg b, List.getElem?_append_right (by omega)]
      simp only [List.getElem?_drop]
      congr 1; omega

theorem setCells_heap (b : Nat) : ∀ (vs : List Value) (o : Nat) (w : World) (cs : Array Value) (el : TypeId) (fr : Nat × Nat), w.heap[b]? = some (.cells cs el fr) →
    (w.setCells b o vs).heap[b]? = some (.cells (layA cs o vs) el fr)
  | [], _, _, _, _, _, h => h
  | v :: r, o, w, cs, el, fr, h => by
    simp only [World.setCells, layA]
    refine setCells_heap b r (o + 1) _ _ el fr ?_
    simp [World.setCell, Array.getElem?_modify, h]
theorem setCells_other (b : Nat) : ∀ (vs : List Value) (o : Nat) (w : World) (b' : Nat), b' ≠ b → (w.setCells b o vs).heap[b']? = w.heap[b']?
  | [], _, _, _, _ => rfl
  | v :: r, o, w, b', h => by
    simp only [World.setCells]
    rw [setCells_other b r (o + 1) _ b' h]
    simp only [World.setCell, Array.getElem?_modify]
    rw [if_neg (fun e => h e.symm)]
theorem setCells_rest (b : Nat) : ∀ (vs : List Value) (o : Nat) (w : World), (w.setCells b o vs).heap.size = w.heap.size ∧ (w.setCells b o vs).os = w.os ∧ (w.setCells b o vs).output = w.output ∧ (w.setCells b o vs).tape = w.tape
  | [], _, _ => ⟨rfl, rfl, rfl, rfl⟩
  | v :: r, o, w => by
    obtain ⟨a, b', c, d⟩ := setCells_rest b r (o + 1) (w.setCell ⟨b, o, none⟩ v)
    simp only [World.setCells]
    exact ⟨a.trans (by simp [World.setCell]), b', c, d⟩

theorem St.rd_own {σ : St} (ver F : Nat) : σ.rd true ver F = true := rfl

/-! ## A store -/

theorem St.Wf.store {σ : St} (h : σ.Wf) {A ver F : Nat} {c : List Value} (hA : σ.get A = some (.cells true ver F c)) (c' : List Value) (hl : c'.length = c.length) : (σ.set A (.cells true (ver + 1) F c')).Wf := by
  have hO : ∀ O, σ.famO F = some O → O = A := fun O e => by
    rcases h.owner A ver F c hA with h1 | ⟨h1, _⟩
    · rw [h1] at e; exact (Option.some.inj e).symm
    · rw [h1] at e; cases e
  constructor
  · intro B o e
    simp only [St.get_set] at e
    split at e
    · subst_vars; exact h.lt _ _ hA
    · exact h.lt B o e
  · intro B own v F' c0 e
    simp only [St.get_set] at e ⊢
    have : ∃ o, σ.get F' = some o := by
      split at e
      · cases e; exact h.founder _ _ _ _ _ hA
      · exact h.founder _ _ _ _ _ e
    obtain ⟨o, ho⟩ := this
    by_cases e2 : A = F'
    · exact ⟨_, if_pos e2⟩
    · exact ⟨o, by rw [if_neg e2]; exact ho⟩
  · intro B v F' c0 e
    simp only [St.get_set, St.famO_set] at e ⊢
    have key : σ.famO F' = some B ∨ (σ.famO F' = none ∧ ∀ X own v' c', σ.get X = some (.cells own v' F' c') → X = B) := by
      split at e
      · cases e; subst_vars; exact h.owner _ _ _ _ hA
      · exact h.owner _ _ _ _ e
    rcases key with k | ⟨k1, k2⟩
    · exact .inl k
    · refine .inr ⟨k1, fun X own v' c1 e1 => ?_⟩
      split at e1
      · cases e1; subst_vars; exact k2 _ _ _ _ hA
      · exact k2 _ _ _ _ e1
  · intro F' O e
    obtain ⟨own, v, c0, hh⟩ := h.named F' O e
    simp only [St.get_set]
    by_cases e2 : A = O
    · subst e2; rw [hA] at hh; cases hh; exact ⟨_, _, _, if_pos rfl⟩
    · exact ⟨own, v, c0, by rw [if_neg e2]; exact hh⟩
  · intro F' O X own v c0 own' v' c1 e hO' hX
    simp only [St.get_set, St.famO_set] at e hO' hX
    split at hO'
    · cases hO'
      subst_vars
      split at hX
      · cases hX; exact Nat.le_refl _
      · exact Nat.le_succ_of_le (h.stamp _ _ _ _ _ _ _ _ _ e hA hX)
    · split at hX
      · cases hX
        rename_i hne _
        exact (hne (hO O e).symm).elim
      · exact h.stamp _ _ _ _ _ _ _ _ _ e hO' hX
  · intro B n e
    obtain ⟨own, v, F', c0, h1, h2⟩ := h.hint B n e
    simp only [St.get_set]
    by_cases e2 : A = B
    · subst e2
      rw [hA] at h1; cases h1
      exact ⟨_, _, _, _, if_pos rfl, by rw [hl]; exact h2⟩
    · exact ⟨own, v, F', c0, by rw [if_neg e2]; exact h1, h2⟩

/-- No other block of the family may be read behind a store. -/
theorem St.rd_store {σ : St} (h : σ.Wf) {A ver F : Nat} {c : List Value} (hA : σ.get A = some (.cells true ver F c)) (c' : List Value) {X : Nat} (hne : X ≠ A) {own : Bool} {v F' : Nat} {c0 : List Value}
    (hX : σ.get X = some (.cells own v F' c0)) (hr : (σ.set A (.cells true (ver + 1) F c')).rd own v F' = true) : F' ≠ F ∧ σ.rd own v F' = true := by
  have hown : F' = F → own = false ∧ σ.famO F = some A := fun e => by
    subst e
    cases own with
    | false =>
      rcases h.owner A ver F' c hA with h1 | ⟨_, h2⟩
      · exact ⟨rfl, h1⟩
      · exact (hne (h2 X _ _ _ hX)).elim
    | true =>
      rcases h.owner X v F' c0 hX with h1 | ⟨_, h2⟩
      · rcases h.owner A ver F' c hA with k1 | ⟨k1, _⟩
        · rw [h1] at k1; exact (hne (Option.some.inj k1)).elim
        · rw [h1] at k1; cases k1
      · exact (hne (h2 A _ _ _ hA).symm).elim
  have hF : F' ≠ F := fun e => by
    obtain ⟨e1, e2⟩ := hown e
    subst e e1
    unfold St.rd at hr
    simp only [St.famO_set, e2, St.get_set, if_true, Bool.false_or, beq_iff_eq] at hr
    have := h.stamp _ _ _ _ _ _ _ _ _ e2 hA hX
    omega
  refine ⟨hF, ?_⟩
  unfold St.rd at hr ⊢
  simp only [St.famO_set] at hr
  cases hf : σ.famO F' with
  | none => rw [hf] at hr; exact hr
  | some O =>
    rw [hf] at hr
    have : A ≠ O := fun e => by
      subst e
      obtain ⟨_, _, _, hh⟩ := h.named F' A hf
      rw [hA] at hh; cases hh; exact hF rfl
    simp only [St.get_set] at hr
    rwa [if_neg this] at hr

theorem oneCell_rel {g : Gam} {v v' : Value} (h : VRel g v v') : v'.oneCell' = v.oneCell' := by cases h <;> rfl

theorem Rel.store {P : Program} {g : Gam} {σ : St} {w : World} (h : Rel g σ w) {A o ver F : Nat} {x : CA} {c vs vs' : List Value} (hx : g A = some x)
    (hA : σ.get A = some (.cells true ver F c)) (hlen : o + vs.length ≤ c.length) (hl : vs'.length = vs.length) (hv : ∀ i (h : i < vs.length) (h' : i < vs'.length), VRel g vs[i] vs'[i])
    (h1 : ∀ v ∈ vs, v.oneCell' = true) :
    (storeCells ⟨x.block, x.base + o, none⟩ vs').run P w = .ok () (w.setCells x.block (x.base + o) vs') ∧
    Rel g (σ.set A (.cells true (ver + 1) F (lay c o vs))) (w.setCells x.block (x.base + o) vs') ∧
    Ext (fun _ => False) g g σ (σ.set A (.cells true (ver + 1) F (lay c o vs))) w (w.setCells x.block (x.base + o) vs') := by
  obtain ⟨ob, hob, hsays⟩ := h.obj A x hx
  rw [hA] at hob
  cases hob
  obtain ⟨cs, el, fr, hb, hsz, hcont, hfr⟩ := hsays
  have hcont := hcont rfl
  have hfr := hfr rfl
  have hin : ∀ i, i < c.length → x.base + i < cs.size := fun i hi => by
    obtain ⟨v', a, _⟩ := hcont i hi
    exact (Array.getElem?_eq_some_iff.1 a).1
  have hroom : x.base + o + vs'.length ≤ cs.size ∨ vs' = [] := by
    cases vs' with
    | nil => exact .inr rfl
    | cons v r =>
      left
      have := hin (o + (v :: r).length - 1) (by simp at hl ⊢; omega)
      simp at this ⊢; omega
  obtain ⟨r1, r2, r3, r4⟩ := setCells_rest x.block vs' (x.base + o) w
  refine ⟨?_, ?_, ?_⟩
  · have := run_storeCells_cells (P := P) x.block (x.base + o) vs' 0 w (fun j hj => by
        rw [Nat.add_zero, cell?_at hb]
        rcases hroom with hroom | hroom
        · rw [Array.getElem?_eq_getElem (by omega)]; rfl
        · subst hroom; simp at hj)
      (fun j hj => by
        rw [Nat.add_zero, frozen?_at hb]
        rcases hroom with hroom | hroom
        · have := hfr (x.base + o + j) (by omega)
          by_cases e1 : fr.1 ≤ x.base + o + j
          · have e2 : ¬ x.base + o + j < fr.2 := fun e => this ⟨e1, e⟩
            simp [e2]
          · simp [e1]
        · subst hroom; simp at hj)
      (fun v hv' => by
        obtain ⟨i, hi, rfl⟩ := List.getElem_of_mem hv'
        rw [oneCell_rel (hv i (by omega) hi)]
        exact h1 _ (by simp))
    simpa using this
  · refine ⟨h.wf.store hA _ (lay_length c o vs (by omega)), fun B y e => by rw [r1]; exact h.blk B y e, ?_, ?_, ?_⟩
    · intro B y e
      by_cases hB : B = A
      · subst hB
        rw [hx] at e; cases e
        refine ⟨.cells true (ver + 1) F (lay c o vs), by simp, layA cs (x.base + o) vs', el, fr, setCells_heap _ _ _ _ _ _ _ hb, by rw [layA_size]; exact hsz, fun _ i hi => ?_, fun _ => hfr⟩
        rw [lay_length _ _ _ hlen] at hi
        have hg := lay_get c o vs hlen i
        by_cases a : i < o
        · rw [if_pos a] at hg
          obtain ⟨v', p, q⟩ := hcont i hi
          refine ⟨v', by rw [layA_out _ _ _ _ (.inl (by omega))]; exact p, ?_⟩
          rw [List.getElem?_eq_getElem (by rw [lay_length _ _ _ hlen]; exact hi), List.getElem?_eq_getElem hi] at hg
          rw [Option.some.inj hg]; exact q
        · rw [if_neg a] at hg
          by_cases b : i < o + vs.length
          · rw [if_pos b] at hg
            have hi2 : i - o < vs'.length := by omega
            refine ⟨vs'[i - o], ?_, ?_⟩
            · have := layA_in vs' cs (x.base + o) (i - o) hi2 (by rcases hroom with q | q; exact q; subst q; simp at hi2)
              rw [show x.base + i = x.base + o + (i - o) by omega]; exact this
            · rw [List.getElem?_eq_getElem (by rw [lay_length _ _ _ hlen]; exact hi), List.getElem?_eq_getElem (by omega)] at hg
              rw [Option.some.inj hg]; exact hv _ _ _
          · rw [if_neg b] at hg
            obtain ⟨v', p, q⟩ := hcont i hi
            refine ⟨v', by rw [layA_out _ _ _ _ (.inr (by omega))]; exact p, ?_⟩
            rw [List.getElem?_eq_getElem (by rw [lay_length _ _ _ hlen]; exact hi), List.getElem?_eq_getElem hi] at hg
            rw [Option.some.inj hg]; exact q
      · obtain ⟨ob, hob, hs⟩ := h.obj B y e
        refine ⟨ob, by simp only [St.get_set]; rw [if_neg (fun e => hB e.symm)]; exact hob, ?_⟩
        by_cases hblk : y.block = x.block
        · rcases h.share B y A x e hx hblk with e1 | ⟨F', e1, e2⟩
          · exact (hB e1).elim
          · rw [St.fam_eq hA] at e2; cases e2
            cases ob with
            | iter s pos => simp [St.fam, hob] at e1
            | map es cl => simp [St.fam, hob] at e1
            | cells own v F2 c2 =>
              rw [St.fam_eq hob] at e1; cases e1
              obtain ⟨cs2, el2, fr2, k1, k2, k3, k4⟩ := hs
              rw [hblk, hb] at k1; cases k1
              refine ⟨_, el, fr, by rw [hblk]; exact setCells_heap _ _ _ _ _ _ _ hb, by rw [layA_size]; exact k2, fun hr => ?_, k4⟩
              exact ((St.rd_store h.wf hA _ hB hob hr).1 rfl).elim
        · refine OSays.mono (Gam.le_refl g) (setCells_other _ _ _ _ _ hblk) ?_ hs
          intro own ver2 fam2 c2 eo hr
          subst eo
          exact (St.rd_store h.wf hA _ hB hob hr).2
    · intro B y B' y' e e' eb
      have fam_same : ∀ B, (σ.set A (.cells true (ver + 1) F (lay c o vs))).fam B = σ.fam B := fun B => by
        unfold St.fam; simp only [St.get_set]
        by_cases e : A = B
        · subst e; rw [if_pos rfl, hA]
        · rw [if_neg e]
      rcases h.share B y B' y' e e' eb with k | ⟨F', k1, k2⟩
      · exact .inl k
      · exact .inr ⟨F', by rw [fam_same]; exact k1, by rw [fam_same]; exact k2⟩
    · intro X y O z F' v c1 own c2 eX eO eb hne hfo hX hO
      simp only [St.get_set, St.famO_set] at hX hO hfo
      split at hX
      · cases hX
      · rename_i hXA
        split at hO
        · cases hO
          subst_vars
          have := h.wf.stamp _ _ _ _ _ _ _ _ _ hfo hA hX
          omega
        · exact h.order X y O z F' v c1 own c2 eX eO eb hne hfo hX hO
  · refine ⟨Gam.le_refl g, fun B y e e0 => (by rw [e] at e0; cases e0), fun B y e e0 => (by rw [e] at e0; cases e0), by rw [r1]; exact Nat.le_refl _, ?_, ?_, ?_, Nat.le_refl _, r2, r3, r4⟩
    · intro b hb' hall
      refine setCells_other _ _ _ _ _ (fun e => ?_)
      obtain ⟨v, f, cc, k, _⟩ := hall A x hx e.symm
      rw [hA] at k; cases k
    · intro B e _
      simp only [St.get_set]
      rw [if_neg (fun e2 => by subst e2; rw [hx] at e; cases e)]
    · rintro B ⟨v, f, cc, k, kf⟩
      have : A ≠ B := fun e => by subst e; rw [hA] at k; cases k
      exact ⟨by simp [this], v, f, cc, by simp [this, k], kf⟩

/-! ## An append -/

/-- The state behind an append to cells of A that end at q: A's other cells are gone, and the family's new block is 'id'. -/
def appSt (σ : St) (A id ver F : Nat) (c : List Value) (off q : Nat) (nc : List Value) : St :=
  let ver' := if q = c.length then ver else ver + 1
  ((((σ.set A (.cells false ver' F (c.take q))).set id (.cells true ver' F ((c.take q).drop off ++ nc))).setFam F id).setHint A q).setHint id (q - off + nc.length)

section app
variable {σ : St} {A id ver F off q : Nat} {c nc : List Value}

theorem appSt_get (hid : σ.get id = none) (hA : σ.get A = some (.cells true ver F c)) (B : Nat) :
    (appSt σ A id ver F c off q nc).get B = if B = id then some (.cells true (if q = c.length then ver else ver + 1) F ((c.take q).drop off ++ nc))
      else if B = A then some (.cells false (if q = c.length then ver else ver + 1) F (c.take q)) else σ.get B := by
  unfold appSt
  simp only [St.get_setHint, St.get_setFam, St.get_set]
  by_cases e : B = id
  · subst e; simp
  · rw [if_neg (fun h => e h.symm), if_neg e]
    by_cases e2 : B = A
    · subst e2; simp
    · rw [if_neg (fun h => e2 h.symm), if_neg e2]
theorem appSt_famO (F' : Nat) : (appSt σ A id ver F c off q nc).famO F' = if F' = F then some id else σ.famO F' := by
  unfold appSt
  simp only [St.famO_setHint, St.famO_setFam, St.famO_set]
  by_cases e : F = F'
  · simp [e]
  · rw [if_neg e, if_neg (fun h => e h.symm)]
theorem app_owner (h : σ.Wf) (hA : σ.get A = some (.cells true ver F c)) {X : Nat} {own : Bool} {v : Nat} {c0 : List Value} (hX : σ.get X = some (.cells own v F c0)) (hne : X ≠ A) :
    own = false ∧ σ.famO F = some A ∧ v ≤ ver := by
  rcases h.owner A ver F c hA with h1 | ⟨h1, h2⟩
  · cases own with
    | false => exact ⟨rfl, h1, h.stamp _ _ _ _ _ _ _ _ _ h1 hA hX⟩
    | true =>
      rcases h.owner X v F c0 hX with k1 | ⟨k1, k2⟩
      · rw [h1] at k1; exact (hne (Option.some.inj k1).symm).elim
      · rw [h1] at k1; cases k1
  · exact (hne (h2 X _ _ _ hX)).elim
theorem app_founder (h : σ.Wf) (hid : σ.get id = none) (hA : σ.get A = some (.cells true ver F c)) : F ≠ id ∧ A ≠ id := by
  refine ⟨fun e => ?_, fun e => ?_⟩
  · obtain ⟨o, ho⟩ := h.founder _ _ _ _ _ hA
    subst e; rw [hid] at ho; cases ho
  · subst e; rw [hid] at hA; cases hA

theorem appSt_hintO (B : Nat) : (appSt σ A id ver F c off q nc).hintO B = if id = B then some (q - off + nc.length) else if A = B then some q else σ.hintO B := by
  unfold appSt
  simp only [St.hintO_setHint, St.hintO_setFam, St.hintO_set]
theorem St.Wf.app (h : σ.Wf) (hid : σ.get id = none) (hlt : id < σ.next) (hA : σ.get A = some (.cells true ver F c)) (hq : q ≤ c.length) : (appSt σ A id ver F c off q nc).Wf := by
  obtain ⟨hFid, hAid⟩ := app_founder h hid hA
  constructor
  · intro B o e
    rw [appSt_get hid hA] at e
    split at e
    · subst_vars; exact hlt
    · split at e
      · subst_vars; exact h.lt _ _ hA
      · exact h.lt B o e
  · intro B own v F' c0 e
    rw [appSt_get hid hA] at e
    have : ∃ o, σ.get F' = some o := by
      split at e
      · cases e; exact h.founder _ _ _ _ _ hA
      · split at e
        · cases e; exact h.founder _ _ _ _ _ hA
        · exact h.founder _ _ _ _ _ e
    obtain ⟨o, ho⟩ := this
    rw [appSt_get hid hA]
    by_cases e1 : F' = id
    · exact ⟨_, if_pos e1⟩
    · rw [if_neg e1]
      by_cases e2 : F' = A
      · exact ⟨_, if_pos e2⟩
      · rw [if_neg e2]; exact ⟨o, ho⟩
  · intro B v F' c0 e
    rw [appSt_get hid hA] at e
    rw [appSt_famO]
    split at e
    · cases e; subst_vars; exact .inl (if_pos rfl)
    · rename_i hBid
      split at e
      · cases e
      · rename_i hBA
        have hF' : F' ≠ F := fun e2 => by
          subst e2
          have := (app_owner h hA e hBA).1
          cases this
        rw [if_neg hF']
        rcases h.owner B v F' c0 e with k | ⟨k1, k2⟩
        · exact .inl k
        · refine .inr ⟨k1, fun X own v' c' eX => ?_⟩
          rw [appSt_get hid hA] at eX
          split at eX
          · cases eX; exact (hF' rfl).elim
          · split at eX
            · cases eX; exact (hF' rfl).elim
            · exact k2 X own v' c' eX
  · intro F' O e
    rw [appSt_famO] at e
    split at e
    · cases e; subst_vars; exact ⟨_, _, _, by rw [appSt_get hid hA, if_pos rfl]⟩
    · rename_i hF'
      obtain ⟨own, v, c0, hh⟩ := h.named F' O e
      refine ⟨own, v, c0, ?_⟩
      rw [appSt_get hid hA, if_neg (fun e2 => by subst e2; rw [hid] at hh; cases hh), if_neg (fun e2 => by subst e2; rw [hA] at hh; cases hh; exact hF' rfl)]
      exact hh
  · intro F' O X own v c0 own' v' c1 e hO hX
    rw [appSt_famO] at e
    rw [appSt_get hid hA] at hO hX
    split at e
    · cases e
      rw [if_pos rfl] at hO
      cases hO
      split at hX
      · cases hX; exact Nat.le_refl _
      · split at hX
        · cases hX; exact Nat.le_refl _
        · rename_i hXA
          subst_vars
          have := (app_owner h hA hX hXA).2.2
          split <;> omega
    · rename_i hF'
      split at hO
      · cases hO; exact (hF' rfl).elim
      · split at hO
        · cases hO; exact (hF' rfl).elim
        · split at hX
          · cases hX; exact (hF' rfl).elim
          · split at hX
            · cases hX; exact (hF' rfl).elim
            · exact h.stamp _ _ _ _ _ _ _ _ _ e hO hX
  · intro B n e
    rw [appSt_hintO] at e
    split at e
    · cases e; subst_vars
      refine ⟨_, _, _, _, by rw [appSt_get hid hA, if_pos rfl], ?_⟩
      simp; omega
    · rename_i hB
      split at e
      · cases e; subst_vars
        refine ⟨_, _, _, _, by rw [appSt_get hid hA, if_neg (fun e2 => hB e2.symm), if_pos rfl], ?_⟩
        simp; omega
      · rename_i hB2
        obtain ⟨own, v, F', c0, h1, h2⟩ := h.hint B n e
        exact ⟨own, v, F', c0, by rw [appSt_get hid hA, if_neg (fun e2 => hB e2.symm), if_neg (fun e2 => hB2 e2.symm)]; exact h1, h2⟩

theorem app_rd (h : σ.Wf) (hid : σ.get id = none) (hA : σ.get A = some (.cells true ver F c)) {X : Nat} (hne : X ≠ A) {own : Bool} {v F' : Nat} {c0 : List Value}
    (hX : σ.get X = some (.cells own v F' c0)) (hr : (appSt σ A id ver F c off q nc).rd own v F' = true) : σ.rd own v F' = true ∧ (F' = F → own = false ∧ σ.famO F = some A ∧ v = ver ∧ q = c.length) := by
  by_cases hF : F' = F
  · subst hF
    obtain ⟨e1, e2, e3⟩ := app_owner h hA hX hne
    subst e1
    unfold St.rd at hr ⊢
    rw [appSt_famO, if_pos rfl] at hr
    simp only [appSt_get hid hA, if_true, Bool.false_or, beq_iff_eq] at hr
    have hq : q = c.length ∧ v = ver := by
      split at hr
      · exact ⟨by assumption, hr.symm⟩
      · omega
    obtain ⟨hq, hv⟩ := hq
    subst hv
    simp [e2, hA, hq]
  · refine ⟨?_, fun e => (hF e).elim⟩
    unfold St.rd at hr ⊢
    rw [appSt_famO, if_neg hF] at hr
    cases hf : σ.famO F' with
    | none => rw [hf] at hr; exact hr
    | some O =>
      rw [hf] at hr
      obtain ⟨_, _, _, hh⟩ := h.named F' O hf
      simp only [] at hr
      rw [appSt_get hid hA, if_neg (fun e2 => by subst e2; rw [hid] at hh; cases hh), if_neg (fun e2 => by subst e2; rw [hA] at hh; cases hh; exact hF rfl)] at hr
      exact hr
end app

/-- What an append leaves, whatever it did in the world: 'y' is where the new block lies. -/
theorem Rel.appCore {g : Gam} {σ : St} {w w' : World} (h : Rel g σ w) {A id ver F off q : Nat} {c nc : List Value} {x : CA} (hid : σ.get id = none) (hlt : id < σ.next) (hx : g A = some x)
    (hA : σ.get A = some (.cells true ver F c)) (hq : q ≤ c.length) (hoff : off ≤ q) (y : CA) (hsz : w.heap.size ≤ w'.heap.size) (hy : y.block < w'.heap.size)
    (hnew : ∃ cs el fr, w'.heap[y.block]? = some (.cells cs el fr) ∧ cs.size = y.size ∧ (∀ i (h : i < ((c.take q).drop off ++ nc).length), ∃ v', cs[y.base + i]? = some v' ∧ VRel g ((c.take q).drop off ++ nc)[i] v') ∧ (∀ i, i < y.size → ¬ (fr.1 ≤ i ∧ i < fr.2)))
    (hold : ∀ b, b < w.heap.size → b ≠ x.block → w'.heap[b]? = w.heap[b]?)
    (hrow : ∀ cs el fr, w.heap[x.block]? = some (.cells cs el fr) → ∃ cs', w'.heap[x.block]? = some (.cells cs' el fr) ∧ cs'.size = cs.size ∧ ∀ i, i < x.base + q → cs'[i]? = cs[i]?)
    (hplace : y.block = x.block ∧ y.base = x.base + off ∨ w.heap.size ≤ y.block) (hos : w'.os = w.os ∧ w'.output = w.output ∧ w'.tape = w.tape) :
    Rel (g.add id y) (appSt σ A id ver F c off q nc) w' ∧ Ext (· = id) g (g.add id y) σ (appSt σ A id ver F c off q nc) w w' := by
  obtain ⟨hFid, hAid⟩ := app_founder h.wf hid hA
  have gid : g id = none := by
    cases e : g id with
    | none => rfl
    | some x => obtain ⟨o, ho, _⟩ := h.obj id x e; rw [hid] at ho; cases ho
  have hle := Gam.le_add (x := y) gid
  have old : ∀ B z, (g.add id y) B = some z → B ≠ id → g B = some z := fun B z e hB => by simpa [Gam.add, hB] using e
  obtain ⟨ob, hob, hsays⟩ := h.obj A x hx
  rw [hA] at hob; cases hob
  obtain ⟨cs, el, fr, hb, hszx, hcont, hfr⟩ := hsays
  have hcont := hcont rfl
  obtain ⟨cs', hb', hsz', hsame⟩ := hrow cs el fr hb
  have getG := fun B => appSt_get (off := off) (q := q) (nc := nc) hid hA B
  have famX : ∀ X F', σ.fam X = some F' → (appSt σ A id ver F c off q nc).fam X = some F' := fun X F' e => by
    unfold St.fam at e ⊢
    rw [getG]
    rw [if_neg (fun e2 => by subst e2; rw [hid] at e; cases e)]
    by_cases e2 : X = A
    · rw [if_pos e2]; rw [e2, hA] at e; exact e
    · rw [if_neg e2]; exact e
  constructor
  · refine ⟨h.wf.app hid hlt hA hq, ?_, ?_, ?_, ?_⟩
    · intro B z e
      by_cases hB : B = id
      · subst hB; rw [Gam.add_self] at e; cases e; exact hy
      · exact Nat.lt_of_lt_of_le (h.blk B z (old B z e hB)) hsz
    · intro B z e
      by_cases hB : B = id
      · subst hB; rw [Gam.add_self] at e; cases e
        refine ⟨.cells true (if q = c.length then ver else ver + 1) F ((c.take q).drop off ++ nc), by rw [getG, if_pos rfl], ?_⟩
        obtain ⟨ncs, nel, nfr, k1, k2, k3, k4⟩ := hnew
        refine ⟨ncs, nel, nfr, k1, k2, fun _ i hi => ?_, fun _ => k4⟩
        obtain ⟨v', a, b⟩ := k3 i hi
        exact ⟨v', a, b.mono hle⟩
      · have e0 := old B z e hB
        by_cases hBA : B = A
        · subst hBA
          rw [hx] at e0; cases e0
          refine ⟨.cells false (if q = c.length then ver else ver + 1) F (c.take q), by rw [getG, if_neg hB, if_pos rfl], cs', el, fr, hb', hsz'.trans hszx, fun _ i hi => ?_, fun e => by cases e⟩
          have hi' : i < q := by simp at hi; omega
          obtain ⟨v', a, b⟩ := hcont i (by omega)
          refine ⟨v', by rw [hsame _ (by omega)]; exact a, ?_⟩
          simp only [List.getElem_take]
          exact b.mono hle
        · obtain ⟨ob, hob, hs⟩ := h.obj B z e0
          refine ⟨ob, by rw [getG, if_neg hB, if_neg hBA]; exact hob, ?_⟩
          by_cases hblk : z.block = x.block
          · rcases h.share B z A x e0 hx hblk with e1 | ⟨F', e1, e2⟩
            · exact (hBA e1).elim
            · rw [St.fam_eq hA] at e2; cases e2
              cases ob with
              | iter s pos => simp [St.fam, hob] at e1
              | map es cl => simp [St.fam, hob] at e1
              | cells own v F2 c2 =>
                rw [St.fam_eq hob] at e1; cases e1
                obtain ⟨cs2, el2, fr2, k1, k2, k3, k4⟩ := hs
                rw [hblk, hb] at k1; cases k1
                refine ⟨cs', el, fr, by rw [hblk]; exact hb', hsz'.trans k2, fun hr i hi => ?_, k4⟩
                obtain ⟨hr1, hr2⟩ := app_rd h.wf hid hA hBA hob hr
                obtain ⟨q1, q2, q3, q4⟩ := hr2 rfl
                subst q1 q3
                obtain ⟨v', a, b⟩ := k3 hr1 i hi
                have ho := h.order B z A x F v c2 true c e0 hx hblk hBA q2 hob hA
                exact ⟨v', by rw [hsame _ (by omega)]; exact a, b.mono hle⟩
          · refine OSays.mono hle (hold _ (h.blk B z e0) hblk) ?_ hs
            intro own ver2 fam2 c2 eo hr
            subst eo
            exact (app_rd h.wf hid hA hBA hob hr).1
    · intro B z B' z' e e' eb
      have key : ∀ B z, g B = some z → y.block = z.block → σ.fam B = some F := fun B z e eb => by
        rcases hplace with ⟨p1, _⟩ | p
        · rcases h.share A x B z hx e (p1.symm.trans eb) with k | ⟨F', k1, k2⟩
          · subst k; exact St.fam_eq hA
          · rw [St.fam_eq hA] at k1; cases k1; exact k2
        · have := h.blk B z e; omega
      have famId : (appSt σ A id ver F c off q nc).fam id = some F := by unfold St.fam; rw [getG, if_pos rfl]
      by_cases hB : B = id
      · subst hB; rw [Gam.add_self] at e; cases e
        by_cases hB' : B' = B
        · exact .inl hB'.symm
        · exact .inr ⟨F, famId, famX _ _ (key _ _ (old B' z' e' hB') eb)⟩
      · by_cases hB' : B' = id
        · subst hB'; rw [Gam.add_self] at e'; cases e'
          exact .inr ⟨F, famX _ _ (key _ _ (old B z e hB) eb.symm), famId⟩
        · rcases h.share B z B' z' (old B z e hB) (old B' z' e' hB') eb with k | ⟨F', k1, k2⟩
          · exact .inl k
          · exact .inr ⟨F', famX _ _ k1, famX _ _ k2⟩
    · intro X z O u F' v c1 own c2 eX eO eb hne hfo hX hO
      rw [appSt_famO] at hfo
      rw [getG] at hX hO
      split at hX
      · cases hX
      · rename_i hXid
        have eX0 := old X z eX hXid
        split at hfo
        · cases hfo
          subst_vars
          rw [Gam.add_self] at eO; cases eO
          rw [if_pos rfl] at hO; cases hO
          rcases hplace with ⟨p1, p2⟩ | p
          · split at hX
            · cases hX
              subst_vars
              rw [hx] at eX0; cases eX0
              simp; omega
            · rename_i hXA
              obtain ⟨q1, q2, q3⟩ := app_owner h.wf hA hX hXA
              have hqc : q = c.length := by
                by_cases e : q = c.length
                · exact e
                · rw [if_neg e] at q3; omega
              rw [if_pos hqc] at hX
              have := h.order X z A x _ ver c1 true c eX0 hx (eb.trans p1) hXA q2 hX hA
              simp only [List.length_append, List.length_drop, List.length_take, p2]
              omega
          · have := h.blk X z eX0; omega
        · rename_i hF'
          split at hX
          · cases hX; exact (hF' rfl).elim
          · split at hO
            · cases hO; exact (hF' rfl).elim
            · split at hO
              · cases hO; exact (hF' rfl).elim
              · rename_i _ hOid _
                exact h.order X z O u F' v c1 own c2 eX0 (old O u eO hOid) eb hne hfo hX hO
  · refine ⟨hle, ?_, ?_, hsz, ?_, ?_, ?_, Nat.le_refl _, hos.1, hos.2.1, hos.2.2⟩
    · intro B z e e0
      by_cases hB : B = id
      · exact hB
      · rw [old B z e hB] at e0; cases e0
    · intro B z e e0
      by_cases hB : B = id
      · subst hB; rw [Gam.add_self] at e; cases e
        rcases hplace with ⟨p1, _⟩ | p
        · exact .inr ⟨A, x, hx, p1.symm, fun ⟨v, f, cc, k, _⟩ => by rw [hA] at k; cases k⟩
        · exact .inl p
      · rw [old B z e hB] at e0; cases e0
    · intro b hb0 hall
      refine hold b hb0 (fun e => ?_)
      obtain ⟨v, f, cc, k, _⟩ := hall A x hx e.symm
      rw [hA] at k; cases k
    · intro B e hn
      rw [getG, if_neg hn, if_neg (fun e2 => by subst e2; rw [hx] at e; cases e)]
    · rintro B ⟨v, f, cc, k, kf⟩
      have h1 : B ≠ id := fun e => by subst e; rw [hid] at k; cases k
      have h2 : B ≠ A := fun e => by subst e; rw [hA] at k; cases k
      have h3 : f ≠ F := fun e => by
        subst e
        have := (app_owner h.wf hA k h2).2.1
        rw [kf] at this; cases this
      refine ⟨by rw [getG, if_neg h1, if_neg h2], v, f, cc, by rw [getG, if_neg h1, if_neg h2]; exact k, by rw [appSt_famO, if_neg h3]; exact kf⟩
end Go.Ev
