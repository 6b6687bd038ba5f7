/-
  The evaluator's operations, over any program, second part: what reads, writes or makes memory. Each abstract operation, and that the model's own does as it says. No condition.
-/
import Derived.Test.YtedojhheppepdaaGreatDoorEv4
import Derived.Laws.BytesString
import Derived.Laws.AppendOwn
namespace Go.Ev
open Go
set_option linter.unusedVariables false
set_option linter.unusedSimpArgs false

/-! ## Loads -/
/-- Is a type's value a row of cells, and of how many? -/
def ldInfo (P : Program) (t : TypeId) : Option (Option Nat) :=
  match P.underlying t with
  | some (.struct _) | some (.array _ _) => (sz? P t).map some
  | some _ => some none
  | none => none
theorem ldInfo_agg {P : Program} {t : TypeId} {n : Nat} (w : World) (h : ldInfo P t = some (some n)) : (isAgg t).run P w = .ok true w ∧ (sizeOf t).run P w = .ok n w := by
  unfold ldInfo at h
  split at h
  · rename_i hu
    cases e : sz? P t with
    | none => rw [e] at h; cases h
    | some m => rw [e] at h; cases h; exact ⟨by simp [isAgg, rU w hu], rS w e⟩
  · rename_i hu
    cases e : sz? P t with
    | none => rw [e] at h; cases h
    | some m => rw [e] at h; cases h; exact ⟨by simp [isAgg, rU w hu], rS w e⟩
  · cases h
  · cases h
theorem ldInfo_one {P : Program} {t : TypeId} (w : World) (h : ldInfo P t = some none) : (isAgg t).run P w = .ok false w := by
  unfold ldInfo at h
  split at h
  · cases e : sz? P t <;> rw [e] at h <;> cases h
  · cases e : sz? P t <;> rw [e] at h <;> cases h
  · rename_i d h1 h2 hu
    unfold isAgg
    simp only [Sem.run_bind, rU w hu, Result.andThen_ok]
    cases d <;> first | rfl | (rename_i q; exact (h1 q rfl).elim) | (rename_i q q2; exact (h2 q q2 rfl).elim)
  · cases h

def opLoad (P : Program) (t : TypeId) (v : Value) (σ : St) : Option Value :=
  match v with
  | .pointer (some ⟨A, o, none⟩) => match ldInfo P t with
    | some (some n) => match σ.read? A o n with
      | some l => some (.agg l.toArray)
      | none => none
    | some none => match σ.read? A o 1 with
      | some [x] => some x
      | _ => none
    | none => none
  | _ => none

theorem Rel.read1 {g : Gam} {σ : St} {w : World} (h : Rel g σ w) {A o : Nat} {x : CA} (hx : g A = some x) {v : Value} (hr : σ.read? A o 1 = some [v]) :
    ∃ v', w.cell? ⟨x.block, x.base + o, none⟩ = some v' ∧ VRel g v v' := by
  unfold St.read? at hr
  cases hc : σ.cells? A with
  | none => rw [hc] at hr; cases hr
  | some c =>
    rw [hc] at hr
    simp only [Option.bind_some, sub?] at hr
    split at hr
    · rename_i hle
      obtain ⟨cs, el, fr, h1, h2, h3⟩ := h.cells hx hc
      obtain ⟨v', a, b⟩ := h3 o (by omega)
      refine ⟨v', by rw [cell?_at h1]; exact a, ?_⟩
      have e : (c.drop o).take 1 = [c[o]] := by
        rw [List.drop_eq_getElem_cons (by omega)]; rfl
      rw [e] at hr
      cases hr
      exact b
    · cases hr

theorem opLoad_ok {P : Program} {t : TypeId} {v v' r : Value} {σ : St} {g : Gam} {w : World} (h : opLoad P t v σ = some r) (hr : Rel g σ w) (hv : VRel g v v') :
    ∃ r', (Instr.loadAt t v').run P w = .ok r' w ∧ VRel g r r' := by
  unfold opLoad at h
  split at h
  · cases hv; rename_i A o x hx
    split at h
    · rename_i n hn
      obtain ⟨ha, hs⟩ := ldInfo_agg w hn
      split at h
      · rename_i l hl
        cases h
        obtain ⟨vs, e1, e2, e3, e4⟩ := hr.read (P := P) hx hl
        refine ⟨.agg vs.toArray, by simp [Instr.loadAt, Instr.sureAddr, loadVar, ha, hs, e3], .agg _ _ (by simp; omega) fun i h1 h2 => ?_⟩
        simpa using e4 i (by simpa using h1) (by simpa using h2)
      · cases h
    · rename_i hn
      split at h
      · rename_i y hl
        cases h
        obtain ⟨v', a, b⟩ := hr.read1 hx hl
        exact ⟨v', by simp [Instr.loadAt, Instr.sureAddr, loadVar, ldInfo_one w hn, a], b⟩
      · cases h
    · cases h
  · cases h

/-! ## Stores -/
def opStore (P : Program) (t : TypeId) (a v : Value) (σ : St) : Option St :=
  match a with
  | .pointer (some ⟨A, o, none⟩) => match sz? P t with
    | some n => if v.cells.size = n then match σ.get A with
        | some (.cells true ver F c) => if o + n ≤ c.length && v.cells.toList.all (·.oneCell') then some (σ.set A (.cells true (ver + 1) F (lay c o v.cells.toList))) else none
        | _ => none
      else none
    | none => none
  | _ => none
theorem opStore_ok {P : Program} {t : TypeId} {a a' v v' : Value} {σ σ' : St} {g : Gam} {w : World} (h : opStore P t a v σ = some σ') (hr : Rel g σ w) (ha : VRel g a a') (hv : VRel g v v') :
    ∃ w', (Instr.storeAt t a' v').run P w = .ok () w' ∧ Rel g σ' w' ∧ Ext (fun _ => False) g g σ σ' w w' := by
  unfold opStore at h
  split at h
  · cases ha; rename_i A o x hx
    split at h
    · rename_i n hn
      split at h
      · rename_i hsz
        split at h
        · rename_i ver F c hA
          split at h
          · rename_i hc
            simp only [Bool.and_eq_true, decide_eq_true_eq, List.all_eq_true] at hc
            cases h
            have hcell := hv.cells
            obtain ⟨l1, l2⟩ := hcell.list
            obtain ⟨r1, r2, r3⟩ := hr.store (P := P) (o := o) (c := c) (vs := v.cells.toList) (vs' := v'.cells.toList) hx hA (by rw [Array.length_toList, hsz]; exact hc.1) l1.symm l2 hc.2
            refine ⟨_, ?_, r2, r3⟩
            have e : v'.cells.size = n := by rw [← hcell.1]; exact hsz
            simp [Instr.storeAt, Instr.sureAddr, storeVar, rS w hn, e, r1]
          · cases h
        · cases h
      · cases h
    · cases h
  · cases h

/-! ## New variables -/
theorem newRow_run {P : Program} (w : World) (elem : TypeId) (cs : Array Value) : (newRow elem cs).run P w = .ok ⟨w.heap.size, 0, none⟩ (newW w (.cells cs elem)) := by
  simp [newRow, newW]
theorem flatV_cells {v : Value} (h : flatV v = true) (i : Nat) (hi : i < v.cells.size) (g : Gam) : VRel g v.cells[i] v.cells[i] := (flatV_rel h : VRel g v v).cells.2 i hi hi

def ptrTo (id : Nat) : Value := .pointer (some ⟨id, 0, none⟩)
def opNew (id : Nat) (cs : Array Value) (σ : St) : St := σ.set id (.cells true 0 id cs.toList)
theorem opNew_ok {P : Program} {σ : St} {g : Gam} {w : World} (hr : Rel g σ w) {id : Nat} (hid : σ.get id = none) (hlt : id < σ.next) {cs cs' : Array Value} (hc : ARel g cs cs') (elem : TypeId) :
    ∃ g', (newRow elem cs').run P w = .ok ⟨w.heap.size, 0, none⟩ (newW w (.cells cs' elem)) ∧ VRel g' (ptrTo id) (.pointer (some ⟨w.heap.size, 0, none⟩)) ∧ g' id = some ⟨w.heap.size, 0, cs'.size⟩ ∧
      Rel g' (opNew id cs σ) (newW w (.cells cs' elem)) ∧ Ext (· = id) g g' σ (opNew id cs σ) w (newW w (.cells cs' elem)) := by
  obtain ⟨a, b⟩ := hr.newCells hid hlt cs.toList cs' elem (by simp [hc.1]) (fun i h1 h2 => by simpa using hc.2 i (by simpa using h1) h2)
  exact ⟨_, newRow_run w elem cs', VRel.ptr id 0 _ (Gam.add_self g id _), Gam.add_self g id _, a, b⟩

theorem ARel.refl_flat {g : Gam} {v : Value} (h : flatV v = true) : ARel g v.cells v.cells := (flatV_rel h : VRel g v v).cells

/-! ## Rows built -/
theorem ARel.set {g : Gam} {cs cs' : Array Value} (h : ARel g cs cs') (i : Nat) {v v' : Value} (hv : VRel g v v') : ARel g (cs.setIfInBounds i v) (cs'.setIfInBounds i v') := by
  refine ⟨by simp [h.1], fun j h1 h2 => ?_⟩
  rw [Array.getElem_setIfInBounds (by simpa using h1), Array.getElem_setIfInBounds (by simpa using h2)]
  split
  · exact hv
  · exact h.2 _ _ _
theorem fill_fold {g : Gam} (off : Nat) : ∀ (l l' : List Value) (k : Nat) (cs cs' : Array Value), l.length = l'.length → (∀ i (h : i < l.length) (h' : i < l'.length), VRel g l[i] l'[i]) → ARel g cs cs' →
    ARel g ((l.zipIdx k).foldl (fun cs (p : Value × Nat) => cs.setIfInBounds (off + p.2) p.1) cs) ((l'.zipIdx k).foldl (fun cs (p : Value × Nat) => cs.setIfInBounds (off + p.2) p.1) cs')
  | [], [], _, _, _, _, _, h => h
  | [], _ :: _, _, _, _, h, _, _ => by simp at h
  | _ :: _, [], _, _, _, h, _, _ => by simp at h
  | v :: l, v' :: l', k, cs, cs', hl, hv, hc => by
    simp only [List.zipIdx_cons, List.foldl_cons]
    exact fill_fold off l l' (k + 1) _ _ (by simpa using hl) (fun i h1 h2 => hv (i + 1) (Nat.succ_lt_succ h1) (Nat.succ_lt_succ h2)) (hc.set _ (hv 0 (Nat.succ_pos _) (Nat.succ_pos _)))

theorem fill_ok {g : Gam} {place : Nat → Option (Nat × Nat)} : ∀ (ps ps' : List (Nat × Value)) (cs cs' r : Array Value), Instr.fill place cs ps = some r → ARel g cs cs' →
    ps.length = ps'.length → (∀ i (h : i < ps.length) (h' : i < ps'.length), ps[i].1 = ps'[i].1 ∧ VRel g ps[i].2 ps'[i].2) → ∃ r', Instr.fill place cs' ps' = some r' ∧ ARel g r r'
  | [], [], cs, cs', r, h, hc, _, _ => by simp only [Instr.fill] at h ⊢; cases h; exact ⟨_, rfl, hc⟩
  | [], _ :: _, _, _, _, _, _, h, _ => by simp at h
  | _ :: _, [], _, _, _, _, _, h, _ => by simp at h
  | (i, v) :: ps, (i', v') :: ps', cs, cs', r, h, hc, hl, hp => by
    obtain ⟨e, hv⟩ := hp 0 (by simp) (by simp)
    simp only [List.getElem_cons_zero] at e hv
    subst e
    simp only [Instr.fill] at h ⊢
    cases e1 : place i with
    | none => rw [e1] at h; cases h
    | some p =>
      obtain ⟨off, size⟩ := p
      rw [e1] at h
      simp only at h ⊢
      have hcell := hv.cells
      split at h
      · cases h
      · rename_i hn
        rw [← hcell.1, ← hc.1, if_neg hn]
        obtain ⟨l1, l2⟩ := hcell.list
        refine fill_ok ps ps' _ _ r h ?_ (by simpa using hl) (fun j h1 h2 => hp (j + 1) (Nat.succ_lt_succ h1) (Nat.succ_lt_succ h2))
        have := fill_fold (g := g) off v.cells.toList v'.cells.toList 0 cs cs' l1 l2 hc
        rw [← Array.foldl_toList, ← Array.foldl_toList, Array.toList_zipIdx, Array.toList_zipIdx]
        exact this

def places? (P : Program) (t : TypeId) : Option (Nat → Option (Nat × Nat)) :=
  match P.underlying t with
  | some (.struct fields) => match pureRun P (fields.mapM fun f => do pure (f.offset, ← sizeOf f.type)) with
    | some ps => some (ps[·]?)
    | none => none
  | some (.array _ elem) => match sz? P elem with
    | some n => some fun i => some (i * n, n)
    | none => none
  | _ => none
def opBuild (P : Program) (t : TypeId) (parts : Array (Nat × Value)) : Option Value :=
  match zero? P t, places? P t with
  | some z, some pl => match Instr.fill pl z.cells parts.toList with
    | some cells => some (.agg cells)
    | none => none
  | _, _ => none
theorem opBuild_ok {P : Program} {t : TypeId} {ps ps' : Array (Nat × Value)} {r : Value} {g : Gam} (w : World) (h : opBuild P t ps = some r) (hs : ps.size = ps'.size)
    (hp : ∀ i (h : i < ps.size) (h' : i < ps'.size), ps[i].1 = ps'[i].1 ∧ VRel g ps[i].2 ps'[i].2) : ∃ r', (Instr.build t ps').run P w = .ok r' w ∧ VRel g r r' := by
  unfold opBuild at h
  split at h
  · rename_i z pl hz hpl
    obtain ⟨hz1, hz2⟩ := zero?_spec hz
    split at h
    · rename_i cells hf
      cases h
      obtain ⟨r', f', hr'⟩ := fill_ok ps.toList ps'.toList z.cells z.cells cells hf (ARel.refl_flat hz2) (by simpa using hs) (fun i h1 h2 => by simpa using hp i (by simpa using h1) (by simpa using h2))
      refine ⟨.agg r', ?_, .agg _ _ hr'.1 hr'.2⟩
      unfold places? at hpl
      split at hpl
      · rename_i fields hu
        split at hpl
        · rename_i pl2 hpr
          cases hpl
          have := pureRun_run hpr w
          simp only [Instr.build, Sem.run_bind, rZ w hz1, rU w hu, Result.andThen_ok]
          rw [this]
          simp [f']
        · cases hpl
      · rename_i n elem hu
        split at hpl
        · rename_i m hm
          cases hpl
          simp [Instr.build, rZ w hz1, rU w hu, rS w hm, f']
        · cases hpl
      · cases hpl
    · cases h
  · cases h

def zrow (z : Array Value) (n : Nat) : Array Value := (Array.range n).map (z[· % z.size]!)
theorem zrow_rel {g : Gam} {z : Array Value} (h : ARel g z z) (n : Nat) (hz : z.size ≠ 0 ∨ n = 0) : ARel g (zrow z n) (zrow z n) := by
  refine ⟨rfl, fun i h1 _ => ?_⟩
  have hn : i < n := by simpa [zrow] using h1
  have hzs : 0 < z.size := by omega
  have hm : i % z.size < z.size := Nat.mod_lt _ hzs
  have e : (zrow z n)[i] = z[i % z.size] := by
    simp [zrow, hm]
  rw [e]
  exact h.2 _ hm hm

/-- A type's zero cells, as many as it has. -/
def zcells? (P : Program) (t : TypeId) (n : Nat) : Option (Array Value) :=
  match zero? P t with
  | some z => if z.cells.size = n then some z.cells else none
  | none => none
theorem zcells?_spec {P : Program} {t : TypeId} {n : Nat} {z : Array Value} (h : zcells? P t n = some z) : ∃ v, (P.info? t).bind (·.zero) = some v ∧ v.cells = z ∧ z.size = n ∧ ∀ g, ARel g z z := by
  unfold zcells? at h
  split at h
  · rename_i v hv
    obtain ⟨h1, h2⟩ := zero?_spec hv
    split at h
    · cases h; exact ⟨v, h1, rfl, by assumption, fun g => ARel.refl_flat h2⟩
    · cases h
  · cases h

def sliceTo (id n e : Nat) : Value := .slice (some ⟨id, 0, none⟩) n (e + 1)
theorem sliceTo_rel {g : Gam} {id n e B sz c : Nat} (h : g id = some ⟨B, 0, sz⟩) (hl : n ≤ c) (hs : c * e ≤ sz) : VRel g (sliceTo id n e) (.slice (some ⟨B, 0, none⟩) n c) :=
  .slice id 0 n (e + 1) ⟨B, 0, sz⟩ 0 c h hl (fun _ => rfl) (fun e => by cases e) (by simpa using hs)

def opBuildSlice (P : Program) (t : TypeId) (len id : Nat) (parts : Array (Nat × Value)) (σ : St) : Option ARes :=
  match P.underlying t with
  | some (.slice elem) => match sz? P elem with
    | some n => if len * n ≤ 16777216 then match (if len * n = 0 then some #[] else zcells? P elem n) with
        | some z => match Instr.fill (fun i => some (i * n, n)) (zrow z (len * n)) parts.toList with
          | some cells => if cells.size = len * n then some (.val (sliceTo id len n) (opNew id cells σ)) else none
          | none => none
        | none => none
      else none
    | none => none
  | _ => none
theorem opBuildSlice_ok {P : Program} {t : TypeId} {len id : Nat} {ps ps' : Array (Nat × Value)} {r : ARes} {σ : St} {g : Gam} {w : World} (h : opBuildSlice P t len id ps σ = some r) (hr : Rel g σ w) (hid : σ.get id = none) (hlt : id < σ.next)
    (hs : ps.size = ps'.size) (hp : ∀ i (h : i < ps.size) (h' : i < ps'.size), ps[i].1 = ps'[i].1 ∧ VRel g ps[i].2 ps'[i].2) :
    OpOk P g σ w (· = id) (do pure (.value (← Instr.buildSlice t len ps'))) r := by
  unfold opBuildSlice at h
  split at h
  · rename_i elem hu
    split at h
    · rename_i n hn
      split at h
      · rename_i hle
        split at h
        · rename_i z hz
          split at h
          · rename_i cells hf
            split at h
            · rename_i hcs
              cases h
              have hzr : ARel g (zrow z (len * n)) (zrow z (len * n)) := by
                split at hz
                · cases hz; exact zrow_rel ⟨rfl, fun i h => by simp at h⟩ _ (.inr (by assumption))
                · rename_i hne
                  obtain ⟨v, h1, h2, h3, h4⟩ := zcells?_spec hz
                  exact zrow_rel (h4 g) _ (.inl (by rw [h3]; intro e; subst e; simp at hne))
              obtain ⟨r', f', hr'⟩ := fill_ok ps.toList ps'.toList _ _ cells hf hzr (by simpa using hs) (fun i h1 h2 => by simpa using hp i (by simpa using h1) (by simpa using h2))
              obtain ⟨g', e1, e2, e3, e4, e5⟩ := opNew_ok (P := P) hr hid hlt hr' elem
              refine ⟨_, _, g', _, ?_, .inl rfl, sliceTo_rel e3 (Nat.le_refl _) (by rw [← hr'.1, hcs]; exact Nat.le_refl _), e4, e5⟩
              have hgt : ¬ len * n > 2 ^ 24 := by omega
              have f'' : Instr.fill (fun i => some (i * n, n)) (Array.map (fun x => z[x % z.size]!) (Array.range (len * n))) ps'.toList = some r' := f'
              by_cases e0 : len * n = 0
              · rw [if_pos e0] at hz
                cases hz
                simp only [Instr.buildSlice, Sem.run_bind, rU w hu, Result.andThen_ok, rS w hn, if_neg hgt, if_pos e0, Sem.run_pure, f'', e1]
              · rw [if_neg e0] at hz
                obtain ⟨v, h1, h2, h3, h4⟩ := zcells?_spec hz
                simp only [Instr.buildSlice, Sem.run_bind, rU w hu, Result.andThen_ok, rS w hn, if_neg hgt, if_neg e0, rZ w h1, h2, Sem.run_pure, f'', e1]
            · cases h
          · cases h
        · cases h
      · cases h
    · cases h
  · cases h
end Go.Ev
