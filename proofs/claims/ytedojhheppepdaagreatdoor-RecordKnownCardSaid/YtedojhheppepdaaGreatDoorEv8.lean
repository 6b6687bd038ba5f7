/-
  The evaluator's operations, over any program, fifth part: append, copy, clear as abstract operations, and that the model's own do as they say. No condition.
-/
import Derived.Test.YtedojhheppepdaaGreatDoorEv7
namespace Go.Ev
open Go
set_option linter.unusedVariables false
set_option linter.unusedSimpArgs false

def appSrc (P : Program) (xT : TypeId) (i : TypeInfo) (z : Array Value) (x : Value) (σ : St) : Option (Nat × List Value) :=
  match P.underlying xT with
  | some (.slice _) => match len? x with
    | some n => (src? i.size n x σ).map (n, ·)
    | none => none
  | some .string => match len? x with
    | some n => (src? i.size n x σ).map (n, ·)
    | none => none
  | some (.int _) => match x with
    | .int _ (.ofNat n) => if n ≤ 9223372036854775807 ∧ n * i.bytes ≤ 281474976710656 then some (n, if n * i.size = 0 then [] else (zrow z (n * i.size)).toList) else none
    | _ => none
  | _ => none

theorem appSrc_ok {P : Program} {xT elem : TypeId} {i : TypeInfo} {z : Array Value} {x x' : Value} {σ : St} {n : Nat} {nc : List Value} {g : Gam} {w : World} (h : appSrc P xT i z x σ = some (n, nc))
    (hz : zcells? P elem i.size = some z) (hr : Rel g σ w) (hx : VRel g x x') : nc.length = n * i.size ∧ ∃ nc', LRel g nc nc' ∧ AppSrc P w xT elem i x' n nc' := by
  have plain : ∀ {d : TypeDesc} (_ : P.underlying xT = some d) (_ : (∃ e, P.underlying xT = some (.slice e)) ∨ P.underlying xT = some .string),
      (match len? x with | some n => (src? i.size n x σ).map (n, ·) | none => none) = some (n, nc) → nc.length = n * i.size ∧ ∃ nc', LRel g nc nc' ∧ AppSrc P w xT elem i x' n nc' := by
    intro d hu hk h
    split at h
    · rename_i m hm
      cases hs : src? i.size m x σ with
      | none => rw [hs] at h; cases h
      | some l =>
        rw [hs] at h
        simp only [Option.map_some, Option.some.injEq, Prod.mk.injEq] at h
        obtain ⟨rfl, rfl⟩ := h
        obtain ⟨e1, l', e2, e3⟩ := src?_ok (P := P) hs hr hx
        exact ⟨e1, l', e2, ⟨.inl ⟨hk, len?_ok w hm hx, e3⟩⟩⟩
    · cases h
  unfold appSrc at h
  split at h
  · rename_i e hu
    exact plain hu (.inl ⟨e, hu⟩) h
  · rename_i hu
    exact plain hu (.inr hu) h
  · rename_i k hu
    split at h
    · rename_i k2 m
      split at h
      · rename_i hc
        simp only [Option.some.injEq, Prod.mk.injEq] at h
        obtain ⟨rfl, rfl⟩ := h
        cases hx
        obtain ⟨v, h1, h2, h3, h4⟩ := zcells?_spec hz
        by_cases h0 : m * i.size = 0
        · rw [if_pos h0]
          exact ⟨by simp [h0], [], LRel.nil g, ⟨.inr ⟨⟨k, hu⟩, ⟨k2, rfl⟩, hc.1, hc.2, v, h1, .inl ⟨h0, rfl⟩⟩⟩⟩
        · rw [if_neg h0]
          have hzr := zrow_rel (h4 g) (m * i.size) (.inl (by rw [h3]; intro e; rw [e] at h0; simp at h0))
          refine ⟨by simp [zrow], (zrow z (m * i.size)).toList, ?_, ⟨.inr ⟨⟨k, hu⟩, ⟨k2, rfl⟩, hc.1, hc.2, v, h1, .inr ⟨h0, ?_⟩⟩⟩⟩
          · exact ⟨rfl, fun j a b => by simpa using hzr.2 j (by simpa using a) (by simpa using a)⟩
          · rw [h2]; simp only [zrow, Builtin.zeroCells, h3, Array.toArray_toList]
      · cases h
    · cases h
  · cases h

def opAppend (P : Program) (sT xT : TypeId) (id : Nat) (s x : Value) (σ : St) : Option ARes :=
  match P.underlying sT with
  | some (.slice elem) => match P.info? elem with
    | some i => match zcells? P elem i.size with
      | some z => match appSrc P xT i z x σ with
        | some (n, nc) => match s with
          | .slice base len k =>
            if n = 0 then some (.val s σ)
            else if len + n ≤ 9223372036854775807 ∧ (2 * (len + n) + 1000) * i.bytes ≤ 281474976710656 then
              match k with
              | 0 => if len = 0 then some (.val (sliceTo id n i.size) (σ.set id (.cells true 0 id nc))) else none
              | k' + 1 => match base with
                | some ⟨A, o, none⟩ => if k' = i.size ∧ nc.all (·.oneCell') = true then match σ.get A with
                    | some (.cells true ver F c) => if o + len * i.size ≤ c.length then some (.val (sliceTo id (len + n) i.size) (appSt σ A id ver F c o (o + len * i.size) nc)) else none
                    | _ => none
                  else none
                | _ => none
            else none
          | _ => none
        | none => none
      | none => none
    | none => none
  | _ => none

theorem zeroCells_size (z : Array Value) (n : Nat) : (Builtin.zeroCells z n).size = n * z.size := by simp [Builtin.zeroCells]

theorem opAppend_ok {P : Program} {sT xT ty : TypeId} {id : Nat} {s s' x x' : Value} {r : ARes} {σ : St} {g : Gam} {w : World} (h : opAppend P sT xT id s x σ = some r) (hr : Rel g σ w) (hid : σ.get id = none) (hlt : id < σ.next)
    (hs : VRel g s s') (hx : VRel g x x') : OpOk P g σ w (· = id) (do pure (.value (← Builtin.append_ #[sT, xT] ty #[s', x']))) r := by
  have gid : g id = none := by
    cases e : g id with
    | none => rfl
    | some x => obtain ⟨o, ho, _⟩ := hr.obj id x e; rw [hid] at ho; cases ho
  unfold opAppend at h
  split at h
  · rename_i elem hu
    split at h
    · rename_i i hi
      split at h
      · rename_i z hz
        obtain ⟨v, hz1, hz2, hz3, hz4⟩ := zcells?_spec hz
        split at h
        · rename_i n nc hsrc
          obtain ⟨hlen, nc', hnc, hsrc'⟩ := appSrc_ok hsrc hz hr hx
          have hlen' : nc'.length = n * i.size := by rw [← hnc.1]; exact hlen
          have fresh : ∀ (c : Nat) (base : Option Addr), (¬ 0 + n ≤ c) → (∀ w2 : World, w2.heap = w.heap → (Builtin.firstCells i.size 0 (.slice base 0 c)).run P w2 = .ok [].toArray w2) → 0 + n ≤ 9223372036854775807 → (2 * (0 + n) + 1000) * i.bytes ≤ 281474976710656 →
              OpOk P g σ w (· = id) (do pure (.value (← Builtin.append_ #[sT, xT] ty #[.slice base 0 c, x']))) (.val (sliceTo id n i.size) (σ.set id (.cells true 0 id nc))) := by
            intro c base hfit ho hb hn
            obtain ⟨cap, hcap, hrun⟩ := run_app_grow (ty := ty) hu hi hz1 hsrc' hfit ho hb hn
            obtain ⟨cs, ecs⟩ : ∃ cs : Array Value, cs = ([].toArray ++ (nc'.toArray ++ Builtin.zeroCells v.cells (cap - (0 + n)))) := ⟨_, rfl⟩
            have hcs : cs.size = cap * i.size := by
              rw [ecs]
              simp only [Array.size_append, List.size_toArray, List.length_nil, zeroCells_size, hz2, hz3, hlen']
              rw [Nat.zero_add, ← Nat.add_mul]; congr 1; omega
            obtain ⟨ra, rb⟩ := (hr.heap (w' := drawW w) rfl).newCells hid hlt nc cs elem (by rw [hcs, hlen]; exact Nat.mul_le_mul_right _ (by omega)) (fun j h1 h2 => by
              have h1' : j < nc'.length := by rw [← hnc.1]; exact h1
              have : cs[j] = nc'[j] := by
                have e : cs[j]? = some nc'[j] := by
                  rw [ecs]
                  simp [List.getElem?_append_left h1', h1']
                  rw [Array.getElem?_append_left (by simpa using h1')]
                  simp [h1']
                rw [Array.getElem?_eq_getElem h2] at e
                exact Option.some.inj e
              rw [this]
              exact hnc.2 j h1 h1')
            have hds : (drawW w).heap.size = w.heap.size := rfl
            rw [hds] at ra rb
            refine .new (by rw [← ecs, Nat.zero_add] at hrun; simp only [Sem.run_bind, hrun, Result.andThen_ok, Sem.run_pure]; rfl) (sliceTo_rel (Gam.add_self g id _) (by omega) (by rw [hcs]; exact Nat.le_refl _)) ra ?_
            exact (Ext.heap (N := (· = id)) (g := g) (σ := σ) (w := w) (w' := drawW w) rfl rfl rfl rfl).trans rb
          split at h
          · rename_i base len k
            split at h
            · cases h
              subst_vars
              have hnil : nc' = [] := List.eq_nil_of_length_eq_zero (by rw [hlen']; simp)
              subst hnil
              have key : ∀ (b : Option Addr) (c : Nat), len ≤ c → (Builtin.append_ #[sT, xT] ty #[.slice b len c, x']).run P w = .ok (.slice b len c) w := fun b c hc =>
                run_app_room (ty := ty) hu hi hsrc' (by omega) (by cases b <;> rfl)
              cases hs with
              | nilSlice => exact .val0 hr (by simp only [Sem.run_bind, key none 0 (Nat.le_refl _), Result.andThen_ok, Sem.run_pure]) .nilSlice
              | slice A o _ _ y o' c hy hl ho h0 hk => exact .val0 hr (by simp only [Sem.run_bind, key _ c hl, Result.andThen_ok, Sem.run_pure]) (.slice A o _ _ y o' c hy hl ho h0 hk)
            · rename_i hn0
              split at h
              · rename_i hbd
                obtain ⟨hb, hn⟩ := hbd
                split at h
                · split at h
                  · cases h
                    subst_vars
                    cases hs with
                    | nilSlice => exact fresh 0 none (by omega) (fun w2 _ => by simp [Builtin.firstCells]) hb hn
                    | slice A o _ _ y o' c hy hl ho h0 hk =>
                      have := h0 rfl
                      subst this
                      exact fresh 0 _ (by omega) (fun w2 _ => by simp [Builtin.firstCells, loadCells, loadCellsFrom]) hb hn
                  · cases h
                · rename_i k'
                  split at h
                  · rename_i A o
                    split at h
                    · rename_i hk1
                      obtain ⟨rfl, hone⟩ := hk1
                      split at h
                      · rename_i ver F c hA
                        split at h
                        · rename_i hq
                          cases h
                          cases hs; rename_i y o' cc hy ho hl h0 hk
                          have hk : o' + cc * i.size ≤ y.size := hk
                          have hone' : ∀ v ∈ nc', v.oneCell' = true := fun v hv => by
                            obtain ⟨j, hj, rfl⟩ := List.getElem_of_mem hv
                            rw [oneCell_rel (hnc.2 j (by rw [hnc.1]; exact hj) hj)]
                            rw [List.all_eq_true] at hone
                            exact hone _ (List.getElem_mem _)
                          obtain ⟨ob, hob, hsays⟩ := hr.obj A y hy
                          rw [hA] at hob; cases hob
                          obtain ⟨cs, el, fr, hblk, hsz, hcont, hfr⟩ := hsays
                          have hcont := hcont rfl
                          have hfr := hfr rfl
                          by_cases hfit : len + n ≤ cc
                          · -- in place
                            have ho := ho (by omega)
                            subst ho
                            have hroom : y.base + o + len * i.size + nc'.length ≤ cs.size := by
                              rw [hlen', hsz]
                              have : (len + n) * i.size ≤ cc * i.size := Nat.mul_le_mul_right _ hfit
                              rw [Nat.add_mul] at this
                              omega
                            have hst : (storeCells ((⟨y.block, y.base + o, none⟩ : Addr).add (len * i.size)) nc').run P w = .ok () (w.setCells y.block (y.base + o + len * i.size) nc') := by
                              rw [add_off]
                              have := run_storeCells_cells (P := P) y.block (y.base + o + len * i.size) nc' 0 w (fun j hj => by
                                  rw [Nat.add_zero, cell?_at hblk, Array.getElem?_eq_getElem (by omega)]; rfl)
                                (fun j hj => by
                                  rw [Nat.add_zero, frozen?_at hblk]
                                  have := hfr (y.base + o + len * i.size + j) (by omega)
                                  by_cases e1 : fr.1 ≤ y.base + o + len * i.size + j
                                  · have e2 : ¬ y.base + o + len * i.size + j < fr.2 := fun e => this ⟨e1, e⟩
                                    simp [e2]
                                  · simp [e1]) hone'
                              simpa using this
                            have hrun := run_app_room (ty := ty) (base := some ⟨y.block, y.base + o, none⟩) hu hi hsrc' hfit hst
                            obtain ⟨r1, r2, r3, r4⟩ := setCells_rest y.block nc' (y.base + o + len * i.size) w
                            obtain ⟨ra, rb⟩ := hr.appCore (w' := w.setCells y.block (y.base + o + len * i.size) nc') (nc := nc) hid hlt hy hA hq (Nat.le_add_right _ _) ⟨y.block, y.base + o, y.size⟩ (by rw [r1]; exact Nat.le_refl _) (by rw [r1]; exact hr.blk A y hy)
                              ⟨_, el, fr, setCells_heap _ _ _ _ _ _ _ hblk, by rw [layA_size]; exact hsz, fun j hj => by
                                have hdl : ((c.take (o + len * i.size)).drop o).length = len * i.size := by simp; omega
                                by_cases hj2 : j < len * i.size
                                · obtain ⟨v', a, b⟩ := hcont (o + j) (by omega)
                                  refine ⟨v', ?_, ?_⟩
                                  · show (layA cs (y.base + o + len * i.size) nc')[y.base + o + j]? = some v'
                                    rw [layA_out _ _ _ _ (.inl (by omega)), Nat.add_assoc]; exact a
                                  · rw [List.getElem_append_left (by omega)]
                                    simpa using b
                                · have hj3 : j - len * i.size < nc'.length := by
                                    rw [List.length_append, hdl] at hj; rw [← hnc.1]; omega
                                  refine ⟨nc'[j - len * i.size], ?_, ?_⟩
                                  · show (layA cs (y.base + o + len * i.size) nc')[y.base + o + j]? = some _
                                    have := layA_in nc' cs (y.base + o + len * i.size) (j - len * i.size) hj3 hroom
                                    rw [show y.base + o + j = y.base + o + len * i.size + (j - len * i.size) by omega]; exact this
                                  · rw [List.getElem_append_right (by omega)]
                                    simp only [hdl]
                                    exact hnc.2 _ _ _, hfr⟩
                              (fun b _ hb2 => setCells_other _ _ _ _ _ hb2)
                              (fun cs2 el2 fr2 h2 => ⟨_, setCells_heap _ _ _ _ _ _ _ h2, layA_size _ _ _, fun j hj => layA_out _ _ _ _ (.inl (by omega))⟩)
                              (.inl ⟨rfl, rfl⟩) ⟨r2, r3, r4⟩
                            refine .new (by simp only [Sem.run_bind, hrun, Result.andThen_ok, Sem.run_pure]; rfl) ?_ ra rb
                            exact .slice id 0 (len + n) (i.size + 1) ⟨y.block, y.base + o, y.size⟩ _ cc (Gam.add_self g id _) hfit (fun _ => rfl) (fun e => by cases e) (by simpa using hk)
                          · -- a new block
                            have hold : ∃ oc : List Value, oc.length = len * i.size ∧ (∀ j (hj : j < len * i.size) (hj' : j < oc.length), ∃ hc : o + j < c.length, VRel g c[o + j] oc[j]) ∧
                                ∀ w2 : World, w2.heap = w.heap → (Builtin.firstCells i.size len (.slice (some ⟨y.block, o', none⟩) len cc)).run P w2 = .ok oc.toArray w2 := by
                              by_cases hl0 : len = 0
                              · subst hl0
                                exact ⟨[], by simp, fun j hj => by simp at hj, fun w2 _ => by simp [Builtin.firstCells, loadCells, loadCellsFrom]⟩
                              · have ho := ho (by omega)
                                subst ho
                                have hrd : σ.read? A o (len * i.size) = some ((c.drop o).take (len * i.size)) := by
                                  simp [St.read?, St.cells?, hA, St.rd_own, sub?, hq]
                                obtain ⟨vs, e1, e2, e3, e4⟩ := hr.readW (P := P) hy hrd
                                refine ⟨vs, e1, fun j hj hj' => ⟨by omega, ?_⟩, fun w2 hw => by simp [Builtin.firstCells, e3 w2 hw]⟩
                                have := e4 j (by omega) hj'
                                simpa using this
                            obtain ⟨oc, ho1, ho2, ho3⟩ := hold
                            obtain ⟨cap, hcap, hrun⟩ := run_app_grow (ty := ty) hu hi hz1 hsrc' hfit ho3 hb hn
                            obtain ⟨ncs, encs⟩ : ∃ ncs : Array Value, ncs = (oc.toArray ++ (nc'.toArray ++ Builtin.zeroCells v.cells (cap - (len + n)))) := ⟨_, rfl⟩
                            have hncs : ncs.size = cap * i.size := by
                              rw [encs]
                              simp only [Array.size_append, List.size_toArray, zeroCells_size, hz2, hz3, hlen', ho1]
                              rw [← Nat.add_mul, ← Nat.add_mul]; congr 1; omega
                            rw [← encs] at hrun
                            have hds : (drawW w).heap = w.heap := rfl
                            have hnew := newW_new (drawW w) (.cells ncs elem)
                            rw [show (drawW w).heap.size = w.heap.size from rfl] at hnew
                            obtain ⟨ra, rb⟩ := hr.appCore (w' := newW (drawW w) (.cells ncs elem)) (nc := nc) hid hlt hy hA hq (Nat.le_add_right _ _) ⟨w.heap.size, 0, ncs.size⟩ (by rw [newW_size, hds]; omega) (show w.heap.size < _ by rw [newW_size, hds]; omega)
                              ⟨ncs, elem, (0, 0), hnew, rfl, fun j hj => by
                                have hdl : ((c.take (o + len * i.size)).drop o).length = len * i.size := by simp; omega
                                simp only [Nat.zero_add]
                                by_cases hj2 : j < len * i.size
                                · have hj3 : j < oc.length := by omega
                                  obtain ⟨hc1, hc2⟩ := ho2 j hj2 hj3
                                  refine ⟨oc[j], ?_, ?_⟩
                                  · rw [encs, Array.getElem?_append_left (by simpa using hj3)]; simp [hj3]
                                  · rw [List.getElem_append_left (by omega)]
                                    simpa using hc2
                                · have hj3 : j - len * i.size < nc'.length := by
                                    rw [List.length_append, hdl] at hj; rw [← hnc.1]; omega
                                  refine ⟨nc'[j - len * i.size], ?_, ?_⟩
                                  · rw [encs, Array.getElem?_append_right (by simp; omega), Array.getElem?_append_left (by simp [ho1]; omega)]
                                    simp [ho1, hj3]
                                  · rw [List.getElem_append_right (by omega)]
                                    simp only [hdl]
                                    exact hnc.2 _ _ _, fun j _ => by simp⟩
                              (fun b hb1 _ => newW_old (drawW w) _ b hb1)
                              (fun cs2 el2 fr2 h2 => ⟨cs2, by rw [newW_old (drawW w) _ _ (hr.blk A y hy)]; exact h2, rfl, fun j _ => rfl⟩)
                              (.inr (Nat.le_refl _)) ⟨rfl, rfl, rfl⟩
                            exact .new (by simp only [Sem.run_bind, hrun, Result.andThen_ok, Sem.run_pure]) (sliceTo_rel (Gam.add_self g id _) hcap (by rw [hncs]; exact Nat.le_refl _)) ra rb
                        · cases h
                      · cases h
                    · cases h
                  · cases h
              · cases h
          · cases h
        · cases h
      · cases h
    · cases h
  · cases h
end Go.Ev
