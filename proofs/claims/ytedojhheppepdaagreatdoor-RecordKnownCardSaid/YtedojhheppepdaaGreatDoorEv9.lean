/-
  The evaluator's operations, over any program, sixth part: copy, clear, lengths, comparisons with nil, ranges over strings, and the evaluator of one operation with its proof. No condition.
-/
import Derived.Test.YtedojhheppepdaaGreatDoorEv8
namespace Go.Ev
open Go
set_option linter.unusedVariables false
set_option linter.unusedSimpArgs false

/-! ## copy, clear -/
/-- Cells laid into what a slice owns. -/
def layInto (A o : Nat) (nc : List Value) (σ : St) : Option St :=
  match σ.get A with
  | some (.cells true ver F c) => if o + nc.length ≤ c.length ∧ nc.all (·.oneCell') = true then some (σ.set A (.cells true (ver + 1) F (lay c o nc))) else none
  | _ => none
theorem layInto_ok {P : Program} {A o : Nat} {nc nc' : List Value} {σ σ' : St} {g : Gam} {w : World} {x : CA} (h : layInto A o nc σ = some σ') (hr : Rel g σ w) (hx : g A = some x) (hn : LRel g nc nc') :
    ∃ w', (storeCells ⟨x.block, x.base + o, none⟩ nc').run P w = .ok () w' ∧ Rel g σ' w' ∧ Ext (fun _ => False) g g σ σ' w w' := by
  unfold layInto at h
  split at h
  · rename_i ver F c hA
    split at h
    · rename_i hc
      cases h
      obtain ⟨r1, r2, r3⟩ := hr.store (P := P) (o := o) (c := c) hx hA hc.1 hn.1.symm hn.2 (fun v hv => by have := hc.2; rw [List.all_eq_true] at this; exact this v hv)
      exact ⟨_, r1, r2, r3⟩
    · cases h
  · cases h

def opCopy (P : Program) (dT : TypeId) (d s : Value) (σ : St) : Option ARes :=
  match P.underlying dT with
  | some (.slice elem) => match sz? P elem, len? s with
    | some e, some m => match d with
      | .slice none 0 0 => some (.val (.int .i64 0) σ)
      | .slice (some ⟨A, o, none⟩) len _ => if Nat.min m len = 0 then some (.val (.int .i64 0) σ) else match src? e (Nat.min m len) s σ with
        | some nc => match layInto A o nc σ with
          | some σ' => some (.val (.int .i64 (Nat.min m len : Nat)) σ')
          | none => none
        | none => none
      | _ => none
    | _, _ => none
  | _ => none

theorem src?_nil {P : Program} {s s' : Value} {m e : Nat} {g : Gam} {w : World} (h : len? s = some m) (hs : VRel g s s') : (Builtin.firstCells e 0 s').run P w = .ok #[] w := by
  unfold len? at h
  split at h
  · cases h; cases hs <;> simp [Builtin.firstCells, loadCells, loadCellsFrom]
  · cases h; cases hs
    simp only [Builtin.firstCells, Sem.run_pure]
    congr 1
    apply Array.ext'
    simp [ByteArray.data_extract]
  · cases h

theorem opCopy_ok {P : Program} {dT sT ty : TypeId} {d d' s s' : Value} {r : ARes} {σ : St} {g : Gam} {w : World} {id : Nat} (h : opCopy P dT d s σ = some r) (hr : Rel g σ w) (hd : VRel g d d') (hs : VRel g s s') :
    OpOk P g σ w (· = id) (do pure (.value (← Builtin.copy_ #[dT, sT] ty #[d', s']))) r := by
  unfold opCopy at h
  split at h
  · rename_i elem hu
    split at h
    · rename_i e m he hm
      have hl := len?_ok (P := P) w hm hs
      split at h
      · cases h
        cases hd
        refine .val0 hr ?_ (.int _ _)
        have := src?_nil (P := P) (e := e) (w := w) hm hs
        simp [Builtin.copy_, rU w hu, hl, rS w he, this, goInt]
      · rename_i A o len k
        cases hd; rename_i y o' c hy ho hle h0 hk
        split at h
        · rename_i hmin
          cases h
          refine .val0 hr ?_ (.int _ _)
          have := src?_nil (P := P) (e := e) (w := w) hm hs
          have hmin' : Nat.min m len = 0 := hmin
          have hmin2 : m.min len = 0 := hmin
          simp [Builtin.copy_, rU w hu, hl, rS w he, hmin2, this, goInt, storeCells]
        · rename_i hmin
          split at h
          · rename_i nc hnc
            split at h
            · rename_i σ' hlay
              cases h
              have ho := ho (by have : Nat.min m len ≤ len := Nat.min_le_right _ _; omega)
              subst ho
              obtain ⟨e1, nc', e2, e3⟩ := src?_ok (P := P) hnc hr hs
              obtain ⟨w', r1, r2, r3⟩ := layInto_ok (P := P) hlay hr hy e2
              refine .new ?_ (.int _ _) r2 (r3.mono fun _ h => h.elim)
              simp [Builtin.copy_, rU w hu, hl, rS w he, e3 w rfl, r1, goInt]
            · cases h
          · cases h
      · cases h
    · cases h
  · cases h

def opClear (P : Program) (t : TypeId) (x : Value) (σ : St) : Option ARes :=
  match P.underlying t with
  | some (.slice elem) => match x with
    | .slice _ 0 _ => some (.val (.tuple #[]) σ)
    | .slice (some ⟨A, o, none⟩) (n + 1) _ => match sz? P elem with
      | some e => match zcells? P elem e with
        | some z => if z.size = 0 then none else match layInto A o (zrow z ((n + 1) * z.size)).toList σ with
          | some σ' => some (.val (.tuple #[]) σ')
          | none => none
        | none => none
      | none => none
    | _ => none
  | _ => none
theorem opClear_ok {P : Program} {t ty : TypeId} {x x' : Value} {r : ARes} {σ : St} {g : Gam} {w : World} {id : Nat} (h : opClear P t x σ = some r) (hr : Rel g σ w) (hx : VRel g x x') :
    OpOk P g σ w (· = id) (do pure (.value (← Builtin.clear_ #[t] ty #[x']))) r := by
  have tup : ∀ g, VRel g (.tuple #[]) (.tuple #[]) := fun g => .tuple _ _ rfl fun i h => by simp at h
  unfold opClear at h
  split at h
  · rename_i elem hu
    split at h
    · cases h
      cases hx with
      | nilSlice => exact .val0 hr (by simp [Builtin.clear_, rU w hu]) (tup g)
      | slice A o _ k y o' c hy hl ho h0 hk => exact .val0 hr (by simp [Builtin.clear_, rU w hu]) (tup g)
    · rename_i A o n k
      cases hx; rename_i y o' c hy ho hl h0 hk
      have ho := ho (by omega)
      subst ho
      split at h
      · rename_i e he
        split at h
        · rename_i z hz
          obtain ⟨v, h1, h2, h3, h4⟩ := zcells?_spec hz
          split at h
          · cases h
          · rename_i hz0
            split at h
            · rename_i σ' hlay
              cases h
              have hzr := zrow_rel (h4 g) ((n + 1) * z.size) (.inl hz0)
              obtain ⟨w', r1, r2, r3⟩ := layInto_ok (P := P) hlay hr hy (nc' := (zrow z ((n + 1) * z.size)).toList) ⟨rfl, fun j a b => by simpa using hzr.2 j (by simpa using a) (by simpa using a)⟩
              refine .new ?_ (tup g) r2 (r3.mono fun _ h => h.elim)
              have e2 : Builtin.zeroCells v.cells (n + 1) = zrow z ((n + 1) * z.size) := by rw [h2]; rfl
              simp only [Builtin.clear_, Sem.run_bind]
              simp [rU w hu, rZ w h1, e2, r1]
            · cases h
        · cases h
      · cases h
    · cases h
  · cases h

/-! ## len, cap -/
def opLen : Value → Option Value
  | .slice _ n _ => some (.int .i64 n)
  | _ => none
def opCap : Value → Option Value
  | .slice _ _ 0 => some (.int .i64 0)
  | _ => none
theorem opLen_ok {P : Program} {t ty : TypeId} {x x' r : Value} {g : Gam} (w : World) (hu : ∃ e, P.underlying t = some (.slice e)) (h : opLen x = some r) (hx : VRel g x x') : ∃ r', (Builtin.len_ #[t] ty #[x']).run P w = .ok r' w ∧ VRel g r r' := by
  obtain ⟨e, hu⟩ := hu
  unfold opLen at h
  split at h
  · cases h
    cases hx with
    | nilSlice => exact ⟨_, by simp [Builtin.len_, rU w hu, goInt], .int _ _⟩
    | slice A o _ k y o' c hy hl ho h0 hk => exact ⟨_, by simp [Builtin.len_, rU w hu, goInt], .int _ _⟩
  · cases h
theorem opCap_ok {P : Program} {t ty : TypeId} {x x' r : Value} {g : Gam} (w : World) (hu : ∃ e, P.underlying t = some (.slice e)) (h : opCap x = some r) (hx : VRel g x x') : ∃ r', (Builtin.cap_ #[t] ty #[x']).run P w = .ok r' w ∧ VRel g r r' := by
  obtain ⟨e, hu⟩ := hu
  unfold opCap at h
  split at h
  · cases h
    cases hx with
    | nilSlice => exact ⟨_, by simp [Builtin.cap_, rU w hu, goInt], .int _ _⟩
    | slice A o _ k y o' c hy hl ho h0 hk =>
      have := h0 rfl
      subst this
      exact ⟨_, by simp [Builtin.cap_, rU w hu, goInt], .int _ _⟩
  · cases h

/-! ## Comparisons that need no cell -/
/-- x == y where one of them is nil, or both are pointers into one block. -/
def opEq (P : Program) (t : TypeId) (x y : Value) : Option Bool :=
  match P.underlying t with
  | some (.pointer e) => match x, y with
    | .pointer none, .pointer b => some b.isNone
    | .pointer (some _), .pointer none => some false
    | .pointer (some ⟨A, o, none⟩), .pointer (some ⟨B, o', none⟩) => match sz? P e with
      | some (_ + 1) => if A = B then some (o == o') else none
      | _ => none
    | _, _ => none
  | some (.slice _) => match x, y with
    | .slice none _ _, .slice b _ _ => some b.isNone
    | .slice (some _) _ _, .slice none _ _ => some false
    | _, _ => none
  | some (.map _ _) => match x, y with
    | .map none, .map b => some b.isNone
    | .map (some _), .map none => some false
    | _, _ => none
  | some (.func _ _ _) => match x, y with
    | .nilFunc, .func _ _ _ => some false
    | .func _ _ _, .nilFunc => some false
    | _, _ => none
  | some (.interface _) => match x, y with
    | .nilIface, .iface _ _ => some false
    | .iface _ _, .nilIface => some false
    | _, _ => none
  | _ => none

theorem equal_run {P : Program} {t : TypeId} {x y : Value} {d : TypeDesc} (w : World) (hu : P.underlying t = some d) : (Op.equal t x y).run P w = (Op.equalIn 10000 t x y).run P w := rfl
theorem opEq_ok {P : Program} {t : TypeId} {x x' y y' : Value} {b : Bool} {g : Gam} (w : World) (h : opEq P t x y = some b) (hx : VRel g x x') (hy : VRel g y y') :
    (Op.equal t x' y').run P w = .ok b w ∧ ∀ (op : BinOp) (p q : Operand), (eqGuard op t p q x' y').run P w = .ok () w := by
  have guard : (∀ op (p q : Operand), (eqGuard op t p q x' y').run P w = .ok () w) ∨ (x' = .nilIface ∧ y' = .nilIface) ∨ ∃ a c, x' = .agg a ∧ y' = .agg c := by
    by_cases h1 : x' = .nilIface ∧ y' = .nilIface
    · exact .inr (.inl h1)
    · by_cases h2 : ∃ a c, x' = .agg a ∧ y' = .agg c
      · exact .inr (.inr h2)
      · left
        intro op p q
        unfold eqGuard
        by_cases ho : op = .eql ∨ op = .neq
        · rcases ho with rfl | rfl <;> (simp; cases x' <;> cases y' <;> simp_all)
        · cases op <;> simp_all
  unfold opEq at h
  split at h
  · rename_i e hu
    split at h
    · cases h
      cases hx
      rename_i b
      refine ⟨?_, ?_⟩
      · cases hy <;> (rw [equal_run w hu, Op.equalIn]; simp only [Sem.run_bind, rU w hu, Result.andThen_ok]; rfl)
      · rcases guard with k | ⟨k, _⟩ | ⟨a, c, k, _⟩
        · exact k
        · cases k
        · cases k
    · cases h
      cases hx; cases hy
      refine ⟨by (rw [equal_run w hu, Op.equalIn]; simp only [Sem.run_bind, rU w hu, Result.andThen_ok]; rfl), ?_⟩
      rcases guard with k | ⟨k, _⟩ | ⟨a, c, k, _⟩
      · exact k
      · cases k
      · cases k
    · rename_i A o B o'
      split at h
      · rename_i n hn
        split at h
        · subst_vars
          cases h
          cases hx; rename_i z hz
          cases hy; rename_i z2 hz2
          rw [hz] at hz2; cases hz2
          refine ⟨?_, ?_⟩
          · have : ((⟨z.block, z.base + o, none⟩ : Addr) == ⟨z.block, z.base + o', none⟩) = (o == o') := by
              rw [Bool.eq_iff_iff]; simp
            (rw [equal_run w hu, Op.equalIn]; simp only [Sem.run_bind, rU w hu, Result.andThen_ok, rS w hn]; simp [sameAddr, this])
          · rcases guard with k | ⟨k, _⟩ | ⟨a, c, k, _⟩
            · exact k
            · cases k
            · cases k
        · cases h
      · cases h
    · cases h
  · rename_i e hu
    split at h
    · cases h
      cases hx
      refine ⟨?_, ?_⟩
      · cases hy <;> (rw [equal_run w hu, Op.equalIn]; simp only [Sem.run_bind, rU w hu, Result.andThen_ok]; rfl)
      · rcases guard with k | ⟨k, _⟩ | ⟨a, c, k, _⟩
        · exact k
        · cases k
        · cases k
    · cases h
      cases hx; cases hy
      refine ⟨by (rw [equal_run w hu, Op.equalIn]; simp only [Sem.run_bind, rU w hu, Result.andThen_ok]; rfl), ?_⟩
      rcases guard with k | ⟨k, _⟩ | ⟨a, c, k, _⟩
      · exact k
      · cases k
      · cases k
    · cases h
  · rename_i k e hu
    split at h
    · cases h
      cases hx
      refine ⟨?_, ?_⟩
      · cases hy <;> (rw [equal_run w hu, Op.equalIn]; simp only [Sem.run_bind, rU w hu, Result.andThen_ok]; rfl)
      · rcases guard with k | ⟨k, _⟩ | ⟨a, c, k, _⟩
        · exact k
        · cases k
        · cases k
    · cases h
      cases hx; cases hy
      refine ⟨by (rw [equal_run w hu, Op.equalIn]; simp only [Sem.run_bind, rU w hu, Result.andThen_ok]; rfl), ?_⟩
      rcases guard with k | ⟨k, _⟩ | ⟨a, c, k, _⟩
      · exact k
      · cases k
      · cases k
    · cases h
  · rename_i k e q hu
    split at h
    · cases h
      cases hx; cases hy
      refine ⟨by (rw [equal_run w hu, Op.equalIn]; simp only [Sem.run_bind, rU w hu, Result.andThen_ok]; rfl), ?_⟩
      rcases guard with k | ⟨k, _⟩ | ⟨a, c, k, _⟩
      · exact k
      · cases k
      · cases k
    · cases h
      cases hx; cases hy
      refine ⟨by (rw [equal_run w hu, Op.equalIn]; simp only [Sem.run_bind, rU w hu, Result.andThen_ok]; rfl), ?_⟩
      rcases guard with k | ⟨k, _⟩ | ⟨a, c, k, _⟩
      · exact k
      · cases k
      · cases k
    · cases h
  · rename_i ms hu
    split at h
    · cases h
      cases hx; cases hy
      refine ⟨by (rw [equal_run w hu, Op.equalIn]; simp only [Sem.run_bind, rU w hu, Result.andThen_ok]; rfl), ?_⟩
      rcases guard with k | ⟨_, k⟩ | ⟨a, c, k, _⟩
      · exact k
      · cases k
      · cases k
    · cases h
      cases hx; cases hy
      refine ⟨by (rw [equal_run w hu, Op.equalIn]; simp only [Sem.run_bind, rU w hu, Result.andThen_ok]; rfl), ?_⟩
      rcases guard with k | ⟨k, _⟩ | ⟨a, c, k, _⟩
      · exact k
      · cases k
      · cases k
    · cases h
  · cases h
end Go.Ev
