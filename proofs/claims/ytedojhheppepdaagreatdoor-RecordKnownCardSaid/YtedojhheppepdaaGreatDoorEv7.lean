/-
  The evaluator's operations, over any program, fourth part: append, copy, clear. Each abstract operation, and that the model's own does as it says. No condition.
-/
import Derived.Test.YtedojhheppepdaaGreatDoorEv6
namespace Go.Ev
open Go
set_option linter.unusedVariables false
set_option linter.unusedSimpArgs false

/-- Lists that stand alike. -/
def LRel (g : Gam) (l l' : List Value) : Prop := l.length = l'.length ∧ ∀ i (h : i < l.length) (h' : i < l'.length), VRel g l[i] l'[i]
theorem LRel.nil (g : Gam) : LRel g [] [] := ⟨rfl, fun i h => by simp at h⟩
theorem LRel.refl_ints (g : Gam) (l : List Value) (h : ∀ v ∈ l, VRel g v v) : LRel g l l := ⟨rfl, fun i h1 h2 => h _ (List.getElem_mem _)⟩

/-! ## The first cells of a slice or a string -/
def len? : Value → Option Nat
  | .slice _ n _ => some n
  | .string s => some s.size
  | _ => none
def src? (e n : Nat) (x : Value) (σ : St) : Option (List Value) :=
  match x with
  | .slice (some ⟨B, o, none⟩) len _ => if n ≤ len then (if n = 0 then some [] else σ.read? B o (n * e)) else none
  | .slice none 0 0 => if n = 0 then some [] else none
  | .string s => if n ≤ s.size ∧ e = 1 then some ((bytesOf s).take n) else none
  | _ => none
theorem len?_ok {P : Program} {x x' : Value} {n : Nat} {g : Gam} (w : World) (h : len? x = some n) (hx : VRel g x x') : (Builtin.lenOf x').run P w = .ok n w := by
  unfold len? at h
  split at h
  · cases h; cases hx <;> simp [Builtin.lenOf]
  · cases h; cases hx; simp [Builtin.lenOf]
  · cases h
theorem src?_ok {P : Program} {x x' : Value} {e n : Nat} {l : List Value} {g : Gam} {σ : St} {w : World} (h : src? e n x σ = some l) (hr : Rel g σ w) (hx : VRel g x x') :
    l.length = n * e ∧ ∃ l' : List Value, LRel g l l' ∧ ∀ w2 : World, w2.heap = w.heap → (Builtin.firstCells e n x').run P w2 = .ok l'.toArray w2 := by
  unfold src? at h
  split at h
  · cases hx; rename_i B o len k y o' c hy ho hl h0 hk
    split at h
    · split at h
      · subst_vars; cases h
        exact ⟨by simp, [], LRel.nil g, fun w2 _ => by simp [Builtin.firstCells, loadCells, loadCellsFrom]⟩
      · rename_i hle hne
        have ho := ho (by omega)
        subst ho
        obtain ⟨vs, e1, e2, e3, e4⟩ := hr.readW (P := P) hy h
        exact ⟨e2, vs, ⟨by omega, e4⟩, fun w2 hw => by simp [Builtin.firstCells, e3 w2 hw]⟩
    · cases h
  · cases hx
    split at h
    · cases h; subst_vars
      exact ⟨by simp, [], LRel.nil g, fun w2 _ => by simp [Builtin.firstCells]⟩
    · cases h
  · rename_i s
    cases hx
    split at h
    · rename_i hc
      obtain ⟨c1, rfl⟩ := hc
      cases h
      have hds : s.data.size = s.size := rfl
      refine ⟨by simp [bytesOf]; omega, _, LRel.refl_ints g _ (fun v hv => ?_), fun w2 _ => ?_⟩
      · have := List.mem_of_mem_take hv
        simp only [bytesOf, List.mem_map] at this
        obtain ⟨b, _, rfl⟩ := this
        exact .int _ _
      · simp only [Builtin.firstCells, Sem.run_pure]
        congr 1
        apply Array.ext'
        simp [bytesOf, ByteArray.data_extract, List.map_take]
        rfl
    · cases h
  · cases h

/-! ## append -/
theorem growBy_le (L : Nat) : ∀ (r c : Nat), c ≤ L + (L + 768) / 4 → Builtin.growBy L r c ≤ L + (L + 768) / 4 := by
  intro r
  induction r with
  | zero => intro c h; exact h
  | succ r ih =>
    intro c h
    simp only [Builtin.growBy]
    split
    · exact h
    · exact ih _ (by omega)
theorem nextcap_le (need old : Nat) (h : old < need) : Builtin.nextslicecap need old ≤ 2 * need + 1000 := by
  unfold Builtin.nextslicecap
  split
  · omega
  · split
    · omega
    · have := growBy_le need 4 old (by omega); omega

/-- What 'append' takes its new cells from, told in the model's own words: how many elements, and that the cells come in any world of that heap. -/
structure AppSrc (P : Program) (w : World) (xT : TypeId) (elem : TypeId) (i : TypeInfo) (x' : Value) (n : Nat) (nc : List Value) : Prop where
  kind : (((∃ e, P.underlying xT = some (.slice e)) ∨ P.underlying xT = some .string) ∧ (Builtin.lenOf x').run P w = .ok n w ∧ ∀ w2 : World, w2.heap = w.heap → (Builtin.firstCells i.size n x').run P w2 = .ok nc.toArray w2) ∨
    ((∃ k, P.underlying xT = some (.int k)) ∧ (∃ k, x' = .int k (n : Int)) ∧ n ≤ 9223372036854775807 ∧ n * i.bytes ≤ 281474976710656 ∧ ∃ z, (P.info? elem).bind (·.zero) = some z ∧ ((n * i.size = 0 ∧ nc = []) ∨ (n * i.size ≠ 0 ∧ nc.toArray = Builtin.zeroCells z.cells n)))

theorem run_app_room {P : Program} {w : World} {sT xT ty elem : TypeId} {i : TypeInfo} {base : Option Addr} {sLen sCap : Nat} {x' : Value} {n : Nat} {nc : List Value} {w' : World}
    (hu : P.underlying sT = some (.slice elem)) (hi : P.info? elem = some i) (h : AppSrc P w xT elem i x' n nc) (hfit : sLen + n ≤ sCap)
    (hst : match base with | some a => (storeCells (a.add (sLen * i.size)) nc).run P w = .ok () w' | none => w' = w) :
    (Builtin.append_ #[sT, xT] ty #[.slice base sLen sCap, x']).run P w = .ok (.slice base (sLen + n) sCap) w' := by
  have hs : sz? P elem = some i.size := by simp [sz?, hi]
  have fin : Sem.run P (match base with
      | some a => (fun a => Value.slice base (sLen + n) sCap) <$> storeCells (a.add (sLen * i.size)) nc
      | x => pure (Value.slice base (sLen + n) sCap)) w = .ok (.slice base (sLen + n) sCap) w' := by
    cases base with
    | none => subst hst; rfl
    | some a => simp only [Sem.run_map, hst, Result.andThen_ok]
  rcases h.kind with ⟨hux, hl, hf⟩ | ⟨⟨k, hux⟩, ⟨k2, rfl⟩, h63, h48, z, hz, hnc⟩
  · rcases hux with ⟨e, hux⟩ | hux
    all_goals
      simp [Builtin.append_, rU w hu, rS w hs, rU w hux, hl, hfit, hf w rfl]
      exact fin
  · have hw := wrap_id h63
    have h1 : ¬ ((n : Int) < 0) := by omega
    have h2 : ¬ (281474976710656 < (n : Int) * (i.bytes : Int)) := by rw [← Int.natCast_mul]; omega
    rcases hnc with ⟨h0, rfl⟩ | ⟨h0, hnc⟩
    · simp [Builtin.append_, rU w hu, rS w hs, rU w hux, asInt, asIntOf, hw, h1, rT w hi, h2, hfit, h0]
      exact fin
    · have e : Builtin.zeroCells z.cells n = nc.toArray := hnc.symm
      simp [Builtin.append_, rU w hu, rS w hs, rU w hux, asInt, asIntOf, hw, h1, rT w hi, h2, hfit, h0, rZ w hz, e]
      exact fin

theorem run_app_grow {P : Program} {w : World} {sT xT ty elem : TypeId} {i : TypeInfo} {base : Option Addr} {sLen sCap : Nat} {x' z : Value} {n : Nat} {nc oc : List Value}
    (hu : P.underlying sT = some (.slice elem)) (hi : P.info? elem = some i) (hz : (P.info? elem).bind (·.zero) = some z) (h : AppSrc P w xT elem i x' n nc) (hfit : ¬ sLen + n ≤ sCap)
    (ho : ∀ w2 : World, w2.heap = w.heap → (Builtin.firstCells i.size sLen (.slice base sLen sCap)).run P w2 = .ok oc.toArray w2)
    (hb : sLen + n ≤ 9223372036854775807) (hn : (2 * (sLen + n) + 1000) * i.bytes ≤ 281474976710656) :
    ∃ cap, sLen + n ≤ cap ∧ (Builtin.append_ #[sT, xT] ty #[.slice base sLen sCap, x']).run P w =
      .ok (.slice (some ⟨w.heap.size, 0, none⟩) (sLen + n) cap) (newW (drawW w) (.cells (oc.toArray ++ (nc.toArray ++ Builtin.zeroCells z.cells (cap - (sLen + n)))) elem)) := by
  have hs : sz? P elem = some i.size := by simp [sz?, hi]
  have hq : (Question.appendCap (sLen + n) sCap elem).forced = false := rfl
  have hb' : ¬ 9223372036854775807 < (sLen : Int) + (n : Int) := by omega
  have hn' : ¬ 281474976710656 < Builtin.nextslicecap (sLen + n) sCap * i.bytes := by
    have h1 := Nat.mul_le_mul_right i.bytes (nextcap_le (sLen + n) sCap (by omega))
    omega
  have hdr : w.drew = drawW w := rfl
  have hds : (drawW w).heap.size = w.heap.size := rfl
  refine ⟨(Question.appendCap (sLen + n) sCap elem).cut (w.tape w.drawn (.appendCap (sLen + n) sCap elem)), by simp only [Question.cut]; omega, ?_⟩
  rcases h.kind with ⟨hux, hl, hf⟩ | ⟨⟨k, hux⟩, ⟨k2, rfl⟩, h63, h48, z2, hz2, hnc⟩
  · rcases hux with ⟨e, hux⟩ | hux
    all_goals
      simp [Builtin.append_, rU w hu, rS w hs, rU w hux, hl, hfit, hb', hn', rT _ hi, hq, ho (drawW w) rfl, hf (drawW w) rfl, rZ _ hz, newRow_run, hdr, hds]
  · have hw := wrap_id h63
    have h1 : ¬ ((n : Int) < 0) := by omega
    have h2 : ¬ (281474976710656 < (n : Int) * (i.bytes : Int)) := by rw [← Int.natCast_mul]; omega
    rw [hz] at hz2
    cases hz2
    rcases hnc with ⟨h0, rfl⟩ | ⟨h0, hnc⟩
    · simp [Builtin.append_, rU w hu, rS w hs, rU w hux, asInt, asIntOf, hw, h1, h2, hfit, hb', hn', rT _ hi, hq, ho (drawW w) rfl, h0, rZ _ hz, newRow_run, hdr, hds]
    · have e : Builtin.zeroCells z.cells n = nc.toArray := hnc.symm
      simp [Builtin.append_, rU w hu, rS w hs, rU w hux, asInt, asIntOf, hw, h1, h2, hfit, hb', hn', rT _ hi, hq, ho (drawW w) rfl, h0, rZ _ hz, newRow_run, hdr, hds, e]
end Go.Ev
