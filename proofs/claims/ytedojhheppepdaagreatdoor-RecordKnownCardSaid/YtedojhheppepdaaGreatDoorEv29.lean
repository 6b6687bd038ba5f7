/-
  The evaluator of code, over any program: what a call with flat arguments does where the listed variables alone are at hand, it does everywhere. No condition.
-/
import Derived.Test.YtedojhheppepdaaGreatDoorEv28
namespace Go.Ev
open Go
set_option linter.unusedVariables false
set_option linter.unusedSimpArgs false

/-- The listed variables lie in the state as listed. -/
def HasGlob (l : List (Nat × List Value)) (σ : St) : Prop := ∀ A x, l.find? (fun x => x.1 == A) = some x → σ.get A = some (.cells false 0 A x.2) ∧ σ.famO A = none
theorem hasGlob_globSt (l : List (Nat × List Value)) (next : Nat) : HasGlob l (globSt l next) := by
  intro A x h
  rw [globSt_get, h]
  exact ⟨rfl, globSt_famO l next A⟩

theorem Rel.same {g : Gam} {σ : St} {w w' : World} (h : Rel g σ w) (hs : w.heap.size ≤ w'.heap.size) (hh : ∀ b, b < w.heap.size → w'.heap[b]? = w.heap[b]?) : Rel g σ w' :=
  ⟨h.wf, fun A x a => Nat.lt_of_lt_of_le (h.blk A x a) hs, fun A x a => let ⟨o, b, c⟩ := h.obj A x a; ⟨o, b, OSays.mono (Gam.le_refl g) (hh _ (h.blk A x a)) (fun _ _ _ _ _ h => h) c⟩, h.share, h.order⟩

theorem SimF.everywhere {P : Program} {l : List (Nat × List Value)} {next : Nat} {f : FuncId} {args : Array Value} {v : Value} {σ0 : St} (hs : SimF P (l.map (·.1)) f args (globSt l next) v σ0) (hn : ∀ x ∈ l, x.1 < next) (hfl : ∀ x ∈ l, ∀ v ∈ x.2, flatV v = true)
    (ha0 : args.toList.all flatV = true) (hv0 : flatV v = true) {σ : St} (hσ : HasGlob l σ) : SimF P (l.map (·.1)) f args σ v σ := by
  intro g w args' hg hr ha
  obtain ⟨g0, hg0⟩ : ∃ g0 : Gam, g0 = fun A => if (l.find? (fun x => x.1 == A)).isSome then g A else none := ⟨_, rfl⟩
  have hin : ∀ A x, g0 A = some x → ∃ y, l.find? (fun x => x.1 == A) = some y ∧ y ∈ l ∧ g A = some x := by
    intro A x h
    rw [hg0] at h
    simp only at h
    split at h
    · rename_i hq
      obtain ⟨y, hy⟩ := Option.isSome_iff_exists.1 hq
      exact ⟨y, hy, List.mem_of_find?_eq_some hy, h⟩
    · cases h
  have hglob : Glob (l.map (·.1)) g0 := by
    intro b hb
    obtain ⟨n, e⟩ := hg b hb
    refine ⟨n, ?_⟩
    have hb2 : b ∈ l.map (·.1) := by simpa using hb
    rw [List.mem_map] at hb2
    obtain ⟨y, hy, rfl⟩ := hb2
    rw [hg0]
    simp only
    rw [if_pos]
    · exact e
    · rw [List.find?_isSome]; exact ⟨y, hy, by simp⟩
  have hbase : ∀ A x, g0 A = some x → x.block = A ∧ x.base = 0 := by
    intro A x h
    obtain ⟨y, h1, h2, h3⟩ := hin A x h
    have hA : y.1 = A := by simpa using List.find?_some h1
    obtain ⟨n, e⟩ := hg A (by
      have : A ∈ l.map (·.1) := by rw [← hA]; exact List.mem_map_of_mem h2
      simpa using this)
    rw [h3] at e; cases e
    exact ⟨rfl, rfl⟩
  have hwf : (globSt l next).Wf := by
    have sp2 : ∀ A o, (globSt l next).get A = some o → ∃ c, (A, c) ∈ l ∧ o = .cells false 0 A c := by
      intro A o h
      rw [globSt_get] at h
      cases hf : l.find? (fun x => x.1 == A) with
      | none => rw [hf] at h; cases h
      | some y =>
        rw [hf] at h
        cases h
        have h1 := List.mem_of_find?_eq_some hf
        have h2 := List.find?_some hf
        obtain ⟨a, c⟩ := y
        have : a = A := by simpa using h2
        subst this
        exact ⟨c, h1, rfl⟩
    refine ⟨fun A o h => ?_, fun A own v F c h => ?_, fun A v F c h => ?_, fun F O h => ?_, fun F O X own v c own' v' c' h => ?_, fun A n h => ?_⟩
    · obtain ⟨c, h1, _⟩ := sp2 A o h; exact hn _ h1
    · obtain ⟨c', h1, h2⟩ := sp2 A _ h; cases h2; exact ⟨_, h⟩
    · obtain ⟨c', h1, h2⟩ := sp2 A _ h; cases h2
    · rw [globSt_famO] at h; cases h
    · rw [globSt_famO] at h; cases h
    · unfold globSt St.hintO at h; cases hp : path A <;> rw [hp] at h <;> cases h
  have hrel : Rel g0 (globSt l next) w := by
    refine ⟨hwf, fun A x h => ?_, fun A x h => ?_, fun A x A' x' h h' e => ?_, fun X x O y F v c own c' _ _ _ _ hF => ?_⟩
    · obtain ⟨y, _, _, h3⟩ := hin A x h; exact hr.blk A x h3
    · obtain ⟨y, h1, h2, h3⟩ := hin A x h
      obtain ⟨s1, s2⟩ := hσ A y h1
      obtain ⟨o, o1, o2⟩ := hr.obj A x h3
      rw [s1] at o1; cases o1
      refine ⟨.cells false 0 A y.2, by rw [globSt_get, h1]; rfl, ?_⟩
      obtain ⟨cs, el, fr, p1, p2, p3, p4⟩ := o2
      refine ⟨cs, el, fr, p1, p2, fun _ i hi => ?_, fun h => by cases h⟩
      obtain ⟨v', q1, q2⟩ := p3 (by simp [St.rd, s2]) i hi
      have hf := hfl y h2 _ (List.getElem_mem hi)
      have := flatV_eq hf q2
      exact ⟨v', q1, by rw [this]; exact flatV_rel hf⟩
    · obtain ⟨e1, _⟩ := hbase A x h
      obtain ⟨e2, _⟩ := hbase A' x' h'
      exact .inl (by omega)
    · rw [globSt_famO] at hF; cases hF
  have hargs : ARel g0 args args' := by
    refine ⟨ha.1, fun i h1 h2 => ?_⟩
    have hf : flatV args[i] = true := List.all_eq_true.1 ha0 _ (by simp)
    have := flatV_eq hf (ha.2 i h1 h2)
    rw [this]; exact flatV_rel hf
  refine (hs g0 w args' hglob hrel hargs).mono ?_
  rintro e w' ⟨v', g', rfl, hv, hr', hx⟩
  have hkeep : ∀ b, b < w.heap.size → w'.heap[b]? = w.heap[b]? := fun b hb => hx.keep b hb fun A x hA _ => by
    obtain ⟨y, h1, _, _⟩ := hin A x hA
    exact ⟨0, A, y.2, by rw [globSt_get, h1]; rfl, globSt_famO l next A⟩
  have hvv := flatV_eq hv0 hv
  refine ⟨v', g, rfl, by rw [hvv]; exact flatV_rel hv0, hr.same hx.size hkeep, ?_⟩
  exact ⟨Gam.le_refl g, fun A x h h' => (by rw [h] at h'; cases h'), fun A x h h' => (by rw [h] at h'; cases h'), hx.size, fun b hb _ => hkeep b hb, fun _ _ _ => rfl, fun _ h => ⟨rfl, h⟩, Nat.le_refl _, hx.os, hx.out, hx.tape⟩

/-- A contract of the library's shelf, on flat values: it holds at every state. -/
theorem SimF.of_below {P : Program} {gl : List Nat} {f : FuncId} {args : Array Value} {v : Value} (h : ∀ w, Calls P f args w fun e w' => e = .returned v ∧ Go.RowKit.Below w.heap.size w w') (ha0 : args.toList.all flatV = true) (hv0 : flatV v = true) (σ : St) : SimF P gl f args σ v σ := by
  intro g w args' hg hr ha
  have he : args' = args := by
    refine Array.ext ha.1.symm fun i h1 h2 => ?_
    have hf : flatV args[i] = true := List.all_eq_true.1 ha0 _ (by simp)
    exact flatV_eq hf (ha.2 i h2 h1)
  subst he
  refine (h w).mono ?_
  rintro e w' ⟨rfl, hb⟩
  refine ⟨v, g, rfl, flatV_rel hv0, hr.same hb.size (fun b hlt => hb.block b hlt), ?_⟩
  exact ⟨Gam.le_refl g, fun A x h h' => (by rw [h] at h'; cases h'), fun A x h h' => (by rw [h] at h'; cases h'), hb.size, fun b hlt _ => hb.block b hlt, fun _ _ _ => rfl, fun _ h => ⟨rfl, h⟩, Nat.le_refl _, hb.os, hb.output, hb.tape⟩
end Go.Ev
