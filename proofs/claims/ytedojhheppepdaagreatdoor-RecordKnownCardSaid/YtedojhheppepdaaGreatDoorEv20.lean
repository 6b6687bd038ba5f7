/-
  The evaluator of code, over any program: from a law without arguments to the row's contract: the package-level variables that a row lists, as blocks that are read alone. No condition.
-/
import Derived.Test.YtedojhheppepdaaGreatDoorEv19
import Derived.LaidLaws
import Derived.LaidSub
import Derived.Handed
import Derived.Below
import Derived.ProofKit
import Derived.Stop.Joined
namespace Go.Ev
open Go
set_option linter.unusedVariables false
set_option linter.unusedSimpArgs false

/-! ## A datum's cells -/
mutual
def untrod (P : Program) : Nat → TypeId → DataW Unit → Option (List Value)
  | 0, _, _ => none
  | f + 1, t, d => match P.underlying t, d with
    | some .bool, .lit (.bool b) => some [.bool b]
    | some (.int k), .lit (.int k' n) => if k' = k then some [.int k n] else none
    | some .string, .lit (.string s) => some [.string ⟨s.toArray⟩]
    | some (.struct fs), .agg ds => untrodFs P f fs.toList ds 0 (P.cellsOf t)
    | some (.array n e), .agg ds => if ds.length = n ∧ P.cellsOf t = n * P.cellsOf e then untrodAr P f e (P.cellsOf e) ds else none
    | _, _ => none
def untrodFs (P : Program) : Nat → List Field → List (DataW Unit) → Nat → Nat → Option (List Value)
  | 0, _, _, _, _ => none
  | f + 1, [], [], off, tot => if off = tot then some [] else none
  | f + 1, x :: fs, d :: ds, off, tot => if x.offset = off then match untrod P f x.type d, untrodFs P f fs ds (off + P.cellsOf x.type) tot with
      | some c, some r => if c.length = P.cellsOf x.type then some (c ++ r) else none
      | _, _ => none
    else none
  | _, _, _, _, _ => none
def untrodAr (P : Program) : Nat → TypeId → Nat → List (DataW Unit) → Option (List Value)
  | 0, _, _, _ => none
  | f + 1, e, s, [] => some []
  | f + 1, e, s, d :: ds => match untrod P f e d, untrodAr P f e s ds with
    | some c, some r => if c.length = s then some (c ++ r) else none
    | _, _ => none
end

theorem mapM_cons_some {α β : Type} {f : α → Option β} {a : α} {l : List α} {xs : List β} (h : (a :: l).mapM f = some xs) : ∃ y ys, xs = y :: ys ∧ f a = some y ∧ l.mapM f = some ys := by
  simp only [List.mapM_cons] at h
  cases hy : f a with
  | none => rw [hy] at h; cases h
  | some y =>
    rw [hy] at h
    cases hl : l.mapM f with
    | none => rw [hl] at h; cases h
    | some ys => rw [hl] at h; cases h; exact ⟨y, ys, rfl, rfl, rfl⟩

theorem untrod_eq {P : Program} {w : World} {sp : Nat → Bool} {held : Bool} : ∀ (f : Nat),
    (∀ (t : TypeId) (d : DataW Unit) (cs' cs : List Value) (fuel : Nat) (p : List MemPlace), untrod P f t d = some cs' → DataW.trod (fun _ => ()) P w 0 sp held fuel t cs = some (d, p) → cs = cs') ∧
    (∀ (fs : List Field) (ds : List (DataW Unit)) (off tot : Nat) (r cs : List Value) (fuel : Nat) (xs : List (DataW Unit × List MemPlace)), untrodFs P f fs ds off tot = some r → cs.length = tot → off ≤ tot →
      (fs.mapM fun g => DataW.trod (fun _ => ()) P w 0 sp held fuel g.type ((cs.drop g.offset).take (P.cellsOf g.type))) = some xs → xs.map (·.1) = ds → cs.drop off = r) ∧
    (∀ (e : TypeId) (s : Nat) (ds : List (DataW Unit)) (k : Nat) (r cs : List Value) (fuel : Nat) (xs : List (DataW Unit × List MemPlace)), untrodAr P f e s ds = some r → cs.length = (k + ds.length) * s →
      ((List.range' k ds.length).mapM fun i => DataW.trod (fun _ => ()) P w 0 sp held fuel e ((cs.drop (i * s)).take s)) = some xs → xs.map (·.1) = ds → cs.drop (k * s) = r)
  | 0 => ⟨fun _ _ _ _ _ _ h => by simp [untrod] at h, fun _ _ _ _ _ _ _ _ h => by simp [untrodFs] at h, fun _ _ _ _ _ _ _ _ h => by simp [untrodAr] at h⟩
  | f + 1 => by
    obtain ⟨ih1, ih2, ih3⟩ := untrod_eq (P := P) (w := w) (sp := sp) (held := held) f
    refine ⟨fun t d cs' cs fuel p h1 h2 => ?_, fun fs ds off tot r cs fuel xs h1 hlen hle h2 h3 => ?_, fun e s ds k r cs fuel xs h1 hlen h2 h3 => ?_⟩
    · cases fuel with
      | zero => simp [DataW.trod] at h2
      | succ fuel =>
        unfold untrod at h1
        unfold DataW.trod at h2
        split at h1
        · rename_i b hu
          rw [hu] at h2
          split at h2 <;> simp_all
        · rename_i k k' n hu
          rw [hu] at h2
          split at h1
          · cases h1
            split at h2 <;> simp_all
          · cases h1
        · rename_i s hu
          rw [hu] at h2
          split at h2 <;> simp_all
          obtain ⟨_, e1, _⟩ := h2
          subst e1
          first
            | exact h1
            | (rw [← h1]; done)
            | (rw [← h1]; simp)
        · rename_i fs ds hu
          rw [hu] at h2
          simp only at h2
          split at h2
          · rename_i hl
            simp only [Option.map_eq_some_iff, Prod.mk.injEq] at h2
            obtain ⟨xs, hx, e1, _⟩ := h2
            have := ih2 _ _ _ _ _ cs fuel xs h1 hl (Nat.zero_le _) hx (by injection e1)
            simpa using this
          · cases h2
        · rename_i n e ds hu
          rw [hu] at h2
          simp only at h2
          split at h1
          · rename_i hc
            split at h2
            · rename_i hl
              simp only [Option.map_eq_some_iff, Prod.mk.injEq] at h2
              obtain ⟨xs, hx, e1, _⟩ := h2
              rw [List.range_eq_range', ← hc.1] at hx
              have := ih3 e (P.cellsOf e) ds 0 _ cs fuel xs h1 (by rw [hl, hc.2, hc.1, Nat.zero_add]) hx (by injection e1)
              simpa using this
            · cases h2
          · cases h1
        · cases h1
    · cases fs with
      | nil =>
        cases ds with
        | nil =>
          simp only [untrodFs] at h1
          split at h1
          · rename_i e1; cases h1; subst e1; rw [List.drop_eq_nil_of_le (by omega)]
          · cases h1
        | cons d ds => simp [untrodFs] at h1
      | cons x fs =>
        cases ds with
        | nil => simp [untrodFs] at h1
        | cons d ds =>
          simp only [untrodFs] at h1
          split at h1
          · rename_i hoff
            split at h1
            · rename_i c r' hc hr
              split at h1
              · rename_i hcl
                cases h1
                obtain ⟨y, ys, e1, e2, e3⟩ := mapM_cons_some h2
                subst e1
                simp only [List.map_cons, List.cons.injEq] at h3
                obtain ⟨y1, y2⟩ := y
                obtain ⟨rfl, h3⟩ := h3
                have q1 := ih1 _ _ _ _ _ _ hc e2
                rw [hoff] at q1
                have hlen2 : (List.take (P.cellsOf x.type) (List.drop off cs)).length = P.cellsOf x.type := by rw [q1]; exact hcl
                simp only [List.length_take, List.length_drop] at hlen2
                have q2 := ih2 fs ds (off + P.cellsOf x.type) tot _ cs fuel ys hr hlen (by omega) e3 h3
                rw [← q1, ← q2, ← List.drop_drop, List.take_append_drop]
              · cases h1
            · cases h1
          · cases h1
    · cases ds with
      | nil =>
        simp only [untrodAr] at h1
        cases h1
        rw [List.drop_eq_nil_of_le (by simp at hlen; omega)]
      | cons d ds =>
        simp only [untrodAr] at h1
        split at h1
        · rename_i c r' hc hr
          split at h1
          · rename_i hcl
            cases h1
            simp only [List.length_cons, List.range'_succ] at h2
            obtain ⟨y, ys, e1, e2, e3⟩ := mapM_cons_some h2
            subst e1
            simp only [List.map_cons, List.cons.injEq] at h3
            obtain ⟨y1, y2⟩ := y
            obtain ⟨rfl, h3⟩ := h3
            have q1 := ih1 _ _ _ _ _ _ hc e2
            have q2 := ih3 e s ds (k + 1) _ cs fuel ys hr (by rw [hlen]; simp [Nat.add_assoc, Nat.add_comm 1]) e3 h3
            rw [← q1, ← q2, Nat.add_mul, Nat.one_mul, ← List.drop_drop, List.take_append_drop]
          · cases h1
        · cases h1

theorem flat_untrod {P : Program} : ∀ (f : Nat),
    (∀ (t : TypeId) (d : DataW Unit) (cs : List Value), untrod P f t d = some cs → ∀ v ∈ cs, flatV v = true) ∧
    (∀ (fs : List Field) (ds : List (DataW Unit)) (off tot : Nat) (cs : List Value), untrodFs P f fs ds off tot = some cs → ∀ v ∈ cs, flatV v = true) ∧
    (∀ (e : TypeId) (s : Nat) (ds : List (DataW Unit)) (cs : List Value), untrodAr P f e s ds = some cs → ∀ v ∈ cs, flatV v = true)
  | 0 => ⟨fun _ _ _ h => by simp [untrod] at h, fun _ _ _ _ _ h => by simp [untrodFs] at h, fun _ _ _ _ h => by simp [untrodAr] at h⟩
  | f + 1 => by
    obtain ⟨ih1, ih2, ih3⟩ := flat_untrod (P := P) f
    refine ⟨fun t d cs h v hv => ?_, fun fs ds off tot cs h v hv => ?_, fun e s ds cs h v hv => ?_⟩
    · unfold untrod at h
      split at h
      · cases h; simp at hv; subst hv; rfl
      · split at h
        · cases h; simp at hv; subst hv; rfl
        · cases h
      · cases h; simp at hv; subst hv; rfl
      · exact ih2 _ _ _ _ _ h v hv
      · split at h
        · exact ih3 _ _ _ _ h v hv
        · cases h
      · cases h
    · cases fs with
      | nil =>
        cases ds with
        | nil => simp only [untrodFs] at h; split at h <;> cases h; cases hv
        | cons d ds => simp [untrodFs] at h
      | cons x fs =>
        cases ds with
        | nil => simp [untrodFs] at h
        | cons d ds =>
          simp only [untrodFs] at h
          split at h
          · split at h
            · rename_i c r hc hr
              split at h
              · cases h
                rcases List.mem_append.1 hv with q | q
                · exact ih1 _ _ _ hc v q
                · exact ih2 _ _ _ _ _ hr v q
              · cases h
            · cases h
          · cases h
    · cases ds with
      | nil => simp only [untrodAr] at h; cases h; cases hv
      | cons d ds =>
        simp only [untrodAr] at h
        split at h
        · rename_i c r hc hr
          split at h
          · cases h
            rcases List.mem_append.1 hv with q | q
            · exact ih1 _ _ _ hc v q
            · exact ih3 _ _ _ _ hr v q
          · cases h
        · cases h

/-! ## The listed variables, as blocks -/
def globOf (P : Program) (f : Nat) (x : String × DataW Unit) : Option (Nat × List Value) :=
  match P.globalNamed x.1 with
  | some g => match (P.globals[g]?).map (·.type) with
    | some t => (untrod P f t x.2).map fun cs => (g, cs)
    | none => none
  | none => none
def globList (P : Program) (f : Nat) (l : List (String × DataW Unit)) : List (Nat × List Value) := l.filterMap (globOf P f)

theorem laid_cells {P : Program} {w : World} : ∀ {l : List (String × DataW Unit)} {ps : List MemPlace}, DataW.LaidVars P w l ps → ∀ x ∈ l, ∃ g t cs fuel p, P.globalNamed x.1 = some g ∧ (P.globals[g]?).map (·.type) = some t ∧ w.var? P x.1 = some cs ∧
    DataW.trod (fun _ => ()) P w 0 (fun _ => true) false fuel t cs.toList = some (x.2, p)
  | [], _, _, x, hx => by cases hx
  | (n, d) :: r, ps, h, x, hx => by
    obtain ⟨g, t, cs, fuel, p, q, h1, h2, h3, h4, h5, _⟩ := h
    cases hx with
    | head => exact ⟨g, t, cs, fuel, p, h1, h2, h3, h4⟩
    | tail _ hx => exact laid_cells h5 x hx

theorem globList_holds {P : Program} {w : World} {f : Nat} {l : List (String × DataW Unit)} (h : laidMet P l w) : ∀ x ∈ globList P f l, (∃ t fr, w.heap[x.1]? = some (.cells x.2.toArray t fr)) ∧ ∀ v ∈ x.2, flatV v = true := by
  intro x hx
  obtain ⟨ps, hv, _⟩ := h
  simp only [globList, List.mem_filterMap] at hx
  obtain ⟨y, hy, e⟩ := hx
  obtain ⟨g, t, cs, fuel, p, h1, h2, h3, h4⟩ := laid_cells hv y hy
  unfold globOf at e
  rw [h1] at e
  simp only [h2] at e
  cases hu : untrod P f t y.2 with
  | none => rw [hu] at e; cases e
  | some c =>
    rw [hu] at e
    simp only [Option.map_some, Option.some.injEq] at e
    subst e
    have := (untrod_eq f).1 _ _ _ _ _ _ hu h4
    refine ⟨?_, (flat_untrod f).1 _ _ _ hu⟩
    unfold World.var? at h3
    rw [h1] at h3
    simp only [Option.bind_some] at h3
    split at h3
    · rename_i cs' ty fr hh
      cases h3
      exact ⟨ty, fr, by rw [hh, ← this]⟩
    · cases h3

def globHeap : List (Nat × List Value) → Tr AObj
  | [] => .nil
  | x :: r => (globHeap r).set (path x.1) (.cells false 0 x.1 x.2)
def globSt (l : List (Nat × List Value)) (next : Nat) : St := { heap := globHeap l, fams := .nil, next := next }
def globGam (l : List (Nat × List Value)) : Gam := fun A => (l.find? (fun x => x.1 == A)).map fun x => ⟨A, 0, x.2.length⟩

theorem globHeap_get (l : List (Nat × List Value)) (A : Nat) : (globHeap l).get (path A) = (l.find? (fun x => x.1 == A)).map fun x => .cells false 0 A x.2 := by
  induction l with
  | nil => rfl
  | cons x r ih =>
    simp only [globHeap, Tr.get_set, List.find?_cons]
    by_cases h : x.1 = A
    · simp [h]
    · rw [if_neg (fun e => h (path_inj e)), ih]
      have : (x.1 == A) = false := by simpa using h
      rw [this]
theorem globSt_get (l : List (Nat × List Value)) (next A : Nat) : (globSt l next).get A = (l.find? (fun x => x.1 == A)).map fun x => .cells false 0 A x.2 := globHeap_get l A
theorem globSt_famO (l : List (Nat × List Value)) (next F : Nat) : (globSt l next).famO F = none := by
  simp only [globSt, St.famO]
  cases path F <;> rfl

theorem globRel {l : List (Nat × List Value)} {next : Nat} {w : World} (hl : ∀ x ∈ l, (∃ t fr, w.heap[x.1]? = some (.cells x.2.toArray t fr)) ∧ ∀ v ∈ x.2, flatV v = true) (hn : ∀ x ∈ l, x.1 < next) :
    Rel (globGam l) (globSt l next) w ∧ Glob (l.map (·.1)) (globGam l) ∧ ∀ A x, globGam l A = some x → (globSt l next).ro A := by
  have sp : ∀ A x, globGam l A = some x → ∃ c, (A, c) ∈ l ∧ x = ⟨A, 0, c.length⟩ ∧ (globSt l next).get A = some (.cells false 0 A c) := by
    intro A x h
    unfold globGam at h
    rw [globSt_get]
    cases hf : l.find? (fun x => x.1 == A) with
    | none => rw [hf] at h; cases h
    | some y =>
      rw [hf] at h
      cases h
      have h1 := List.mem_of_find?_eq_some hf
      have h2 := List.find?_some hf
      obtain ⟨a, c⟩ := y
      have : a = A := by simpa using h2
      subst this
      exact ⟨c, h1, rfl, rfl⟩
  have sp2 : ∀ A o, (globSt l next).get A = some o → ∃ c, (A, c) ∈ l ∧ o = .cells false 0 A c := by
    intro A o h
    rw [globSt_get] at h
    cases hf : l.find? (fun x => x.1 == A) with
    | none => rw [hf] at h; cases h
    | some y =>
      rw [hf] at h
      cases h
      have h1 := List.mem_of_find?_eq_some hf
      have h2 := List.find?_some hf
      obtain ⟨a, c⟩ := y
      have : a = A := by simpa using h2
      subst this
      exact ⟨c, h1, rfl⟩
  refine ⟨⟨⟨fun A o h => ?_, fun A own v F c h => ?_, fun A v F c h => ?_, fun F O h => ?_, fun F O X own v c own' v' c' h => ?_, fun A n h => ?_⟩, fun A x h => ?_, fun A x h => ?_, fun A x A' x' h h' e => ?_, fun X x O y F v c own c' _ _ _ _ hF => ?_⟩, fun b hb => ?_, fun A x h => ?_⟩
  · obtain ⟨c, h1, _⟩ := sp2 A o h; exact hn _ h1
  · obtain ⟨c', h1, h2⟩ := sp2 A _ h; cases h2; exact ⟨_, h⟩
  · obtain ⟨c', h1, h2⟩ := sp2 A _ h; cases h2
  · rw [globSt_famO] at h; cases h
  · rw [globSt_famO] at h; cases h
  · unfold globSt St.hintO at h; cases hp : path A <;> rw [hp] at h <;> cases h
  · obtain ⟨c, h1, rfl, _⟩ := sp A x h
    obtain ⟨⟨t, fr, h2⟩, _⟩ := hl _ h1
    exact (Array.getElem?_eq_some_iff.1 h2).1
  · obtain ⟨c, h1, rfl, h3⟩ := sp A x h
    obtain ⟨⟨t, fr, h2⟩, hf⟩ := hl _ h1
    refine ⟨_, h3, c.toArray, t, fr, h2, by simp, fun _ i hi => ⟨c[i], by simp [hi], flatV_rel (hf _ (List.getElem_mem hi))⟩, fun h => by cases h⟩
  · obtain ⟨c, _, rfl, _⟩ := sp A x h
    obtain ⟨c', _, rfl, _⟩ := sp A' x' h'
    exact .inl e
  · rw [globSt_famO] at hF; cases hF
  · have hb2 : b ∈ l.map (·.1) := by simpa using hb
    rw [List.mem_map] at hb2
    obtain ⟨y, hy, rfl⟩ := hb2
    unfold globGam
    cases hf : l.find? (fun x => x.1 == y.1) with
    | none =>
      have := List.find?_eq_none.1 hf y hy
      simp at this
    | some z => exact ⟨_, rfl⟩
  · obtain ⟨c, _, _, h3⟩ := sp A x h
    exact ⟨0, A, c, h3, globSt_famO l next A⟩

/-- What a law without arguments does, from what the evaluator says of it. -/
theorem closed_calls {P : Program} {f : FuncId} {l : List (Nat × List Value)} {next : Nat} {v : Value} {σ' : St} (hs : SimF P (l.map (·.1)) f #[] (globSt l next) v σ') {w : World}
    (hl : ∀ x ∈ l, (∃ t fr, w.heap[x.1]? = some (.cells x.2.toArray t fr)) ∧ ∀ v ∈ x.2, flatV v = true) (hn : ∀ x ∈ l, x.1 < next) : Calls P f #[] w fun e w' => ∃ v' g, e = .returned v' ∧ VRel g v v' ∧ Go.RowKit.Below w.heap.size w w' := by
  obtain ⟨h1, h2, h3⟩ := globRel (w := w) hl hn
  refine (hs _ w #[] h2 h1 ⟨rfl, fun i h => by simp at h⟩).mono ?_
  rintro e w' ⟨v', g', rfl, hv, hr, hx⟩
  exact ⟨v', g', rfl, hv, ⟨hx.os, hx.tape, hx.out, hx.size, fun k hk => hx.keep k hk fun A x hA _ => h3 A x hA⟩⟩

theorem laidMet_of_noHandle {P : Program} {l : List (String × DataW Unit)} {w : World} (hno : (l.filter fun x => x.2.handleName?.isSome) = []) (h : laidMetH P l w) : laidMet P l w := by
  unfold laidMetH at h
  rw [hno] at h
  exact h
theorem laidMetH_of_noHandle {P : Program} {l : List (String × DataW Unit)} {w : World} (hno : (l.filter fun x => x.2.handleName?.isSome) = []) (h : laidMet P l w) : laidMetH P l w := by
  unfold laidMetH
  rw [hno]
  exact h

open Go.ChangeShapes Go.WideShapes Go.ChangeAt Go.RowKit in
/-- The row's contract, for a law without arguments that tells a bool. -/
theorem closed_contract {C : Checked} {f : FuncId} {fn : Func} {s : ChangeSpec} {tb : TypeId} {os : Os} {H : Type} {enc : TypeId × Value → H} {laid : List (String × DataW Unit)} {l : List (Nat × List Value)} {k next : Nat} {σ' : St}
    (own : ownKnob C.prog.godebug = none) (started : os.Started) (noInit : C.prog.inits.idxOf? f = none) (hfn : C.prog.funcs[f]? = some fn)
    (hp : fn.params = #[]) (hr : fn.resultTypes = #[tb]) (hb : C.prog.underlying tb = some .bool) (hvars : s.vars = []) (hspec : s.fn H [] = { results := [.lit (.bool true)], args := [] })
    (hno : (laid.filter fun x => x.2.handleName?.isSome) = []) (hglob : globList C.prog k laid = l) (hn : ∀ x ∈ l, x.1 < next) (hsim : SimF C.prog (l.map (·.1)) f #[] (globSt l next) (.bool true) σ')
    (witness : ∃ (w : World) (tape : Tape) (i : Input), w.os = os ∧ (w.forCall tape i).Shaped C.prog ∧ i.vars = [] ∧ Input.okWide C.prog (w.forCall tape i) .any w.heap.size f i ∧
      ((s.pre enc C.prog fn [] false (w.forCall tape i).memory i.args ∧ laidMetH C.prog laid (w.forCall tape i).memory) ∧ sizedMet enc C.prog fn (OpenSpec.ofChange s) false (w.forCall tape i).memory i.args) ∧ ({} : Assume).holds C.prog (lone (Frame.enter C.prog f i.args .normal) [] (w.forCall tape i))) :
    ReturnsInHanded {} C os f .any (fun w args => (s.pre enc C.prog fn [] false w args ∧ laidMetH C.prog laid w) ∧ sizedMet enc C.prog fn (OpenSpec.ofChange s) false w args) (s.post enc C.prog fn false true false false) := by
  refine returnsInHanded_of_change_and (X := fun w _ => laidMetH C.prog laid w) (fun _ _ _ hh h => h.of_heap hh) own started noInit hfn witness ?_
  intro W base args ds gs before hval hW _ _ hL _
  have hW' := hW
  obtain ⟨p, q, hA, hV, rfl, hfz, hnd⟩ := hW
  rw [hp] at hA
  rw [hvars] at hV
  have hA2 : DataW.TrodAll enc C.prog W 0 (fun _ => true) true [] args.toList ds p := hA
  have e1 : args.toList = [] ∧ ds = [] := by
    revert hA2
    generalize args.toList = L
    intro hA2
    cases L with
    | nil => cases ds with
      | nil => exact ⟨rfl, rfl⟩
      | cons _ _ => exact hA2.elim
    | cons _ _ => exact hA2.elim
  obtain ⟨e1, rfl⟩ := e1
  obtain rfl : args = #[] := by cases args; simp_all
  have e2 : gs = [] := by
    cases gs with
    | nil => rfl
    | cons _ _ => exact hV.elim
  subst e2
  have hm := laidMet_of_noHandle hno hL
  have hcells : ∀ x ∈ l, (∃ t fr, W.heap[x.1]? = some (.cells x.2.toArray t fr)) ∧ ∀ v ∈ x.2, flatV v = true := by rw [← hglob]; exact globList_holds hm
  refine (closed_calls hsim hcells hn).mono ?_
  rintro e W' ⟨v', g, rfl, hv, bel⟩
  cases hv
  refine ⟨_, rfl, [], [], _, [], [], [], hW', ?_, ?_, ?_, bel.frame _, fun h => by cases h⟩
  · rw [hr]
    have : (s.fn H ([] ++ [])).results = [.lit (.bool true)] := by rw [List.append_nil, hspec]
    rw [this]
    exact trodAll_mk1 (shut_bool hb true)
  · rw [hp]
    have : (s.fn H ([] ++ [])).args = [] := by rw [List.append_nil, hspec]
    rw [this]
    rfl
  · have : (s.fn H ([] ++ [])).vars = [] := by rw [List.append_nil, hspec]
    rw [this, hvars]
    rfl

/-- A world whose listed variables hold what they hold. -/
noncomputable def laidWorld (P : Program) (l : List (Nat × List Value)) (os : Os) : World :=
  let w0 := World.holding P os ⟨#[], #[], []⟩
  { w0 with heap := l.foldl (fun h x => h.modify x.1 fun
      | .cells _ t frozen => .cells x.2.toArray t frozen
      | o => o) w0.heap }
end Go.Ev
