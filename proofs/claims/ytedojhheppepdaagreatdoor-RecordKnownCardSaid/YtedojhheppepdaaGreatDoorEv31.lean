/-
  The evaluator of code, over any program: a law without arguments, run in two parts: behind the first part the slots that the second one looks at hold plain values, and nothing else is kept. No condition.
-/
import Derived.Test.YtedojhheppepdaaGreatDoorEv30
namespace Go.Ev
open Go
set_option linter.unusedVariables false
set_option linter.unusedSimpArgs false

/-- The first statements of a row (one and n more), and the rest. -/
def takeC : Nat → Code → Code
  | 0, .seq a _ => a
  | n + 1, .seq a b => .seq a (takeC n b)
  | _, c => c
def dropC : Nat → Code → Code
  | 0, .seq _ b => b
  | n + 1, .seq _ b => dropC n b
  | _, _ => .skip

def seqs : Nat → Code → Bool
  | 0, .seq _ _ => true
  | n + 1, .seq _ b => seqs n b
  | _, _ => false
theorem seqs_seq : ∀ {n : Nat} {c : Code}, seqs n c = true → ∃ a b, c = .seq a b
  | n, c, h => by cases n <;> cases c <;> first | exact ⟨_, _, rfl⟩ | cases h
section
variable {P : Program} {gl : List Nat} {K : List Nat} {N : Nat}
theorem xsplit {call : KF} (hc : call.ok P gl) (hm : P.follows .mixedOrders = true) {draw : DrawK} (hd : DrawKOk P gl draw) (lf : Nat) : ∀ (n : Nat) (c : Code) (X : XCode), comp P gl N K (takeC n c) = some X → (hasDraw c = true → K = List.range N) → seqs n c = true →
    ∀ (env : XEnv) (σ : St) (g : Gam) (w : World) (a : Act) (k : Ex → XEnv → St → R) (r : Value × St) (Q : Exit → Act → World → Prop), Glob gl g → Rel g σ w → VarRel K N g env a → xcode P call draw lf X env σ k = some r →
    (∀ env' σ' a' w' g', k .normal env' σ' = some r → Rel g' σ' w' → VarRel K N g' env' a' → Ext (fun A => σ.next ≤ A) g g' σ σ' w w' → (dropC n c).wp P Q a' w') →
    (∀ ex env' σ' a' w' g', ex ≠ .normal → k ex env' σ' = some r → Rel g' σ' w' → VarRel K N g' env' a' → Ext (fun A => σ.next ≤ A) g g' σ σ' w w' → Q ex.to a' w') → c.wp P Q a w
  | 0, c, X, h, hK, hseq, env, σ, g, w, a, k, r, Q, hg, hr, hv, he, hk, hk2 => by
    obtain ⟨c1, c2, rfl⟩ := seqs_seq hseq
    refine wp_seq (xcode_ok hc hm hd lf c1 X h (fun hh => hK (by simp [hasDraw, hh])) env σ g w a _ r _ hg hr hv he fun ex env' σ' a' w' g' q1 q2 q3 q4 => ?_)
    cases ex with
    | normal => exact hk env' σ' a' w' g' q1 q2 q3 q4
    | exit id => exact hk2 (.exit id) env' σ' a' w' g' (by intro h; cases h) q1 q2 q3 q4
    | ret => exact hk2 .ret env' σ' a' w' g' (by intro h; cases h) q1 q2 q3 q4
  | n + 1, c, X, h, hK, hseq, env, σ, g, w, a, k, r, Q, hg, hr, hv, he, hk, hk2 => by
    obtain ⟨c1, c2, rfl⟩ := seqs_seq hseq
    have h : comp P gl N K (.seq c1 (takeC n c2)) = some X := h
    simp only [comp] at h
    split at h
    · rename_i X1 X2 h1 h2
      cases h
      have he : xcode P call draw lf X1 env σ (fun ex env σ => Ex.casesOn ex (xcode P call draw lf X2 env σ k) (fun id => k (.exit id) env σ) (k .ret env σ)) = some r := he
      refine wp_seq (xcode_ok hc hm hd lf c1 X1 h1 (fun hh => hK (by simp [hasDraw, hh])) env σ g w a _ r _ hg hr hv he fun ex env' σ' a' w' g' q1 q2 q3 q4 => ?_)
      cases ex with
      | normal =>
        exact xsplit hc hm hd lf n c2 X2 h2 (fun hh => hK (by simp [hasDraw, hh])) hseq env' σ' g' w' a' k r Q (hg.mono q4.le) q2 q3 q1
          (fun env2 σ2 a2 w2 g2 p1 p2 p3 p4 => hk env2 σ2 a2 w2 g2 p1 p2 p3 (q4.after p4))
          (fun ex env2 σ2 a2 w2 g2 p0 p1 p2 p3 p4 => hk2 ex env2 σ2 a2 w2 g2 p0 p1 p2 p3 (q4.after p4))
      | exit id => exact hk2 (.exit id) env' σ' a' w' g' (by intro h; cases h) q1 q2 q3 q4
      | ret => exact hk2 .ret env' σ' a' w' g' (by intro h; cases h) q1 q2 q3 q4
    · cases h
end

def veqU : Value → Value → Bool
  | .tuple x, .tuple y => x.toList.isEmpty && y.toList.isEmpty
  | a, b => veqM a b
theorem veqU_eq {a b : Value} (h : veqU a b = true) : a = b := by
  unfold veqU at h
  split at h
  · rename_i x y
    simp only [Bool.and_eq_true, List.isEmpty_iff] at h
    rw [← Array.toArray_toList (xs := x), ← Array.toArray_toList (xs := y), h.1, h.2]
  · exact veqM_eq h
/-- The slots K2 (their values: vals) hold, in an environment of the slots K1, what is said. -/
noncomputable def chkEnv (K1 : List Nat) (env : XEnv) : List (Nat × XV) → Bool
  | [] => true
  | (t, v) :: l => match varOf K1 t with
    | some p => cond (veqU (orUndef (getR p env)).out v.out) (chkEnv K1 env l) false
    | none => false
noncomputable def mkEnv (K2 : List Nat) : List (Nat × XV) → XEnv
  | [] => .nil
  | (t, v) :: l => match varOf K2 t with
    | some p => (mkEnv K2 l).set p v
    | none => mkEnv K2 l
theorem chkEnv_spec {K1 : List Nat} {env : XEnv} : ∀ {l : List (Nat × XV)}, chkEnv K1 env l = true → ∀ x ∈ l, ∃ p, varOf K1 x.1 = some p ∧ (orUndef (env.get p)).out = x.2.out
  | [], _, x, hx => by cases hx
  | (t, v) :: l, h, x, hx => by
    simp only [chkEnv] at h
    split at h
    · rename_i p hp
      cases hb : veqU (orUndef (getR p env)).out v.out with
      | false => rw [hb] at h; cases h
      | true =>
        rw [hb] at h
        cases hx with
        | head => exact ⟨p, hp, by rw [← getR_eq]; exact veqU_eq hb⟩
        | tail _ hx => exact chkEnv_spec h x hx
    · cases h
theorem mkEnv_get {K2 : List Nat} : ∀ (l : List (Nat × XV)) (t : Nat) (p : List Bool), varOf K2 t = some p → (∃ v, (t, v) ∈ l) → ∃ v, (t, v) ∈ l ∧ (mkEnv K2 l).get p = some v
  | [], t, p, hp, ⟨v, h⟩ => by cases h
  | (s, u) :: l, t, p, hp, ⟨v, h⟩ => by
    simp only [mkEnv]
    cases hs : varOf K2 s with
    | none =>
      cases h with
      | head => rw [hs] at hp; cases hp
      | tail _ h =>
        obtain ⟨v2, h1, h2⟩ := mkEnv_get l t p hp ⟨v, h⟩
        exact ⟨v2, List.mem_cons_of_mem _ h1, h2⟩
    | some q =>
      simp only [Tr.get_set]
      by_cases e : q = p
      · rw [if_pos e]
        have : s = t := varOf_inj hs (by rw [e]; exact hp)
        subst this
        exact ⟨u, List.mem_cons_self, rfl⟩
      · rw [if_neg e]
        cases h with
        | head => rw [hs] at hp; exact (e (Option.some.inj hp)).elim
        | tail _ h =>
          obtain ⟨v2, h1, h2⟩ := mkEnv_get l t p hp ⟨v, h⟩
          exact ⟨v2, List.mem_cons_of_mem _ h1, h2⟩

theorem hvals_map {K : List Nat} {f : Nat → XV} : ∀ t p, varOf K t = some p → ∃ v, (t, v) ∈ K.map fun t => (t, f t) := by
  have key : ∀ (K : List Nat) (j r t : Nat), rank K t j = some r → t ∈ K := by
    intro K
    induction K with
    | nil => intro j r t h; cases h
    | cons a K ih =>
      intro j r t h
      simp only [rank] at h
      split at h
      · rename_i e
        rw [Nat.beq_eq] at e
        subst e; exact List.mem_cons_self
      · exact List.mem_cons_of_mem _ (ih _ _ _ h)
  intro t p h
  obtain ⟨r, h1, _⟩ := map_some h
  exact ⟨f t, List.mem_map.2 ⟨t, key _ _ _ _ h1, rfl⟩⟩
theorem emptyRel (n : Nat) (w : World) : Rel (fun _ => none) { heap := .nil, fams := .nil, next := n } w := by
  have hg : ∀ A, St.get { heap := .nil, fams := .nil, next := n } A = none := fun A => by unfold St.get; cases path A <;> rfl
  have hf : ∀ A, St.famO { heap := .nil, fams := .nil, next := n } A = none := fun A => by unfold St.famO; cases path A <;> rfl
  have hh : ∀ A, St.hintO { heap := .nil, fams := .nil, next := n } A = none := fun A => by unfold St.hintO; cases path A <;> rfl
  refine ⟨⟨?_, ?_, ?_, ?_, ?_, ?_⟩, ?_, ?_, ?_, ?_⟩
  · intro A o h; rw [hg] at h; cases h
  · intro A own v F c h; rw [hg] at h; cases h
  · intro A v F c h; rw [hg] at h; cases h
  · intro F O h; rw [hf] at h; cases h
  · intro F O X own v c own' v' c' h; rw [hf] at h; cases h
  · intro A m h; rw [hh] at h; cases h
  · intro A x h; cases h
  · intro A x h; cases h
  · intro A x A' x' h; cases h
  · intro X x O y F v c own c' h; cases h

/-- A law without arguments, of no package-level variable, in two runs. -/
theorem law_two {P : Program} {call : KF} (hc : call.ok P []) (hm : P.follows .mixedOrders = true) {draw : DrawK} (hd : DrawKOk P [] draw) (lf : Nat) {f : FuncId} {fn : Func} {c : Code} (hf : P.funcs[f]? = some fn) (hb : fn.body = some c) (hdr : hasDraw c = false)
    (n : Nat) (hseq : seqs n c = true) {K1 K2 : List Nat} {X1 X2 : XCode} (h1 : comp P [] fn.ntmps K1 (takeC n c) = some X1) (h2 : comp P [] fn.ntmps K2 (dropC n c) = some X2) (hdr2 : hasDraw (dropC n c) = false)
    {vals : List (Nat × XV)} (hvals : ∀ t p, varOf K2 t = some p → ∃ v, (t, v) ∈ vals) (hflat : ∀ x ∈ vals, flatV x.2.out = true) {rs : List (ResultVar × List Bool)} (hrs : fn.results.toList.mapM (fun r => (varOf K2 (resTmp r)).map fun p => (r, p)) = some rs)
    {r1 : Value × St} (run1 : xcode P call draw lf X1 .nil { heap := .nil, fams := .nil, next := 1000 } (fun ex env σ => Ex.casesOn ex (cond (chkEnv K1 env vals) (some (.bool true, { heap := .nil, fams := .nil, next := 0 })) none) (fun _ => none) none) = some r1)
    {v : Value} {σ2 : St} (run2 : xcode P call draw lf X2 (mkEnv K2 vals) { heap := .nil, fams := .nil, next := 1000 } (fun ex env σ => Ex.casesOn ex (xret P rs env σ fun v σ => some (v.out, { heap := .nil, fams := .nil, next := 0 })) (fun _ => none) (xret P rs env σ fun v σ => some (v.out, { heap := .nil, fams := .nil, next := 0 }))) = some (v, σ2)) (hv : flatV v = true) :
    ∀ w, Calls P f #[] w fun e w' => e = .returned v ∧ Go.RowKit.Below w.heap.size w w' := by
  intro w
  have hgl : ∀ g : Gam, Glob [] g := fun g b hb => by cases hb
  have hsz : (#[] ++ Array.replicate (fn.ntmps - 0) undef : Array Value).size = fn.ntmps := by simp
  refine calls_of_wp hf hb ?_
  have hgetD : ∀ t, (#[] ++ Array.replicate (fn.ntmps - (#[] : Array Value).size) undef : Array Value).getD t undef = undef := fun t => by
    rw [Array.getD_eq_getD_getElem?]
    simp only [Array.empty_append]
    rw [Array.getElem?_replicate]
    split <;> rfl
  have hund : ∀ g, VRel g undef undef := fun g => .tuple _ _ rfl fun i h => by simp at h
  have hv0 : VarRel K1 fn.ntmps (fun _ => none) .nil { tmps := #[] ++ Array.replicate (fn.ntmps - (#[] : Array Value).size) undef, defers := [] } := by
    refine ⟨rfl, by simp, fun t p hp => ?_, fun t _ _ _ => ?_⟩
    · rw [hgetD]
      have : (Tr.get (.nil : XEnv) p) = none := by cases p <;> rfl
      rw [this]; exact hund _
    · have : (Tr.get (.nil : XEnv) (path t)) = none := by cases path t <;> rfl
      rw [this]; exact hund _
  refine xsplit hc hm hd lf n c X1 h1 (fun h => by rw [hdr] at h; cases h) hseq .nil { heap := .nil, fams := .nil, next := 1000 } (fun _ => none) w _ _ r1 _ (hgl _) (emptyRel _ w) hv0 run1 (fun env' σ' a' w' g' q1 q2 q3 q4 => ?_) (fun ex env' σ' a' w' g' q0 q1 q2 q3 q4 => ?_)
  · have q1 : (cond (chkEnv K1 env' vals) (some (.bool true, { heap := .nil, fams := .nil, next := 0 })) none : R) = some r1 := q1
    cases hchk : chkEnv K1 env' vals with
    | false => rw [hchk] at q1; cases q1
    | true =>
      have hspec := chkEnv_spec hchk
      have hv2 : VarRel K2 fn.ntmps (fun _ => none) (mkEnv K2 vals) a' := by
        refine ⟨q3.defers, q3.size, fun t p hp => ?_, fun t ht hN hno => ?_⟩
        · obtain ⟨v2, m1, m2⟩ := mkEnv_get vals t p hp (hvals t p hp)
          rw [m2]
          obtain ⟨p1, e1, e2⟩ := hspec _ m1
          have hrel := q3.vars t p1 e1
          rw [e2] at hrel
          have hfl := hflat _ m1
          rw [flatV_eq hfl hrel]
          exact flatV_rel hfl
        · have : (mkEnv K2 vals).get (path t) = none := by
            have : ∀ l : List (Nat × XV), (mkEnv K2 l).get (path t) = none := by
              intro l
              induction l with
              | nil => simp only [mkEnv]; cases path t <;> rfl
              | cons x l ih =>
                obtain ⟨s, u⟩ := x
                simp only [mkEnv]
                cases hs : varOf K2 s with
                | none => exact ih
                | some q =>
                  simp only [Tr.get_set]
                  rw [if_neg (hno s q hs)]
                  exact ih
            exact this vals
          rw [this]; exact hund _
      refine xcode_ok hc hm hd lf (dropC n c) X2 h2 (fun h => by rw [hdr2] at h; cases h) (mkEnv K2 vals) { heap := .nil, fams := .nil, next := 1000 } (fun _ => none) w' a' _ _ _ (hgl _) (emptyRel _ w') hv2 run2 fun ex env2 σ3 a2 w2 g2 p1 p2 p3 p4 => ?_
      have fin : xret P rs env2 σ3 (fun v σ => some (v.out, { heap := .nil, fams := .nil, next := 0 })) = some (v, σ2) → a2.defers = [] ∧ ∃ v', (results fn a2.tmps).run P w2 = .ok v' w2 ∧ (Ending.returned v' = .returned v ∧ Go.RowKit.Below w.heap.size w w2) := by
        intro p1
        unfold xret at p1
        split at p1
        · rename_i vs hvs
          rw [take_eq] at p1
          simp only [Option.some.injEq, Prod.mk.injEq] at p1
          obtain ⟨p1, _⟩ := p1
          rw [xvOf_out] at p1
          obtain ⟨v', hrun, hrel⟩ := results_ok (P := P) p3 p2 hrs hvs
          rw [p1] at hrel
          have hpk := flatV_eq hv hrel
          refine ⟨p3.defers, v', hrun, congrArg _ hpk, ?_⟩
          have keep1 : ∀ b, b < w.heap.size → w'.heap[b]? = w.heap[b]? := fun b hb => q4.keep b hb fun A x hA _ => by cases hA
          have keep2 : ∀ b, b < w'.heap.size → w2.heap[b]? = w'.heap[b]? := fun b hb => p4.keep b hb fun A x hA _ => by cases hA
          exact ⟨p4.os.trans q4.os, p4.tape.trans q4.tape, p4.out.trans q4.out, Nat.le_trans q4.size p4.size, fun b hb => (keep2 b (Nat.lt_of_lt_of_le hb q4.size)).trans (keep1 b hb)⟩
        · cases p1
      cases ex with
      | normal => exact fin p1
      | ret => exact fin p1
      | exit id => cases p1
  · cases ex with
    | normal => exact (q0 rfl).elim
    | ret => cases q1
    | exit id => cases q1
end Go.Ev
