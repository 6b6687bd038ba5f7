/-
  A quicker evaluator of code, over any program: rows, code, functions, calls do what the model does. No condition.
-/
import Derived.Test.YtedojhheppepdaaGreatDoorEv25
namespace Go.Ev
open Go
set_option linter.unusedVariables false
set_option linter.unusedSimpArgs false
section
variable {P : Program} {gl : List Nat} {K : List Nat}

theorem XRel.opnd {W : List (Nat × Src)} {i N : Nat} {env : XEnv} {L : List XV} {g : Gam} {a : Act} (h : XRel K N g W i env L a) (hg : Glob gl g) {x : Operand} (ho : okOperand gl x = true) (hr : (resolve W K i x).isSome = true) : VRel g (rhoX W K i env L x) (a.eval x) := by
  cases x with
  | tmp t =>
    obtain ⟨b, hb⟩ := Option.isSome_iff_exists.1 hr
    rw [rhoX_eq hb]
    exact h.told t b hb
  | const v => rw [rhoX_const]; exact flatV_rel ho
  | global b =>
    rw [rhoX_global]
    obtain ⟨n, e⟩ := hg b ho
    exact .ptr b 0 _ e
  | func f => rw [rhoX_func]; exact .func _ _ _ _ _ rfl (fun i h => by simp at h) rfl (fun i h => by simp at h)

def boolOf (x : Value) : Option Bool := match x with
  | .bool b => some b
  | _ => none
theorem yielded_of {ops : Array Oper} {g : Gam} {a : Act} {j d : Nat} {x : Value} (hj : (ops[j]?).bind (·.dst) = some d) (hd : d < a.tmps.size) (hv : VRel g x (a.tmps.getD d undef)) : yielded ops a.tmps j = boolOf x := by
  unfold yielded
  rw [hj]
  simp only [Option.bind_some, Array.getElem?_eq_getElem hd]
  have e : a.tmps.getD d undef = a.tmps[d] := by simp [hd]
  rw [e] at hv
  generalize a.tmps[d] = v' at hv
  cases hv <;> rfl

theorem copyOf_spec {o : Oper} {l : List Oper} {x : Operand} (h : copyOf o l = some x) : o.guard = none ∧ (o.op = .move x ∨ o.op = .assign x) ∧ ∀ t, x = .tmp t → ∀ o' ∈ l, o'.dst ≠ some t := by
  have key : ∀ (y : Operand), (match y with
      | .tmp t => if l.all (fun o' => match o'.dst with | some d => !Nat.beq d t | none => true) then some y else none
      | _ => some y) = some x → y = x ∧ ∀ t, x = .tmp t → ∀ o' ∈ l, o'.dst ≠ some t := by
    intro y hy
    split at hy
    · rename_i t
      split at hy
      · rename_i hall
        cases hy
        refine ⟨rfl, fun t' e o' ho' hd => ?_⟩
        cases e
        have := List.all_eq_true.1 hall o' ho'
        rw [hd] at this
        simp at this
      · cases hy
    · rename_i hne
      cases hy
      exact ⟨rfl, fun t e => (hne t e).elim⟩
  unfold copyOf at h
  split at h
  · cases h
  · rename_i hg
    split at h
    · rename_i y ho
      obtain ⟨rfl, h2⟩ := key y h
      exact ⟨hg, .inl ho, h2⟩
    · rename_i y ho
      obtain ⟨rfl, h2⟩ := key y h
      exact ⟨hg, .inr ho, h2⟩
    · cases h

theorem XRel.copy {W : List (Nat × Src)} {i N : Nat} {env : XEnv} {L : List XV} {g : Gam} {a : Act} {o : Oper} {l : List Oper} (h : XRel K N g W i env L a) (hw : WOk K i (o :: l) W) {d : Nat} (hdd : o.dst = some d) (hdN : d < N) (hk : varOf K d = none) {x : Operand}
    (hlater : ∀ t, x = .tmp t → ∀ o' ∈ l, o'.dst ≠ some t) {b : XArg} (hb : resolve W K i x = some b) {v' : Value} (hv : VRel g (b.get env L).out v') {s : Src} (hs : s = srcOf i b) :
    XRel K N g ((d, s) :: W) i env L (a.put o.dst v') ∧ WOk K i l ((d, s) :: W) := by
  have hgetd : ∀ t, (a.put o.dst v').tmps.getD t undef = if d = t then v' else a.tmps.getD t undef := by
    intro t
    rw [hdd]
    simp only [Act.put]
    by_cases e : d = t
    · subst e
      rw [if_pos rfl]
      have : d < a.tmps.size := by rw [h.size]; exact hdN
      simp [this]
    · rw [if_neg e]
      simp only [Array.getD_eq_getD_getElem?, Array.getElem?_setIfInBounds, if_neg e]
  have src : (∀ j, b = .loc j → j < i ∧ ∃ j0, j0 < i ∧ j = i - 1 - j0) ∧ SrcOk K i l s := by
    cases x with
    | const v => cases hb; subst hs; exact ⟨(fun j e => by cases e), trivial⟩
    | global v => cases hb; subst hs; exact ⟨(fun j e => by cases e), trivial⟩
    | func v => cases hb; subst hs; exact ⟨(fun j e => by cases e), trivial⟩
    | tmp t =>
      rw [resolve_tmp] at hb
      split at hb
      · rename_i j hj
        cases hb
        have hlt : j < i := hw t _ hj
        subst hs
        refine ⟨fun j' e => ?_, ?_⟩
        · cases e; exact ⟨by omega, j, hlt, rfl⟩
        · show i - 1 - (i - 1 - j) < i
          omega
      · rename_i b' hj
        cases hb
        have h1 := hw t _ hj
        cases b with
        | loc _ => exact h1.elim
        | val _ => subst hs; exact ⟨(fun j e => by cases e), trivial⟩
        | var p => subst hs; exact ⟨(fun j e => by cases e), (h1.tail (Nat.le_refl _) : SrcOk K i l (.arg (.var p)))⟩
      · obtain ⟨p, hp, rfl⟩ := map_some hb
        subst hs
        exact ⟨(fun j e => by cases e), ⟨t, hp, hlater t rfl⟩⟩
  refine ⟨⟨⟨?_, ?_, fun t p hp => ?_, h.rest⟩, h.len, fun t c hc => ?_⟩, fun t s' hs' => ?_⟩
  · rw [hdd]; exact h.defers
  · rw [hdd]; simp [Act.put, h.size]
  · rw [hgetd, if_neg (fun e => by subst e; rw [hk] at hp; cases hp)]
    exact h.vars t p hp
  · rw [hgetd]
    rw [resolve_tmp] at hc
    simp only [look_cons] at hc
    by_cases e : d = t
    · rw [if_pos e] at hc ⊢
      have : c = b := by
        subst hs
        cases b with
        | loc j =>
          obtain ⟨h1, j0, h2, rfl⟩ := src.1 j rfl
          have hc : some (XArg.loc (i - 1 - (i - 1 - (i - 1 - j0)))) = some c := hc
          cases hc
          congr 1
          omega
        | val _ => cases hc; rfl
        | var _ => cases hc; rfl
      rw [this]; exact hv
    · rw [if_neg e] at hc ⊢
      exact h.told t c hc
  · rw [look_cons] at hs'
    split at hs'
    · cases hs'; exact src.2
    · exact (hw t s' hs').tail (Nat.le_refl _)

theorem xops_ok {call : KF} (hc : call.ok P gl) {ops : Array Oper} {N base : Nat} {Q : Exit → Act → World → Prop} {r : Value × St} {k : XEnv → St → R} : ∀ (l : List Oper) (n i : Nat) (W : List (Nat × Src)) (X : List XI) (env : XEnv) (L : List XV) (σ : St) (g : Gam) (w : World) (a : Act),
    compOps P gl N K ops l i n W = some X → (∀ j o, l[j]? = some o → ops[n + j]? = some o) → n + l.length = ops.size → WOk K i l W → base + ops.size ≤ σ.next → (∀ j, n ≤ j → j < ops.size → σ.get (base + j) = none) → Glob gl g → Rel g σ w → XRel K N g W i env L a →
    xops P call X env L base σ k = some r →
    (∀ env' σ' a' w' g', k env' σ' = some r → Rel g' σ' w' → VarRel K N g' env' a' → Ext (fun A => base ≤ A) g g' σ σ' w w' → Q .normal a' w') → wpOps P ops Q (List.range' n l.length) a w
  | [], n, i, W, X, env, L, σ, g, w, a, hX, _, _, _, _, _, hg, hr, hx, he, hk => by
    simp only [compOps] at hX
    cases hX
    exact hk env σ a w g he hr hx.toVarRel (Ext.refl _ _ _ _)
  | o :: l, n, i, W, X, env, L, σ, g, w, a, hX, hops, hlen, hw, hnext, hfree, hg, hr, hx, he, hk => by
    have hoi : ops[n]? = some o := by have := hops 0 o rfl; simpa using this
    have hn : n < ops.size := by simp at hlen; omega
    simp only [compOps] at hX
    split at hX
    · rename_i hok
      simp only [Bool.and_eq_true, List.all_eq_true] at hok
      obtain ⟨⟨ok1, ok2⟩, ok3⟩ := hok
      have hd := okDst ok1
      simp only [okOper, Bool.and_eq_true, List.all_eq_true] at ok1
      have hρ : ∀ x ∈ o.op.operands, VRel g (rhoX W K i env L x) (a.eval x) := fun x hx' => hx.opnd hg (ok1.1 x (by simpa using hx')) (ok3 x (by simpa using hx'))
      simp only [List.length_cons, List.range'_succ, wpOps, hoi]
      have rest := fun (i2 : Nat) (W2 : List (Nat × Src)) (X2 : List XI) (env2 : XEnv) (L2 : List XV) (σ2 : St) (g2 : Gam) (w2 : World) (a2 : Act) (h1 : compOps P gl N K ops l i2 (n + 1) W2 = some X2) (h2 : WOk K i2 l W2) (hx2 : Ext (fun A => base ≤ A) g g2 σ σ2 w w2)
          (hnx : ∀ j, n + 1 ≤ j → j < ops.size → σ2.get (base + j) = none) (h5 : Rel g2 σ2 w2) (h6 : XRel K N g2 W2 i2 env2 L2 a2) (h7 : xops P call X2 env2 L2 base σ2 k = some r) =>
        xops_ok hc l (n + 1) i2 W2 X2 env2 L2 σ2 g2 w2 a2 h1 (fun j o' hj => by have := hops (j + 1) o' (by simpa using hj); rwa [show n + 1 + j = n + (j + 1) by omega]) (by simp at hlen; omega) h2 (Nat.le_trans hnext hx2.next) hnx (hg.mono hx2.le) h5 h6 h7
          (fun env' σ' a' w' g' q1 q2 q3 q4 => hk env' σ' a' w' g' q1 q2 q3 (hx2.trans q4))
      have step : ∀ {f : SK} {k2 : XV → St → R}, InsW P gl W K i n o f → f env L base σ k2 = some r →
          (∀ (v : XV) v' σ' w' g', k2 v σ' = some r → VRel g' v.out v' → Rel g' σ' w' → Ext (fun A => base ≤ A) g g' σ σ' w w' → (∀ j, n + 1 ≤ j → j < ops.size → σ'.get (base + j) = none) → wpOps P ops Q (List.range' (n + 1) l.length) (a.put o.dst v') w') → o.wp P a w (wpOps P ops Q (List.range' (n + 1) l.length)) Q := by
        intro f k2 hst he2 hcont
        refine hst env L base σ k2 r he2 g w a _ Q hg hr (hfree n (Nat.le_refl _) hn) (by omega) hρ fun v σ' v' w' g' q0 q1 q2 q3 => ?_
        refine hcont v v' σ' w' g' q0 q1 q2 (q3.mono fun A hA => by rcases hA with rfl | hA <;> omega) fun j h1 h2 => ?_
        have hnone := hfree j (by omega) h2
        rw [q3.frame (base + j) (hr.none_of hnone) (by omega)]
        exact hnone
      split at hX
      · rename_i x d hp hcp hdd
        obtain ⟨hgd, hop, hlater⟩ := copyOf_spec hcp
        rw [hdd] at hp
        have hwant : Region.wanted o (yielded ops a.tmps) = true := by unfold Region.wanted; rw [hgd]
        rw [if_pos hwant]
        left
        split at hX
        · rename_i b hb
          classical
          have hmv := (mov_ok (P := P) (gl := gl) (n := n) hop hb).toW
          refine step (k2 := fun v σ2 => if σ2 = σ ∧ v = b.get env L then xops P call X env L base σ k else none) hmv ?_ fun v v' σ' w' g' q0 q1 q2 q3 q4 => ?_
          · unfold iMov
            rw [forceX_eq]
            simp only [and_self, if_true]
            exact he
          · split at q0
            · rename_i hq
              obtain ⟨rfl, rfl⟩ := hq
              obtain ⟨c1, c2⟩ := (hx.mono q3.le).copy hw hdd (hd d hdd) hp hlater hb q1 rfl
              exact rest i _ X env L σ' g' w' _ hX c2 q3 q4 q2 c1 q0
            · cases q0
        · cases hX
      · split at hX
        · rename_i ins hins
          have hio := compIns_ok hc hins
          split at hX
          · rename_i X2 hX2
            have go : ∀ (v : XV) (v' : Value) (σ' : St) (w' : World) (g' : Gam), VRel g' v.out v' → Rel g' σ' w' → Ext (fun A => base ≤ A) g g' σ σ' w w' → (∀ j, n + 1 ≤ j → j < ops.size → σ'.get (base + j) = none) →
                xops P call X2 (putE (dstVar K o.dst) v env) (v :: L) base σ' k = some r → wpOps P ops Q (List.range' (n + 1) l.length) (a.put o.dst v') w' := by
              intro v v' σ' w' g' q1 q2 q3 q4 q5
              obtain ⟨c1, c2⟩ := (hx.mono q3.le).push hw hd q1
              exact rest (i + 1) _ X2 _ _ σ' g' w' _ hX2 c2 q3 q4 q2 c1 q5
            split at hX
            · rename_i hgd
              have hwant : Region.wanted o (yielded ops a.tmps) = true := by unfold Region.wanted; rw [hgd]
              rw [if_pos hwant]
              left
              split at hX
              · rename_i hp
                cases hX
                have he : xins P call ins env L base σ (fun v σ => xops P call X2 env (v :: L) base σ k) = some r := he
                refine step hio he fun v v' σ' w' g' he2 q1 q2 q3 q4 => go v v' σ' w' g' q1 q2 q3 q4 ?_
                rw [hp]; exact he2
              · rename_i p hp
                cases hX
                have he : xins P call ins env L base σ (fun v σ => setK p v env fun env => xops P call X2 env (v :: L) base σ k) = some r := he
                refine step hio he fun v v' σ' w' g' he2 q1 q2 q3 q4 => go v v' σ' w' g' q1 q2 q3 q4 ?_
                rw [setK_eq] at he2
                rw [hp]; exact he2
            · rename_i j want hgd
              split at hX
              · rename_i d hjd
                split at hX
                · rename_i gd hgr
                  cases hX
                  have hdN : d < a.tmps.size := by
                    rw [hx.size]
                    unfold okGuard at ok2
                    rw [hgd] at ok2
                    simp only [hjd] at ok2
                    simpa using ok2
                  have hyv := hx.told d gd hgr
                  have hy := yielded_of hjd hdN hyv
                  have hwant : Region.wanted o (yielded ops a.tmps) = (yielded ops a.tmps j == some want) := by unfold Region.wanted; rw [hgd]
                  rw [hwant, hy]
                  obtain ⟨p, hp⟩ : ∃ p, p = dstVar K o.dst := ⟨_, rfl⟩
                  rw [← hp] at he go
                  have skip : (Option.casesOn p (xops P call X2 env (.oth undef :: L) base σ k) (fun p => setK p (.oth undef) env fun env => xops P call X2 env (.oth undef :: L) base σ k) : R) = some r → wpOps P ops Q (List.range' (n + 1) l.length) (a.put o.dst undef) w := by
                    intro hs
                    refine go (.oth undef) undef σ w g (.tuple _ _ rfl fun i h => by simp at h) hr (Ext.refl _ _ _ _) (fun j h1 h2 => hfree j (by omega) h2) ?_
                    cases p with
                    | none => exact hs
                    | some p => simp only [setK_eq] at hs; exact hs
                  have he : (XV.casesOn (gd.get env L)
                      (fun _ _ => Option.casesOn p (xops P call X2 env (.oth undef :: L) base σ k) (fun p => setK p (.oth undef) env fun env => xops P call X2 env (.oth undef :: L) base σ k))
                      (fun b => cond (b == want) (xins P call ins env L base σ fun v σ => Option.casesOn p (xops P call X2 env (v :: L) base σ k) (fun p => setK p v env fun env => xops P call X2 env (v :: L) base σ k))
                          (Option.casesOn p (xops P call X2 env (.oth undef :: L) base σ k) (fun p => setK p (.oth undef) env fun env => xops P call X2 env (.oth undef :: L) base σ k)))
                      (fun _ _ => Option.casesOn p (xops P call X2 env (.oth undef :: L) base σ k) (fun p => setK p (.oth undef) env fun env => xops P call X2 env (.oth undef :: L) base σ k))
                      (fun v => match v with
                        | .bool _ => none
                        | _ => Option.casesOn p (xops P call X2 env (.oth undef :: L) base σ k) (fun p => setK p (.oth undef) env fun env => xops P call X2 env (.oth undef :: L) base σ k)) : R) = some r := he
                  generalize gd.get env L = xg at he
                  cases xg with
                  | nat _ _ => exact skip he
                  | nxt _ _ => exact skip he
                  | oth v =>
                    cases v with
                    | bool _ => cases he
                    | _ => exact skip he
                  | bool b =>
                    by_cases hb : b = want
                    · subst hb
                      rw [if_pos (by simp [boolOf, XV.out])]
                      simp only [beq_self_eq_true, cond_true] at he
                      left
                      refine step hio he fun v v' σ' w' g' he2 q1 q2 q3 q4 => go v v' σ' w' g' q1 q2 q3 q4 ?_
                      cases p with
                      | none => exact he2
                      | some p => simp only [setK_eq] at he2; exact he2
                    · have h1 : (b == want) = false := by simpa using hb
                      simp only [h1, cond_false] at he
                      rw [if_neg (by simp [boolOf, XV.out]; exact hb)]
                      exact skip he
                · cases hX
              · cases hX
          · cases hX
        · cases hX
    · cases hX
end
end Go.Ev
