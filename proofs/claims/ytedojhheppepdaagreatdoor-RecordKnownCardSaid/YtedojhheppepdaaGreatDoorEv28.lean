/-
  A quicker evaluator of code, over any program: functions, calls to a depth; rows that draw their order. No condition.
-/
import Derived.Test.YtedojhheppepdaaGreatDoorEv27
namespace Go.Ev
open Go
set_option linter.unusedVariables false
set_option linter.unusedSimpArgs false

theorem callOf_ok {P : Program} {gl : List Nat} {kf : KF} (h : kf.ok P gl) : (callOf kf).ok P gl := by
  intro f args σ v σ' e g w args' hg hr ha
  unfold callOf at e
  have h2 : ((args.toList.map xvOf).map XV.out).toArray = args := by
    rw [List.map_map]
    have : (XV.out ∘ xvOf) = id := funext xvOf_out
    rw [this, List.map_id]
  refine h _ _ _ _ _ e g w args' _ hg hr (by rw [h2]; exact ha) fun x σ2 v' w' g' q1 q2 q3 q4 => ?_
  simp only [Option.some.injEq, Prod.mk.injEq] at q1
  obtain ⟨rfl, rfl⟩ := q1
  exact ⟨v', g', rfl, q2, q3, q4⟩

/-! ## Rows that draw their order -/
theorem xdraw_ok {P : Program} {gl : List Nat} {call : CallF} (hc : call.ok P gl) (hm : P.follows .mixedOrders = true) : DrawKOk P gl (xdraw P call) := by
  intro N id ops env σ k r g w a Q h hok hg hr hv hk
  unfold xdraw at h
  split at h
  · rename_i env' σ' he
    have hsim := evalDraw_ok hc hm N id ops _ σ env' σ' he hok
    have hget : ∀ t, eget (mapT XV.out env) t = (orUndef (env.get (path t))).out := by
      intro t
      unfold eget
      rw [get_mapT]
      cases env.get (path t) <;> rfl
    have hbeyond : ∀ t, N ≤ t → varOf (List.range N) t = none := by
      intro t ht
      cases h : varOf (List.range N) t with
      | none => rfl
      | some p => have := (varOf_range h).1; omega
    have hno : ∀ t, N ≤ t → ∀ t' p, varOf (List.range N) t' = some p → p ≠ path t := by
      intro t ht t' p hp e
      obtain ⟨h1, rfl⟩ := varOf_range hp
      have := path_inj e
      omega
    have hinit : EnvRel g N (mapT XV.out env) a := by
      refine ⟨hv.defers, hv.size, fun t => ?_⟩
      rw [hget]
      by_cases ht : t < N
      · exact hv.vars t _ (varOf_range_in ht)
      · have e1 : a.tmps.getD t undef = undef := by
          have : ¬ t < a.tmps.size := by rw [hv.size]; exact ht
          simp [this]
        rw [e1]
        exact hv.rest t (hbeyond t (by omega)) (by omega) (hno t (by omega))
    refine wp_mono (hsim g w a hg hr hinit) ?_
    rintro e a' w' ⟨rfl, g', r1, r2, r3⟩
    have hback : ∀ t, (orUndef ((mapT xvOf env').get (path t))).out = eget env' t := by
      intro t
      rw [get_mapT]
      unfold eget
      cases env'.get (path t) with
      | none => rfl
      | some v => exact xvOf_out v
    refine hk _ σ' a' w' g' h r1 ⟨r2.defers, r2.size, fun t p hp => ?_, fun t h1 h2 h3 => ?_⟩ r3
    · obtain ⟨ht, rfl⟩ := varOf_range hp
      rw [hback]
      exact r2.slot t
    · rw [hback]
      have := r2.slot t
      have e1 : a'.tmps.getD t undef = undef := by
        have : ¬ t < a'.tmps.size := by rw [r2.size]; omega
        simp [this]
      rwa [e1] at this
  · cases h

/-! ## Functions -/
theorem initK_ok (K : List Nat) : ∀ (m s : Nat) (vs : List XV) (env : XEnv) (k : XEnv → R) (r : Value × St), initK ((List.range' s m).map (varOf K)) vs env k = some r →
    vs.length ≤ m ∧ ∃ env', k env' = some r ∧ (∀ t p, varOf K t = some p → env'.get p = if s ≤ t ∧ t < s + vs.length then some (vs.getD (t - s) (.oth undef)) else env.get p) ∧ ∀ q, (∀ t p, varOf K t = some p → p ≠ q) → env'.get q = env.get q
  | 0, s, vs, env, k, r, h => by
    cases vs with
    | nil => exact ⟨Nat.le_refl _, env, h, fun t p _ => (by rw [if_neg (by simp only [List.length_nil]; omega)]), fun _ _ => rfl⟩
    | cons v vs => cases h
  | m + 1, s, vs, env, k, r, h => by
    rw [List.range'_succ, List.map_cons] at h
    cases vs with
    | nil => exact ⟨Nat.zero_le _, env, h, fun t p _ => (by rw [if_neg (by simp only [List.length_nil]; omega)]), fun _ _ => rfl⟩
    | cons v vs =>
      cases hs : varOf K s with
      | none =>
        rw [hs] at h
        have h : initK ((List.range' (s + 1) m).map (varOf K)) vs env k = some r := h
        obtain ⟨h1, env', h2, h3, h4⟩ := initK_ok K m (s + 1) vs env k r h
        refine ⟨by simp; omega, env', h2, fun t p hp => ?_, h4⟩
        rw [h3 t p hp]
        have hne : t ≠ s := fun e => by subst e; rw [hs] at hp; cases hp
        by_cases hc : s + 1 ≤ t ∧ t < s + 1 + vs.length
        · rw [if_pos hc, if_pos (by simp; omega)]
          rw [show t - s = (t - (s + 1)) + 1 by omega]; simp
        · rw [if_neg hc, if_neg (by simp; omega)]
      | some q =>
        rw [hs] at h
        have h : setK q v env (fun env => initK ((List.range' (s + 1) m).map (varOf K)) vs env k) = some r := h
        rw [setK_eq] at h
        obtain ⟨h1, env', h2, h3, h4⟩ := initK_ok K m (s + 1) vs _ k r h
        refine ⟨by simp; omega, env', h2, fun t p hp => ?_, fun q' hq => by rw [h4 q' hq, Tr.get_set, if_neg (hq s q hs)]⟩
        rw [h3 t p hp]
        by_cases e : t = s
        · subst e
          have : q = p := Option.some.inj (hs.symm.trans hp)
          subst this
          rw [if_neg (by omega), Tr.get_set, if_pos rfl, if_pos (by simp)]
          simp
        · have hne : q ≠ p := fun e2 => by subst e2; exact e (varOf_inj hp hs)
          by_cases hc : s + 1 ≤ t ∧ t < s + 1 + vs.length
          · rw [if_pos hc, if_pos (by simp; omega)]
            rw [show t - s = (t - (s + 1)) + 1 by omega]; simp
          · rw [if_neg hc, Tr.get_set, if_neg hne, if_neg (by simp; omega)]

theorem xres_ok {P : Program} {K : List Nat} {g : Gam} {N : Nat} {env : XEnv} {σ : St} {a : Act} {w : World} (he : VarRel K N g env a) (hr : Rel g σ w) : ∀ (l : List ResultVar) (rs : List (ResultVar × List Bool)) (vs : List Value),
    l.mapM (fun r => (varOf K (resTmp r)).map fun p => (r, p)) = some rs → xres P env σ rs = some vs →
    ∃ vs' : List Value, (l.mapM fun (x : ResultVar) => (match x with | .tmp t => pure (a.tmps.getD t undef) | .cell a' t => do loadVar t (← asAddr (a.tmps.getD a' undef)) : Sem Value)).run P w = .ok vs' w ∧ LRel g vs vs'
  | [], rs, vs, hm, h => by
    cases hm
    cases h
    exact ⟨[], by simp, LRel.nil g⟩
  | x :: l, rs, vs, hm, h => by
    obtain ⟨y, ys, e1, e2, e3⟩ := mapM_cons_some hm
    subst e1
    obtain ⟨p, hp, rfl⟩ := map_some e2
    cases x with
    | tmp t =>
      simp only [xres] at h
      split at h
      · rename_i l2 hl
        cases h
        obtain ⟨vs', q1, hv⟩ := xres_ok he hr l ys l2 e3 hl
        refine ⟨a.tmps.getD t undef :: vs', by simp only [List.mapM_cons, Sem.run_bind, Sem.run_pure, Result.andThen_ok, q1], by simp [hv.1], fun i h1 h2 => ?_⟩
        cases i with
        | zero =>
          show VRel g (orUndef (getR p env)).out _
          rw [getR_eq]; exact he.vars t p hp
        | succ i => exact hv.2 i (Nat.lt_of_succ_lt_succ h1) (Nat.lt_of_succ_lt_succ h2)
      · cases h
    | cell c t =>
      simp only [xres] at h
      split at h
      · rename_i v l2 hv1 hl
        cases h
        obtain ⟨vs', q1, hv⟩ := xres_ok he hr l ys l2 e3 hl
        rw [getR_eq] at hv1
        have hc : VRel g (orUndef (env.get p)).out (a.tmps.getD c undef) := he.vars c p hp
        obtain ⟨v', p1, p2⟩ := opLoad_ok (P := P) hv1 hr hc
        have hld : (do loadVar t (← asAddr (a.tmps.getD c undef)) : Sem Value).run P w = .ok v' w := by
          have hs := hc
          generalize a.tmps.getD c undef = q at hs p1
          generalize (orUndef (env.get p)).out = q0 at hs hv1
          unfold opLoad at hv1
          split at hv1
          · cases hs
            simpa [Instr.loadAt, Instr.sureAddr, asAddr] using p1
          · cases hv1
        refine ⟨v' :: vs', by simp only [List.mapM_cons, Sem.run_bind] at hld ⊢; simp only [hld, Result.andThen_ok, q1, Sem.run_pure], by simp [hv.1], fun i h1 h2 => ?_⟩
        cases i with
        | zero => exact p2
        | succ i => exact hv.2 i (Nat.lt_of_succ_lt_succ h1) (Nat.lt_of_succ_lt_succ h2)
      · cases h

theorem results_ok {P : Program} {K : List Nat} {g' : Gam} {N : Nat} {env : XEnv} {σ : St} {a' : Act} {w' : World} {fn : Func} (q3 : VarRel K N g' env a') (q2 : Rel g' σ w') {rs : List (ResultVar × List Bool)}
    (h2 : fn.results.toList.mapM (fun r => (varOf K (resTmp r)).map fun p => (r, p)) = some rs) {vs : List Value} (hvs : xres P env σ rs = some vs) : ∃ v', (results fn a'.tmps).run P w' = .ok v' w' ∧ VRel g' (packed vs) v' := by
  obtain ⟨vs', e1, e2⟩ := xres_ok (P := P) q3 q2 _ _ _ h2 hvs
  have hrun : (results fn a'.tmps).run P w' = .ok (packed vs') w' := by
    obtain ⟨F, hF⟩ : ∃ F : ResultVar → Sem Value, F = fun (x : ResultVar) => (match x with | .tmp t => pure (a'.tmps.getD t undef) | .cell a t => do loadVar t (← asAddr (a'.tmps.getD a undef)) : Sem Value) := ⟨_, rfl⟩
    have hdef : results fn a'.tmps = (do let vs ← fn.results.mapM F; pure (if h : vs.size = 1 then vs[0] else .tuple vs)) := by
      rw [hF]; rfl
    have hm : (fn.results.mapM F).run P w' = .ok vs'.toArray w' := by
      rw [← Array.toArray_toList (xs := fn.results), List.mapM_toArray]
      rw [hF]
      simp only [Sem.run_map, e1, Result.andThen_ok]
    rw [hdef]
    simp only [Sem.run_bind, hm, Result.andThen_ok, Sem.run_pure]
    congr 1
    unfold packed
    match vs', e2 with
    | [], _ => rfl
    | [v], _ => rfl
    | _ :: _ :: _, _ => simp
  have hrel : VRel g' (packed vs) (packed vs') := by
    unfold packed
    match vs, vs', e2 with
    | [], [], _ => exact .tuple _ _ rfl fun i h => by simp at h
    | [v], [v'], e2 => exact e2.2 0 (by simp) (by simp)
    | x :: y :: r, x' :: y' :: r', e2 => exact .tuple _ _ (by simpa using e2.1) fun i h1 h2 => by simpa using e2.2 i (by simpa using h1) (by simpa using h2)
    | [], _ :: _, e2 => have := e2.1; simp at this
    | _ :: _, [], e2 => have := e2.1; simp at this
    | [_], _ :: _ :: _, e2 => have := e2.1; simp at this
    | _ :: _ :: _, [_], e2 => have := e2.1; simp at this
  exact ⟨_, hrun, hrel⟩

theorem xfn_ok {P : Program} {gl : List Nat} {call : KF} (hc : call.ok P gl) (hm : P.follows .mixedOrders = true) {draw : DrawK} (hd : DrawKOk P gl draw) (lf : Nat) {f : FuncId} {xf : XFn} (hx : compFn P gl f = some xf) {args : List XV} {σ : St} {k : XV → St → R} {r : Value × St} (h : xfn P call draw lf xf args σ k = some r)
    {g : Gam} {w : World} {args' : Array Value} {Q : Ending → World → Prop} (hg : Glob gl g) (hr : Rel g σ w) (ha : ARel g (args.map XV.out).toArray args')
    (hk : ∀ (v : XV) (σ' : St) (v' : Value) (w' : World) (g' : Gam), k v σ' = some r → VRel g' v.out v' → Rel g' σ' w' → Ext (fun A => σ.next ≤ A) g g' σ σ' w w' → Q (.returned v') w') : Calls P f args' w Q := by
  unfold compFn at hx
  split at hx
  · rename_i fn hf
    split at hx
    · rename_i c hb
      simp only at hx
      obtain ⟨K, hK⟩ : ∃ K, K = (if hasDraw c then List.range fn.ntmps else nub (freeC c ++ fn.results.toList.map resTmp) []) := ⟨_, rfl⟩
      rw [← hK] at hx
      split at hx
      · rename_i X rs h1 h2
        cases hx
        unfold xfn at h
        simp only [List.range_eq_range'] at h
        obtain ⟨hlen, env, h, henv, hoth⟩ := initK_ok K fn.ntmps 0 args .nil _ r h
        have hsz : args'.size ≤ fn.ntmps := by
          have := ha.1
          simp at this; omega
        have hlen2 : args.length = args'.size := by have := ha.1; simpa using this
        have hv : VarRel K fn.ntmps g env { tmps := args' ++ Array.replicate (fn.ntmps - args'.size) undef, defers := [] } := by
          refine ⟨rfl, by simp; omega, fun t p hp => ?_, fun t q1 q2 q3 => ?_⟩
          rotate_left
          · rw [hoth _ q3]
            have e3 : (Tr.get (.nil : XEnv) (path t)) = none := by cases path t <;> rfl
            rw [e3]
            exact .tuple _ _ rfl fun i h => by simp at h
          rw [henv t p hp]
          by_cases ht : t < args.length
          · rw [if_pos (by omega)]
            have ht' : t < args'.size := by omega
            have e2 : (args' ++ Array.replicate (fn.ntmps - args'.size) undef).getD t undef = args'[t] := by
              rw [Array.getD_eq_getD_getElem?, Array.getElem?_append_left ht']; simp [ht']
            rw [e2]
            have := ha.2 t (by simpa using ht) ht'
            have e3 : args.getD (t - 0) (.oth undef) = args[t] := by simp [List.getD, ht]
            rw [e3]
            simpa [orUndef] using this
          · rw [if_neg (by omega)]
            have e2 : (args' ++ Array.replicate (fn.ntmps - args'.size) undef).getD t undef = undef := by
              rw [Array.getD_eq_getD_getElem?, Array.getElem?_append_right (by omega), Array.getElem?_replicate]
              split <;> rfl
            rw [e2]
            have e3 : (Tr.get (.nil : XEnv) p) = none := by cases p <;> rfl
            rw [e3]
            exact .tuple _ _ rfl fun i h => by simp at h
        have fin : ∀ (env' : XEnv) (σ' : St) (a' : Act) (w' : World) (g' : Gam), xret P rs env' σ' k = some r → Rel g' σ' w' → VarRel K fn.ntmps g' env' a' → Ext (fun A => σ.next ≤ A) g g' σ σ' w w' → a'.defers = [] ∧ ∃ v', (results fn a'.tmps).run P w' = .ok v' w' ∧ Q (.returned v') w' := by
          intro env' σ' a' w' g' q1 q2 q3 q4
          unfold xret at q1
          split at q1
          · rename_i vs hvs
            rw [take_eq] at q1
            obtain ⟨vs', e1, e2⟩ := xres_ok (P := P) q3 q2 _ _ _ h2 hvs
            have hrun : (results fn a'.tmps).run P w' = .ok (packed vs') w' := by
              obtain ⟨F, hF⟩ : ∃ F : ResultVar → Sem Value, F = fun (x : ResultVar) => (match x with | .tmp t => pure (a'.tmps.getD t undef) | .cell a t => do loadVar t (← asAddr (a'.tmps.getD a undef)) : Sem Value) := ⟨_, rfl⟩
              have hdef : results fn a'.tmps = (do let vs ← fn.results.mapM F; pure (if h : vs.size = 1 then vs[0] else .tuple vs)) := by
                rw [hF]; rfl
              have hm : (fn.results.mapM F).run P w' = .ok vs'.toArray w' := by
                rw [← Array.toArray_toList (xs := fn.results), List.mapM_toArray]
                rw [hF]
                simp only [Sem.run_map, e1, Result.andThen_ok]
              rw [hdef]
              simp only [Sem.run_bind, hm, Result.andThen_ok, Sem.run_pure]
              congr 1
              unfold packed
              match vs', e2 with
              | [], _ => rfl
              | [v], _ => rfl
              | _ :: _ :: _, _ => simp
            have hrel : VRel g' (packed vs) (packed vs') := by
              unfold packed
              match vs, vs', e2 with
              | [], [], _ => exact .tuple _ _ rfl fun i h => by simp at h
              | [v], [v'], e2 => exact e2.2 0 (by simp) (by simp)
              | x :: y :: r, x' :: y' :: r', e2 => exact .tuple _ _ (by simpa using e2.1) fun i h1 h2 => by simpa using e2.2 i (by simpa using h1) (by simpa using h2)
              | [], _ :: _, e2 => have := e2.1; simp at this
              | _ :: _, [], e2 => have := e2.1; simp at this
              | [_], _ :: _ :: _, e2 => have := e2.1; simp at this
              | _ :: _ :: _, [_], e2 => have := e2.1; simp at this
            exact ⟨q3.defers, _, hrun, hk _ σ' _ w' g' q1 (by rw [xvOf_out]; exact hrel) q2 q4⟩
          · cases q1
        refine calls_of_wp hf hb (xcode_ok hc hm hd lf c X h1 (fun hh => by rw [hK, if_pos hh]) env σ g w _ _ r _ hg hr hv h fun ex env' σ' a' w' g' q1 q2 q3 q4 => ?_)
        cases ex with
        | normal => exact fin env' σ' a' w' g' q1 q2 q3 q4
        | ret => exact fin env' σ' a' w' g' q1 q2 q3 q4
        | exit id => cases q1
      · cases hx
    · cases hx
  · cases hx

theorem xF_ok {P : Program} {gl : List Nat} (hm : P.follows .mixedOrders = true) {tab : FuncId → Option XFn} (ht : ∀ f xf, tab f = some xf → compFn P gl f = some xf) {ext : FuncId → Option CallF} (he : ∀ f c, ext f = some c → ∀ args σ v σ', c f args σ = some (v, σ') → SimF P gl f args σ v σ')
    {draw : KF → DrawK} (hd : ∀ kf : KF, kf.ok P gl → DrawKOk P gl (draw kf)) (lf : Nat) : ∀ n, (xF P tab ext draw lf n).ok P gl
  | 0 => fun f vs σ k r h => by cases h
  | n + 1 => by
    intro f vs σ k r h g w args' Q hg hr ha hk
    have ih := xF_ok hm ht he hd lf n
    have h : (match ext f with
      | some c => match c f (vs.map XV.out).toArray σ with
        | some (v, σ') => take v fun v => k v σ'
        | none => match tab f with
          | some xf => xfn P (xF P tab ext draw lf n) (draw (xF P tab ext draw lf n)) lf xf vs σ k
          | none => none
      | none => match tab f with
        | some xf => xfn P (xF P tab ext draw lf n) (draw (xF P tab ext draw lf n)) lf xf vs σ k
        | none => none) = some r := h
    have code : (match tab f with
        | some xf => xfn P (xF P tab ext draw lf n) (draw (xF P tab ext draw lf n)) lf xf vs σ k
        | none => none) = some r → Calls P f args' w Q := by
      intro h
      split at h
      · rename_i xf hxf
        exact xfn_ok ih hm (hd _ ih) lf (ht f xf hxf) h hg hr ha hk
      · cases h
    split at h
    · rename_i c hc
      split at h
      · rename_i v σ' hcv
        rw [take_eq] at h
        refine (he f c hc _ _ _ _ hcv g w args' hg hr ha).mono ?_
        rintro e w' ⟨v', g', rfl, q1, q2, q3⟩
        exact hk (xvOf v) σ' v' w' g' h (by rw [xvOf_out]; exact q1) q2 q3
      · exact code h
    · exact code h
end Go.Ev
