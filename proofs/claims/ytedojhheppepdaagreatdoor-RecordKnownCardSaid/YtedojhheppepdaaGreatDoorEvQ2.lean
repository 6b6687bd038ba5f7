/-
  A quicker evaluator of code, over any program: rows that draw their order, where the order is of no matter by sight: the run, row by row. No condition.
-/
import Derived.Test.YtedojhheppepdaaGreatDoorEvQ
namespace Go.Ev
open Go
set_option linter.unusedVariables false
set_option linter.unusedSimpArgs false

section
variable {P : Program} {gl : List Nat} {call : KF} {ops : Array Oper} {N base : Nat} {B : List Nat}

theorem pendL_q {R : List TRow} {r : TRow} (hs : OkDraw P ops B) (h4 : (r.k == 4) = false) (h2 : (r.k == 2) = false) : pendL base B (R ++ [r]) = pendL base B R := by
  rw [pendL_snoc (P := P) (ops := ops) hs h4, h2]
  simp
theorem pendL_a {R : List TRow} {r : TRow} (hs : OkDraw P ops B) (h2 : r.k = 2) : pendL base B (R ++ [r]) = pendL base B R ++ [(base + R.length, r.ao)] := by
  rw [pendL_snoc (P := P) (ops := ops) hs (by rw [h2]; rfl), h2]
  rfl
theorem eputo_env {env : XEnv} {o : Oper} {v : XV} (hd : ∀ d, o.dst = some d → d < N) : mapT XV.out (putE (dstVar (List.range N) o.dst) v env) = eputo (mapT XV.out env) o.dst v.out := by
  cases h : o.dst with
  | none => rfl
  | some d =>
    have : dstVar (List.range N) (some d) = some (path d) := varOf_range_in (hd d h)
    rw [this]
    exact mapT_set _ _ _ _

theorem eget_mapT (env : XEnv) (t : Nat) : eget (mapT XV.out env) t = (orUndef (env.get (path t))).out := by
  unfold eget
  rw [get_mapT]
  cases env.get (path t) <;> rfl

/-- The guard, as it is asked. -/
theorem guard_spec {o : Oper} {g : Option (XArg × Bool)} (hg : compDG (List.range N) ops o = some g) {env : XEnv} {A C : R} {r : Value × St}
    (h : (Option.casesOn g A (fun gw => XV.casesOn (gw.1.get env []) (fun _ _ => C) (fun b => cond (b == gw.2) A C) (fun _ _ => C) (fun v => match v with
          | .bool _ => none
          | _ => C)) : R) = some r) : (wantedA ops (mapT XV.out env) o = true ∧ A = some r) ∨ (wantedA ops (mapT XV.out env) o = false ∧ C = some r) := by
  unfold compDG at hg
  unfold wantedA
  cases hgd : o.guard with
  | none =>
    rw [hgd] at hg
    cases hg
    exact .inl ⟨rfl, h⟩
  | some p =>
    obtain ⟨j, want⟩ := p
    rw [hgd] at hg
    simp only at hg ⊢
    cases hd : (ops[j]?).bind (·.dst) with
    | none => rw [hd] at hg; cases hg
    | some d =>
      rw [hd] at hg
      simp only at hg
      obtain ⟨a, ha, rfl⟩ := map_some hg
      rw [resolve_tmp] at ha
      simp only [look] at ha
      obtain ⟨p, hp, rfl⟩ := map_some ha
      obtain ⟨_, rfl⟩ := varOf_range hp
      have hy : yieldsA ops (mapT XV.out env) j = boolOf (orUndef (env.get (path d))).out := by
        unfold yieldsA
        rw [hd]
        simp only [eget_mapT]
        unfold boolOf
        cases (orUndef (env.get (path d))).out <;> rfl
      have h : (XV.casesOn ((XArg.var (path d)).get env []) (fun _ _ => C) (fun b => cond (b == want) A C) (fun _ _ => C) (fun v => match v with
          | .bool _ => none
          | _ => C) : R) = some r := h
      rw [get_var] at h
      rw [hy]
      generalize orUndef (env.get (path d)) = x at h ⊢
      cases x with
      | nat _ _ => exact .inr ⟨rfl, h⟩
      | nxt _ _ => exact .inr ⟨rfl, h⟩
      | bool b =>
        have h : cond (b == want) A C = some r := h
        simp only [boolOf, XV.out]
        cases hb : b == want with
        | true => rw [hb] at h; exact .inl ⟨by have := (by simpa using hb : b = want); simp [this], h⟩
        | false => rw [hb] at h; exact .inr ⟨by have := (by simpa using hb : b ≠ want); simp [this], h⟩
      | oth v =>
        cases v <;> first | (cases h; done) | exact .inr ⟨rfl, h⟩

theorem compDI_spec {o : Oper} {n : Nat} {b : Bool} {d : DI} (h : compDI P (List.range N) n o = some (b, d)) : (∀ x ∈ o.op.operands, (resolve [] (List.range N) 0 x).isSome = true) ∧ compDI0 P (List.range N) n o = some (b, d) := by
  unfold compDI at h
  cases hc : o.op.operands.toList.all (fun x => (resolve [] (List.range N) 0 x).isSome) with
  | false => rw [hc] at h; cases h
  | true =>
    rw [hc] at h
    rw [List.all_eq_true] at hc
    exact ⟨fun x hx => hc x (by simpa using hx), h⟩

/-- One operation's run. -/
theorem xdrun_spec (hc : call.ok P gl) {o : Oper} {n : Nat} {b : Bool} {d : DI} (h : compDI P (List.range N) n o = some (b, d)) {g : Option (XArg × Bool)} {p : Option (List Bool)} {env : XEnv} {τ : St} {pend : List (Nat × AObj)} {k : XV → St → List (Nat × AObj) → R} {r : Value × St}
    (e : xdrun P call ⟨b, g, p, d⟩ env base τ pend k = some r) :
    (∃ v : XV, clsOf P o.op = .pure ∧ PureW P (rho (mapT XV.out env)) o v.out ∧ k v τ pend = some r) ∨
    (∃ v : XV, clsOf P o.op = .read ∧ evalOp P (rho (mapT XV.out env)) (base + n) o τ = some (.val v.out τ) ∧ k v τ pend = some r) ∨
    (∃ (v : XV) (ao : AObj), clsOf P o.op = .alloc ∧ AllocW P (rho (mapT XV.out env)) o (base + n) v.out ao ∧ k v τ (pend ++ [(base + n, ao)]) = some r) ∨
    (∃ (v : XV) (σ' : St), clsOf P o.op = .loud ∧ (∃ ρ, (∀ x ∈ o.op.operands, ρ x = rho (mapT XV.out env) x) ∧ StepR P gl ρ (base + n) o (pend.foldl (fun σ x => σ.set x.1 x.2) τ) v.out σ') ∧ k v σ' [] = some r) := by
  obtain ⟨hres, h⟩ := compDI_spec h
  have hrx : ∀ x ∈ o.op.operands, rhoX [] (List.range N) 0 env [] x = rho (mapT XV.out env) x := fun x hx => rhoX_rho (hres x hx)
  have hrg : ∀ m, resolveT [] (List.range N) 0 o.op.operands.toList = some m → ∀ x ∈ o.op.operands, rgen m env [] x = rho (mapT XV.out env) x := fun m hm x hx => by
    rw [resolveT_spec _ m hm x (by simpa using hx)]; exact hrx x hx
  unfold compDI0 at h
  cases hcl : clsOf P o.op with
  | pure =>
    rw [hcl] at h
    obtain ⟨i, hi, he⟩ := map_some h
    cases he
    have e : xins P call i env [] base τ (fun v σ => k v σ pend) = some r := e
    obtain ⟨ρ, hρ, v, σ', hst, hk⟩ := compIns_ok2 (call := call) (gl := gl) (.inl (.inl hcl)) hi env [] base τ _ r e
    obtain ⟨rfl, hp⟩ := stepR_pure hcl hst
    exact .inl ⟨v, rfl, hp.congr fun x hx => (hρ x hx).trans (hrx x hx), hk⟩
  | read =>
    rw [hcl] at h
    simp only at h
    cases hl : isLoadOp o.op with
    | false => rw [hl] at h; cases h
    | true =>
      rw [hl] at h
      obtain ⟨i, hi, he⟩ := map_some h
      cases he
      have e : xins P call i env [] base τ (fun v σ => k v σ pend) = some r := e
      cases ho : o.op with
      | load t x =>
        have hcg := load_congr (P := P) (ρ := rhoX [] (List.range N) 0 env []) (ρ2 := rho (mapT XV.out env)) (id := base + n) (σ := τ) ho hrx
        unfold compIns at hi
        rw [ho] at hi
        simp only at hi
        split at hi
        · rename_i hld
          obtain ⟨a, ha, rfl⟩ := map_some hi
          obtain ⟨v, h1, h2⟩ := load1_ev (n := n) ho hld ha env [] base τ (fun v σ => k v σ pend) r e
          exact .inr (.inl ⟨v, rfl, by rw [← hcg]; exact h1, h2⟩)
        · rename_i m hld
          obtain ⟨a, ha, rfl⟩ := map_some hi
          obtain ⟨v, h1, h2⟩ := loadN_ev (n := n) ho hld ha env [] base τ (fun v σ => k v σ pend) r e
          exact .inr (.inl ⟨v, rfl, by rw [← hcg]; exact h1, h2⟩)
        · cases hi
      | _ => rw [ho] at hl; cases hl
  | alloc =>
    rw [hcl] at h
    obtain ⟨m, hm, he⟩ := map_some h
    cases he
    have e : xdi P call (.al o m n) env base τ (fun v ao τ' => k v τ' (pushP ao pend)) = some r := e
    simp only [xdi] at e
    split at e
    · rename_i v σ' he
      obtain ⟨v2, ao, q1, q2⟩ := evalOp_alloc hcl he
      cases q1
      split at e
      · rename_i ao2 hb
        rw [blk_eq, St.get_set, if_pos rfl] at hb
        cases hb
        rw [take_eq] at e
        refine .inr (.inr (.inl ⟨xvOf v, ao, rfl, ?_, e⟩))
        rw [xvOf_out]
        exact AllocW.congr (ρ := rgen m env []) ⟨q2.2.1, q2.2.2⟩ (hrg m hm)
      · cases e
    · cases e
  | loud =>
    rw [hcl] at h
    simp only at h
    cases hs : isStoreOp o.op with
    | true =>
      rw [hs] at h
      obtain ⟨i, hi, he⟩ := map_some h
      cases he
      have e : instK pend τ (fun σ => xins P call i env [] base σ (fun v σ => k v σ [])) = some r := e
      rw [instK_eq] at e
      obtain ⟨ρ, hρ, v, σ', hst, hk⟩ := compIns_ok2 (call := call) (gl := gl) (.inr hs) hi env [] base _ _ r e
      exact .inr (.inr (.inr ⟨v, σ', rfl, ⟨ρ, fun x hx => (hρ x hx).trans (hrx x hx), hst⟩, hk⟩))
    | false =>
      rw [hs] at h
      obtain ⟨m, hm, he⟩ := map_some h
      cases he
      have e : instK pend τ (fun σ => xdi P call (.gen o m n) env base σ (fun v _ σ => k v σ [])) = some r := e
      rw [instK_eq] at e
      simp only [xdi] at e
      split at e
      · rename_i v σ' he
        rw [normK_eq, take_eq] at e
        exact .inr (.inr (.inr ⟨xvOf v, σ', rfl, ⟨_, hrg m hm, by rw [xvOf_out]; exact .inl he⟩, e⟩))
      · rename_i f args he
        rw [takes_eq] at e
        unfold dcall at e
        split at e
        · rename_i v σ' hcall
          rw [take_eq] at e
          have hsim := dcall_sim hc hcall
          have h2 : ((args.toList.map xvOf).map XV.out).toArray = args := by
            rw [List.map_map]
            have : (XV.out ∘ xvOf) = id := funext xvOf_out
            rw [this, List.map_id]
          rw [h2] at hsim
          exact .inr (.inr (.inr ⟨xvOf v, σ', rfl, ⟨_, hrg m hm, by rw [xvOf_out]; exact .inr (.inl ⟨f, args, he, hsim⟩)⟩, e⟩))
        · cases e
      · cases e

theorem xdq_spec (hc : call.ok P gl) (hs : OkDraw P ops B) (hq : ∀ (i : Nat) (o : Oper), ops[i]? = some o → clsOf P o.op = .loud → ∀ (k : Nat) (ok : Oper), ops[k]? = some ok → (clsOf P ok.op = .alloc → k < i → bit B i k = true) ∧ (clsOf P ok.op = .read → bit B i k = true ∨ bit B k i = true))
    (hok : ∀ o ∈ ops.toList, okOper gl N o = true) {k : XEnv → St → R} {r : Value × St} : ∀ (l : List Oper) (X : List DQ) (env : XEnv) (τ : St) (Rw : List TRow),
    compDQ P (List.range N) ops l Rw.length = some X → (∀ j o, l[j]? = some o → ops[Rw.length + j]? = some o) → Rw.length + l.length = ops.size →
    (∀ j, j < Rw.length → ral Rw j = true → ∃ o, ops[j]? = some o ∧ clsOf P o.op = .alloc) →
    xdq P call X env base τ (pendL base B Rw) k = some r →
    ∃ (R' : List TRow) (env' : XEnv) (τ' : St), (∃ S, R' = Rw ++ S ∧ S.length = l.length) ∧ k env' (instL base (rao R') (pendAt (rlo R') (ral R') B ops.size) τ') = some r ∧
      renv R' (mapT XV.out env') Rw.length = mapT XV.out env ∧ rst R' τ' Rw.length = τ ∧
      ∀ j o, l[j]? = some o → renv R' (mapT XV.out env') (Rw.length + j + 1) = eputo (renv R' (mapT XV.out env') (Rw.length + j)) o.dst (rval R' (Rw.length + j)) ∧
        RowOk2 P gl ops base B (renv R' (mapT XV.out env')) (rst R' τ') (rval R') (rao R') (rlo R') (ral R') (Rw.length + j) o
  | [], X, env, τ, Rw, hX, hl, hlen, hal, h => by
    simp only [compDQ, Option.some.injEq] at hX
    subst hX
    have h : instK (pendL base B Rw) τ (fun σ => k env σ) = some r := h
    rw [instK_eq, pendL_inst] at h
    simp only [List.length_nil, Nat.add_zero] at hlen
    refine ⟨Rw, env, τ, ⟨[], by simp⟩, by rw [← hlen]; exact h, ?_, ?_, fun j o hj => by simp at hj⟩
    · unfold renv; rw [List.getElem?_eq_none (Nat.le_refl _)]
    · unfold rst; rw [List.getElem?_eq_none (Nat.le_refl _)]
  | o :: l, X, env, τ, Rw, hX, hl, hlen, hal, h => by
    have hoi : ops[Rw.length]? = some o := by have := hl 0 o rfl; simpa using this
    have hd : ∀ d, o.dst = some d → d < N := okDst (hok o (by rw [Array.mem_toList_iff]; exact Array.mem_of_getElem? hoi))
    simp only [compDQ] at hX
    split at hX
    · rename_i b d g X2 hdi hdg hX2
      cases hX
      -- the rows behind
      have behind : ∀ (r0 : TRow) (v : XV) (τ2 : St), r0.v = v.out → r0.env = mapT XV.out env → r0.st = τ →
          xdq P call X2 (putE (dstVar (List.range N) o.dst) v env) base τ2 (pendL base B (Rw ++ [r0])) k = some r → ((r0.k == 2) = true → clsOf P o.op = .alloc) →
          (∀ (R' : List TRow) (e' : Env) (τ' : St), (∃ S, R' = Rw ++ r0 :: S) → renv R' e' Rw.length = mapT XV.out env → rst R' τ' Rw.length = τ → rst R' τ' (Rw.length + 1) = τ2 → rval R' Rw.length = v.out → rao R' Rw.length = r0.ao → rlo R' Rw.length = (r0.k == 4) → ral R' Rw.length = (r0.k == 2) →
            RowOk2 P gl ops base B (renv R' e') (rst R' τ') (rval R') (rao R') (rlo R') (ral R') Rw.length o) →
          ∃ (R' : List TRow) (env' : XEnv) (τ' : St), (∃ S, R' = Rw ++ S ∧ S.length = (o :: l).length) ∧ k env' (instL base (rao R') (pendAt (rlo R') (ral R') B ops.size) τ') = some r ∧
            renv R' (mapT XV.out env') Rw.length = mapT XV.out env ∧ rst R' τ' Rw.length = τ ∧
            ∀ j o', (o :: l)[j]? = some o' → renv R' (mapT XV.out env') (Rw.length + j + 1) = eputo (renv R' (mapT XV.out env') (Rw.length + j)) o'.dst (rval R' (Rw.length + j)) ∧
              RowOk2 P gl ops base B (renv R' (mapT XV.out env')) (rst R' τ') (rval R') (rao R') (rlo R') (ral R') (Rw.length + j) o' := by
        intro r0 v τ2 hv he hst hrun hk2 hrow
        have hlen2 : (Rw ++ [r0]).length = Rw.length + 1 := by simp
        obtain ⟨R', env', τ', ⟨S, hS, hSl⟩, h1, h2, h3, h4⟩ := xdq_spec hc hs hq hok l X2 _ τ2 (Rw ++ [r0]) (by rw [hlen2]; exact hX2) (fun j o' hj => by rw [hlen2]; have := hl (j + 1) o' (by simpa using hj); rwa [show Rw.length + 1 + j = Rw.length + (j + 1) by omega])
          (by rw [hlen2]; simp at hlen; omega) (fun j hj ha => by
            rw [hlen2] at hj
            by_cases e : j = Rw.length
            · subst e
              have : ral (Rw ++ [r0]) Rw.length = (r0.k == 2) := by unfold ral; rw [row_new]
              exact ⟨o, hoi, hk2 (by rw [← this]; exact ha)⟩
            · have hlt : j < Rw.length := by omega
              rw [ral_old hlt] at ha
              exact hal j hlt ha) hrun
        have hR' : R' = Rw ++ r0 :: S := by rw [hS]; simp
        have hget : R'[Rw.length]? = some r0 := by rw [hR']; exact row_new
        have e1 : renv R' (mapT XV.out env') Rw.length = mapT XV.out env := by unfold renv; rw [hget]; exact he
        have e2 : rst R' τ' Rw.length = τ := by unfold rst; rw [hget]; exact hst
        have e3 : rval R' Rw.length = v.out := by unfold rval; rw [hget]; exact hv
        have e4 : rlo R' Rw.length = (r0.k == 4) := by unfold rlo; rw [hget]
        have e5 : ral R' Rw.length = (r0.k == 2) := by unfold ral; rw [hget]
        have e6 : rao R' Rw.length = r0.ao := by unfold rao; rw [hget]
        rw [hlen2] at h2 h3 h4
        refine ⟨R', env', τ', ⟨r0 :: S, hR', by simp [hSl]⟩, h1, e1, e2, fun j o' hj => ?_⟩
        cases j with
        | succ j =>
          have := h4 j o' (by simpa using hj)
          rw [show Rw.length + (j + 1) = Rw.length + 1 + j by omega]
          exact this
        | zero =>
          simp only [List.getElem?_cons_zero, Option.some.injEq] at hj
          subst hj
          simp only [Nat.add_zero]
          refine ⟨by rw [h2, e1, e3, eputo_env hd], hrow R' _ τ' ⟨S, hR'⟩ e1 e2 h3 e3 e6 e4 e5⟩
      rcases guard_spec hdg h with ⟨hw, h⟩ | ⟨hw, h⟩
      · rcases xdrun_spec hc hdi h with ⟨v, hcl, hp, hk⟩ | ⟨v, hcl, hp, hk⟩ | ⟨v, ao, hcl, hp, hk⟩ | ⟨v, σ', hcl, hp, hk⟩
        · rw [putK_eq] at hk
          refine behind ⟨v.out, 1, .iter .empty 0, mapT XV.out env, τ⟩ v τ rfl rfl rfl (by rw [pendL_q (P := P) (ops := ops) hs rfl rfl]; exact hk) (fun q => by cases q) fun R' e' τ' _ q1 q2 q3 q4 q5 q6 q7 => ?_
          refine .inr (.inl ⟨by rw [q1]; exact hw, q6, q7, by rw [q3, q2], by rw [q1, q4]; exact hp⟩)
        · rw [putK_eq] at hk
          refine behind ⟨v.out, 3, .iter .empty 0, mapT XV.out env, τ⟩ v τ rfl rfl rfl (by rw [pendL_q (P := P) (ops := ops) hs rfl rfl]; exact hk) (fun q => by cases q) fun R' e' τ' _ q1 q2 q3 q4 q5 q6 q7 => ?_
          refine .inr (.inr (.inr (.inl ⟨by rw [q1]; exact hw, q6, q7, by rw [q3, q2], hcl, by rw [q1, q2, q4]; exact hp⟩)))
        · rw [putK_eq] at hk
          refine behind ⟨v.out, 2, ao, mapT XV.out env, τ⟩ v τ rfl rfl rfl (by rw [pendL_a (P := P) (ops := ops) hs rfl]; exact hk) (fun _ => hcl) fun R' e' τ' _ q1 q2 q3 q4 q5 q6 q7 => ?_
          refine .inr (.inr (.inl ⟨by rw [q1]; exact hw, q6, q7, by rw [q3, q2], by rw [q1, q4, q5]; exact hp⟩))
        · rw [putK_eq] at hk
          have hall : ∀ k, k < Rw.length → ral Rw k = true → bit B Rw.length k = true := fun k hk2 ha => by
            obtain ⟨ok, h1, h2⟩ := hal k hk2 ha
            exact (hq _ o hoi hcl k ok h1).1 h2 hk2
          refine behind ⟨v.out, 4, .iter .empty 0, mapT XV.out env, τ⟩ v σ' rfl rfl rfl (by rw [pendL_loud rfl hall]; exact hk) (fun q => by cases q) fun R' e' τ' hS q1 q2 q3 q4 q5 q6 q7 => ?_
          obtain ⟨S, hS⟩ := hS
          refine .inr (.inr (.inr (.inr ⟨by rw [q1]; exact hw, q6, q7, hcl, ?_⟩)))
          obtain ⟨ρ, hρ, hst⟩ := hp
          rw [pendL_inst] at hst
          refine ⟨ρ, fun x hx => by rw [q1]; exact hρ x hx, ?_⟩
          rw [q2, q3, q4]
          have e1 : instAt (rlo R') (ral R') B Rw.length = pendAt (rlo Rw) (ral Rw) B Rw.length := by
            rw [instAt_congr (lo' := rlo Rw) (al' := ral Rw) (fun j hj => by rw [hS]; exact rlo_old hj) (fun j hj => by rw [hS]; exact ral_old hj)]
            exact inst_pend hall
          rw [e1, instL_congr (ao' := rao Rw)]
          · exact hst
          · intro k hk2
            rw [hS]; exact rao_old (pendAt_lt hk2)
      · rw [putK_eq] at h
        refine behind ⟨undef, 0, .iter .empty 0, mapT XV.out env, τ⟩ (.oth undef) τ rfl rfl rfl (by rw [pendL_q (P := P) (ops := ops) hs rfl rfl]; exact h) (fun q => by cases q) fun R' e' τ' _ q1 q2 q3 q4 q5 q6 q7 => ?_
        refine .inl ⟨by rw [q1]; exact hw, q4, q6, q7, by rw [q3, q2]⟩
    · cases hX

theorem xdrawq_ok (hc : call.ok P gl) (hm : P.follows .mixedOrders = true) {id : Nat} {X : List DQ} (hQ : okQ P ops (befores ops) = true) (hX : compDQ P (List.range N) ops ops.toList 0 = some X) (hok : ∀ o ∈ ops.toList, okOper gl N o = true ∧ okGuard ops N o = true)
    {env : XEnv} {σ : St} {k : XEnv → St → R} {r : Value × St} (h : xdq P call X env σ.next (σ.bump ops.size) [] k = some r) :
    ∃ (env' : XEnv) (σ' : St), k env' σ' = some r ∧ SimC P gl N (.region id ops true) (mapT XV.out env) σ .normal (mapT XV.out env') σ' := by
  obtain ⟨hdr, hq⟩ := okQ_spec hQ
  have hs := okDraw_ok hdr
  obtain ⟨R', env', τ', ⟨S, hS, hSl⟩, h1, h2, h3, h4⟩ := xdq_spec (base := σ.next) hc hs hq (fun o ho => (hok o ho).1) ops.toList X env (σ.bump ops.size) [] hX (fun j o hj => by simpa using hj) (by simp) (fun j hj => by simp at hj) h
  simp only [List.nil_append] at hS
  subst hS
  simp only [Array.length_toList] at hSl
  simp only [List.length_nil, Nat.zero_add] at h2 h3 h4
  have hlast1 : renv R' (mapT XV.out env') ops.size = mapT XV.out env' := by unfold renv; rw [List.getElem?_eq_none (by omega)]
  have hlast2 : rst R' τ' ops.size = τ' := by unfold rst; rw [List.getElem?_eq_none (by omega)]
  have ht : Trc P gl ops σ.next (befores ops) (renv R' (mapT XV.out env')) (rst R' τ') (rval R') (rao R') (rlo R') (ral R') := by
    refine ⟨fun i o ho => (h4 i o (by simpa using ho)).1, fun i o ho => ?_, fun i hi => ?_, fun i hi => ?_⟩
    · rcases (h4 i o (by simpa using ho)).2 with q | q | q | q | q
      · exact .inl q
      · exact .inr (.inl q)
      · exact .inr (.inr (.inl q))
      · obtain ⟨k1, k2, k3, k4, k5, k6⟩ := q
        refine .inr (.inr (.inr (.inl ⟨k1, k2, k3, k4, k5, k6, fun j hj hl b1 b2 => ?_⟩)))
        exfalso
        have hoj : ops[j]? = some ops[j] := Array.getElem?_eq_getElem hj
        rcases (h4 j ops[j] (by simp [hj])).2 with q | q | q | q | q
        · rw [hl] at q; cases q.2.2.1
        · rw [hl] at q; cases q.2.1
        · rw [hl] at q; cases q.2.1
        · rw [hl] at q; cases q.2.1
        · rcases (hq j _ hoj q.2.2.2.1 i o ho).2 k5 with p | p
          · rw [b2] at p; cases p
          · rw [b1] at p; cases p
      · exact .inr (.inr (.inr (.inr ⟨q.1, q.2.1, q.2.2.1, q.2.2.2.2⟩)))
    · have hin : i < ops.size := by
        rcases Nat.lt_or_ge i ops.size with q | q
        · exact q
        · unfold rlo at hi; rw [List.getElem?_eq_none (by omega)] at hi; cases hi
      refine ⟨ops[i], Array.getElem?_eq_getElem hin, ?_⟩
      rcases (h4 i ops[i] (by simp [hin])).2 with q | q | q | q | q
      · rw [hi] at q; cases q.2.2.1
      · rw [hi] at q; cases q.2.1
      · rw [hi] at q; cases q.2.1
      · rw [hi] at q; cases q.2.1
      · exact q.2.2.2.1
    · rcases Nat.lt_or_ge i ops.size with q | q
      · exact q
      · unfold ral at hi; rw [List.getElem?_eq_none (by omega)] at hi; cases hi
  have := simC_draw (id := id) hm hs ht h2 h3 hok
  rw [hlast1, hlast2] at this
  exact ⟨env', _, h1, this⟩
end
end Go.Ev
