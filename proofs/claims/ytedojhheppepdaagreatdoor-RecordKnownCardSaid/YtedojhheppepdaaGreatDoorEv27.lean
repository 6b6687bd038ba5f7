/-
  A quicker evaluator of code, over any program: code, functions, calls to a depth. No condition.
-/
import Derived.Test.YtedojhheppepdaaGreatDoorEvQ2
namespace Go.Ev
open Go
set_option linter.unusedVariables false
set_option linter.unusedSimpArgs false

abbrev DrawK := Array Oper → List Nat → XEnv → St → (XEnv → St → R) → R
def DrawKOk (P : Program) (gl : List Nat) (draw : DrawK) : Prop := ∀ (N id : Nat) (ops : Array Oper) (env : XEnv) (σ : St) (k : XEnv → St → R) (r : Value × St) (g : Gam) (w : World) (a : Act) (Q : Exit → Act → World → Prop),
  draw ops (List.range N) env σ k = some r → (∀ o ∈ ops.toList, okOper gl N o = true ∧ okGuard ops N o = true) → Glob gl g → Rel g σ w → VarRel (List.range N) N g env a →
  (∀ env' σ' a' w' g', k env' σ' = some r → Rel g' σ' w' → VarRel (List.range N) N g' env' a' → Ext (fun A => σ.next ≤ A) g g' σ σ' w w' → Q .normal a' w') → (Code.region id ops true).wp P Q a w

section
variable {P : Program} {gl : List Nat} {K : List Nat} {N : Nat}

/-- What code made ready does. -/
def XOk (P : Program) (gl : List Nat) (K : List Nat) (N : Nat) (c : Code) (f : XEnv → St → (Ex → XEnv → St → R) → R) : Prop :=
  ∀ (env : XEnv) (σ : St) (g : Gam) (w : World) (a : Act) (k : Ex → XEnv → St → R) (r : Value × St) (Q : Exit → Act → World → Prop), Glob gl g → Rel g σ w → VarRel K N g env a → f env σ k = some r →
    (∀ ex env' σ' a' w' g', k ex env' σ' = some r → Rel g' σ' w' → VarRel K N g' env' a' → Ext (fun A => σ.next ≤ A) g g' σ σ' w w' → Q ex.to a' w') → c.wp P Q a w

theorem Ext.after {g g1 g2 : Gam} {σ σ1 σ2 : St} {w w1 w2 : World} (h : Ext (fun A => σ.next ≤ A) g g1 σ σ1 w w1) (k : Ext (fun A => σ1.next ≤ A) g1 g2 σ1 σ2 w1 w2) : Ext (fun A => σ.next ≤ A) g g2 σ σ2 w w2 :=
  h.trans (k.mono fun A hA => Nat.le_trans h.next hA)

theorem xloop_ok {c : Code} {body : XEnv → St → (Ex → XEnv → St → R) → R} (hb : XOk P gl K N c body) {k : Ex → XEnv → St → R} {r : Value × St} {Q : Exit → Act → World → Prop} : ∀ (n : Nat) (env : XEnv) (σ : St) (g : Gam) (w : World) (a : Act), Glob gl g → Rel g σ w → VarRel K N g env a →
    xloop body n env σ k = some r → (∀ ex env' σ' a' w' g', k ex env' σ' = some r → Rel g' σ' w' → VarRel K N g' env' a' → Ext (fun A => σ.next ≤ A) g g' σ σ' w w' → Q ex.to a' w') → Code.rounds P c Q n a w
  | 0, _, _, _, _, _, _, _, _, h, _ => by cases h
  | n + 1, env, σ, g, w, a, hg, hr, hv, h, hk => by
    rw [rounds_succ]
    have h : body env σ (fun ex env σ => Ex.casesOn ex (xloop body n env σ k) (fun id => k (.exit id) env σ) (k .ret env σ)) = some r := h
    refine hb env σ g w a _ r _ hg hr hv h fun ex env' σ' a' w' g' q1 q2 q3 q4 => ?_
    cases ex with
    | normal => exact xloop_ok hb n env' σ' g' w' a' (hg.mono q4.le) q2 q3 q1 fun ex env2 σ2 a2 w2 g2 p1 p2 p3 p4 => hk ex env2 σ2 a2 w2 g2 p1 p2 p3 (q4.after p4)
    | exit id => exact hk (.exit id) env' σ' a' w' g' q1 q2 q3 q4
    | ret => exact hk .ret env' σ' a' w' g' q1 q2 q3 q4

theorem VarRel.envRel {N : Nat} {g : Gam} {env : XEnv} {a : Act} (h : VarRel (List.range N) N g env a) : EnvRel g N (mapT XV.out env) a := by
  refine ⟨h.defers, h.size, fun t => ?_⟩
  rw [eget_mapT]
  by_cases ht : t < N
  · exact h.vars t _ (varOf_range_in ht)
  · have e1 : a.tmps.getD t undef = undef := by
      have : ¬ t < a.tmps.size := by rw [h.size]; exact ht
      simp [this]
    rw [e1]
    refine h.rest t ?_ (by omega) fun t' p hp e => ?_
    · cases e2 : varOf (List.range N) t with
      | none => rfl
      | some p => have := (varOf_range e2).1; omega
    · obtain ⟨h1, rfl⟩ := varOf_range hp
      have := path_inj e
      omega
theorem EnvRel.varRel {N : Nat} {g : Gam} {env : XEnv} {a : Act} (h : EnvRel g N (mapT XV.out env) a) : VarRel (List.range N) N g env a := by
  refine ⟨h.defers, h.size, fun t p hp => ?_, fun t _ ht _ => ?_⟩
  · obtain ⟨_, rfl⟩ := varOf_range hp
    rw [← eget_mapT]; exact h.slot t
  · rw [← eget_mapT]
    have := h.slot t
    have e1 : a.tmps.getD t undef = undef := by
      have : ¬ t < a.tmps.size := by rw [h.size]; omega
      simp [this]
    rwa [e1] at this

theorem xcode_ok {call : KF} (hc : call.ok P gl) (hm : P.follows .mixedOrders = true) {draw : DrawK} (hd : DrawKOk P gl draw) (lf : Nat) : ∀ (c : Code) (X : XCode), comp P gl N K c = some X → (hasDraw c = true → K = List.range N) → XOk P gl K N c (xcode P call draw lf X) := by
  intro c
  induction c with
  | skip => intro X h _ env σ g w a k r Q hg hr hv he hk; simp only [comp] at h; cases h; exact wp_skip (hk .normal env σ a w g he hr hv (Ext.refl _ _ _ _))
  | label l => intro X h _ env σ g w a k r Q hg hr hv he hk; simp only [comp] at h; cases h; exact wp_label (hk .normal env σ a w g he hr hv (Ext.refl _ _ _ _))
  | ret => intro X h _ env σ g w a k r Q hg hr hv he hk; simp only [comp] at h; cases h; exact wp_ret (hk .ret env σ a w g he hr hv (Ext.refl _ _ _ _))
  | exit id => intro X h _ env σ g w a k r Q hg hr hv he hk; simp only [comp] at h; cases h; exact wp_exit (hk (.exit id) env σ a w g he hr hv (Ext.refl _ _ _ _))
  | region id ops dr =>
    intro X h hK env σ g w a k r Q hg hr hv he hk
    simp only [comp] at h
    split at h
    · rename_i hdr
      subst hdr
      split at h
      · rename_i hok
        simp only [List.all_eq_true, Bool.and_eq_true] at hok
        have := hK rfl
        subst this
        split at h
        · rename_i l hl
          cases h
          cases hQ : okQ P ops (befores ops) with
          | false => rw [hQ] at hl; cases hl
          | true =>
            rw [hQ] at hl
            obtain ⟨heap, fams, next, hint⟩ := σ
            have he : forceN next (fun next => forceN (Nat.add next ops.size) fun next' => xdq P call l env next ⟨heap, fams, next', hint⟩ [] fun env σ => k .normal env σ) = some r := he
            rw [forceN_eq, forceN_eq] at he
            obtain ⟨env', σ', h1, h2⟩ := xdrawq_ok (id := id) (σ := ⟨heap, fams, next, hint⟩) (k := fun env σ => k .normal env σ) hc hm hQ hl hok he
            refine wp_mono (h2 g w a hg hr hv.envRel) ?_
            rintro e a' w' ⟨rfl, g', r1, r2, r3⟩
            exact hk .normal env' σ' a' w' g' h1 r1 r2.varRel r3
        · cases h
          exact hd N id ops env σ _ r g w a Q he hok hg hr hv fun env' σ' a' w' g' q1 q2 q3 q4 => hk .normal env' σ' a' w' g' q1 q2 q3 q4
      · cases h
    · rename_i hdr
      obtain ⟨l, hl, rfl⟩ := map_some h
      have : dr = false := by simpa using hdr
      subst this
      obtain ⟨heap, fams, next, hint⟩ := σ
      have he : forceN next (fun next => forceN (Nat.add next ops.size) fun next' => xops P call l env [] next ⟨heap, fams, next', hint⟩ fun env σ => k .normal env σ) = some r := he
      rw [forceN_eq, forceN_eq] at he
      refine wp_region ?_
      have hrange : List.range ops.size = List.range' 0 ops.toList.length := by rw [List.range_eq_range']; simp
      rw [hrange]
      have hbump := Ext.bump (N := fun A => next ≤ A) g ⟨heap, fams, next, hint⟩ w ops.size
      refine xops_ok (base := next) hc ops.toList 0 0 [] l env [] ⟨heap, fams, next + ops.size, hint⟩ g w a hl (fun j o hj => by simpa using hj) (by simp) (fun t s hs => by cases hs) (Nat.le_refl _) (fun j _ _ => ?_) hg (hr.bump ops.size) ⟨hv, rfl, fun t b hb => ?_⟩ he fun env' σ' a' w' g' q1 q2 q3 q4 => ?_
      · cases e : St.get ⟨heap, fams, next + ops.size, hint⟩ (next + j) with
        | none => rfl
        | some o => have : next + j < next := hr.wf.lt _ o e; omega
      · rw [resolve_tmp] at hb
        simp only [look] at hb
        obtain ⟨p, hp, rfl⟩ := map_some hb
        rw [get_var]
        exact hv.vars t p hp
      · exact hk .normal env' σ' a' w' g' q1 q2 q3 (hbump.trans q4)
  | seq c1 c2 ih1 ih2 =>
    intro X h hK env σ g w a k r Q hg hr hv he hk
    simp only [comp] at h
    split at h
    · rename_i X1 X2 h1 h2
      cases h
      have he : xcode P call draw lf X1 env σ (fun ex env σ => Ex.casesOn ex (xcode P call draw lf X2 env σ k) (fun id => k (.exit id) env σ) (k .ret env σ)) = some r := he
      refine wp_seq (ih1 X1 h1 (fun hh => hK (by simp [hasDraw, hh])) env σ g w a _ r _ hg hr hv he fun ex env' σ' a' w' g' q1 q2 q3 q4 => ?_)
      cases ex with
      | normal => exact ih2 X2 h2 (fun hh => hK (by simp [hasDraw, hh])) env' σ' g' w' a' _ r _ (hg.mono q4.le) q2 q3 q1 fun ex env2 σ2 a2 w2 g2 p1 p2 p3 p4 => hk ex env2 σ2 a2 w2 g2 p1 p2 p3 (q4.after p4)
      | exit id => exact hk (.exit id) env' σ' a' w' g' q1 q2 q3 q4
      | ret => exact hk .ret env' σ' a' w' g' q1 q2 q3 q4
    · cases h
  | cond c t f iht ihf =>
    intro X h hK env σ g w a k r Q hg hr hv he hk
    simp only [comp] at h
    split at h
    · rename_i b X1 X2 hb h1 h2
      cases h
      have he : (XV.casesOn (b.get env []) (fun _ _ => none) (fun b => Bool.casesOn b (xcode P call draw lf X2 env σ k) (xcode P call draw lf X1 env σ k)) (fun _ _ => none) (fun _ => none) : R) = some r := he
      have hval : VRel g (b.get env []).out (a.eval c) := by
        cases c with
        | tmp t =>
          rw [resolve_tmp] at hb
          simp only [look] at hb
          obtain ⟨p, hp, rfl⟩ := map_some hb
          rw [get_var]
          exact hv.vars t p hp
        | const v =>
          cases hb
          show VRel g (xvOf v).out v
          rw [xvOf_out]
          cases hx : (XArg.val (xvOf v)).get env [] with
          | bool bb =>
            have : (xvOf v) = .bool bb := hx
            have h3 := xvOf_out v
            rw [this] at h3
            rw [← h3]; exact .bool bb
          | nat _ _ => rw [hx] at he; cases he
          | nxt _ _ => rw [hx] at he; cases he
          | oth _ => rw [hx] at he; cases he
        | global v => cases hb; cases he
        | func v => cases hb; cases he
      generalize b.get env [] = xb at he hval
      cases xb with
      | nat _ _ => cases he
      | nxt _ _ => cases he
      | oth _ => cases he
      | bool bb =>
        have hx : a.eval c = .bool bb := by
          simp only [XV.out] at hval
          generalize a.eval c = v at hval
          cases hval; rfl
        refine wp_cond hx ?_
        cases bb with
        | true => exact iht X1 h1 (fun hh => hK (by simp [hasDraw, hh])) env σ g w a k r Q hg hr hv he hk
        | false => exact ihf X2 h2 (fun hh => hK (by simp [hasDraw, hh])) env σ g w a k r Q hg hr hv he hk
    · cases h
  | block id c ih =>
    intro X h hK env σ g w a k r Q hg hr hv he hk
    simp only [comp] at h
    obtain ⟨X1, h1, rfl⟩ := map_some h
    have he : xcode P call draw lf X1 env σ (fun ex env σ => Ex.casesOn ex (k .normal env σ) (fun id' => cond (Nat.beq id' id) (k .normal env σ) (k (.exit id') env σ)) (k .ret env σ)) = some r := he
    refine wp_block (ih X1 h1 (fun hh => hK (by simp [hasDraw, hh])) env σ g w a _ r _ hg hr hv he fun ex env' σ' a' w' g' q1 q2 q3 q4 => ?_)
    cases ex with
    | normal => exact hk .normal env' σ' a' w' g' q1 q2 q3 q4
    | ret => exact hk .ret env' σ' a' w' g' q1 q2 q3 q4
    | exit id' =>
      simp only [Ex.to, Exit.inBlock]
      by_cases e : id' = id
      · subst e
        have : Nat.beq id' id' = true := by simp
        simp only [this, cond_true] at q1
        simp
        exact hk .normal env' σ' a' w' g' q1 q2 q3 q4
      · have : Nat.beq id' id = false := by rw [← Bool.not_eq_true, Nat.beq_eq]; exact e
        simp only [this, cond_false] at q1
        rw [if_neg e]
        exact hk (.exit id') env' σ' a' w' g' q1 q2 q3 q4
  | loop c ih =>
    intro X h hK env σ g w a k r Q hg hr hv he hk
    simp only [comp] at h
    obtain ⟨X1, h1, rfl⟩ := map_some h
    have he : xloop (xcode P call draw lf X1) lf env σ k = some r := he
    exact wp_loop_rounds lf (xloop_ok (ih X1 h1 (fun hh => hK (by simp [hasDraw, hh]))) lf env σ g w a hg hr hv he hk)
  | scope c ih =>
    intro X h hK env σ g w a k r Q hg hr hv he hk
    simp only [comp] at h
    refine wp_scope_straight (ih X h (fun hh => hK (by simp [hasDraw, hh])) env σ g w a _ r _ hg hr hv he fun ex env' σ' a' w' g' q1 q2 q3 q4 => ?_)
    cases ex with
    | normal => exact hk .normal env' σ' a' w' g' q1 q2 q3 q4
    | ret => exact hk .ret env' σ' a' w' g' q1 q2 q3 q4
    | exit id => exact hk (.exit id) env' σ' a' w' g' q1 q2 q3 q4
  | rangeFunc f ps as b _ _ => intro X h; simp [comp] at h
  | goto l => intro X h; simp [comp] at h
  | refuse why => intro X h; simp [comp] at h
end
end Go.Ev
