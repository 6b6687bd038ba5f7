/-
  The evaluator of code, over any program: a region that draws its order comes to what the trace says, whichever order is drawn. No condition.
-/
import Derived.Test.YtedojhheppepdaaGreatDoorEv16
namespace Go.Ev
open Go
set_option linter.unusedVariables false
set_option linter.unusedSimpArgs false

theorem next_loud (lo : Nat → Bool) : ∀ (d q : Nat), ∃ p', q ≤ p' ∧ p' ≤ q + d ∧ (p' = q + d ∨ lo p' = true) ∧ ∀ j, q ≤ j → j < p' → lo j = false
  | 0, q => ⟨q, Nat.le_refl _, Nat.le_refl _, .inl rfl, fun j a b => by omega⟩
  | d + 1, q => by
    cases hq : lo q with
    | true => exact ⟨q, Nat.le_refl _, by omega, .inr hq, fun j a b => by omega⟩
    | false =>
      obtain ⟨p', h1, h2, h3, h4⟩ := next_loud lo d (q + 1)
      refine ⟨p', by omega, by omega, by rcases h3 with h3 | h3; exact .inl (by omega); exact .inr h3, fun j a b => ?_⟩
      by_cases hj : j = q
      · subst hj; exact hq
      · exact h4 j (by omega) b
theorem last_loud (lo : Nat → Bool) : ∀ (d q : Nat), (∀ j, q ≤ j → j < q + d → lo j = false) ∨ ∃ m, q ≤ m ∧ m < q + d ∧ lo m = true ∧ ∀ j, m < j → j < q + d → lo j = false
  | 0, q => .inl fun j a b => by omega
  | d + 1, q => by
    cases hq : lo (q + d) with
    | true => exact .inr ⟨q + d, by omega, by omega, hq, fun j a b => by omega⟩
    | false =>
      rcases last_loud lo d q with h | ⟨m, h1, h2, h3, h4⟩
      · left; intro j a b
        by_cases hj : j = q + d
        · subst hj; exact hq
        · exact h j a (by omega)
      · right
        refine ⟨m, h1, by omega, h3, fun j a b => ?_⟩
        by_cases hj : j = q + d
        · subst hj; exact hq
        · exact h4 j a (by omega)
theorem countP_lt {p q : Nat → Bool} (h : ∀ x, p x = true → q x = true) {i : Nat} (h1 : q i = true) (h2 : p i = false) : ∀ (l : List Nat), i ∈ l → l.countP p < l.countP q
  | [], hm => by cases hm
  | x :: l, hm => by
    simp only [List.countP_cons]
    by_cases hx : x = i
    · subst hx
      have := List.countP_mono_left (l := l) (p := p) (q := q) (fun x _ => h x)
      simp only [h1, h2, if_true]
      simp; omega
    · have hm2 : i ∈ l := by
        cases hm with
        | head => exact (hx rfl).elim
        | tail _ h => exact h
      have := countP_lt h h1 h2 l hm2
      have hle : (if p x = true then 1 else 0) ≤ (if q x = true then 1 else 0) := by
        by_cases hp : p x = true
        · rw [if_pos hp, if_pos (h x hp)]; exact Nat.le_refl _
        · rw [if_neg hp]; exact Nat.zero_le _
      omega

section inv
variable {P : Program} {gl : List Nat} {N : Nat} {call : CallF} {ops : Array Oper} {base : Nat} {B : List Nat} {e : Nat → Env} {τ : Nat → St} {val : Nat → Value} {ao : Nat → AObj} {lo al : Nat → Bool} {g0 : Gam} {σ0 : St} {w0 : World}
  {D : Nat → Bool} {p : Nat} {g : Gam} {H : Nat → CA} {a : Act} {w : World}

theorem gone_ex {q k : Nat} : gone lo B q k = true ↔ ∃ j, j < q ∧ lo j = true ∧ bit B j k = true := by
  simp only [gone, List.any_eq_true, List.mem_range, Bool.and_eq_true]
theorem gone_not {q k : Nat} : gone lo B q k = false ↔ ∀ j, j < q → lo j = true → bit B j k = false := by
  rw [← Bool.not_eq_true, gone_ex]
  constructor
  · intro h j h1 h2
    cases hb : bit B j k with
    | false => rfl
    | true => exact (h ⟨j, h1, h2, hb⟩).elim
  · rintro h ⟨j, h1, h2, h3⟩
    rw [h j h1 h2] at h3; cases h3
theorem Rel.none_of {g : Gam} {σ : St} {w : World} (h : Rel g σ w) {A : Nat} (hA : σ.get A = none) : g A = none := by
  cases e : g A with
  | none => rfl
  | some x => obtain ⟨ob, hob, _⟩ := h.obj _ x e; rw [hA] at hob; cases hob

/-- Behind the loud operation at the stage. -/
theorem DInv.loud (hs : OkDraw P ops B) (ht : Trc P gl ops base B e τ val ao lo al) (h : DInv P gl N ops base B e τ val ao lo al g0 σ0 w0 D p g H a w) {o : Oper} (ho : ops[p]? = some o) (hni : D p = false)
    (hr : ∀ ed ∈ o.after, Region.binds .any ed = true → D ed.on = true) (hd : ∀ d, o.dst = some d → d < N) (hl : lo p = true) {v' : Value} {g' : Gam} {w' : World} (hv : VRel g' (val p) v') (hrel : Rel g' (τ (p + 1)) w')
    (hx : Ext (fun A => A = base + p ∨ (instL base ao (instAt lo al B p) (τ p)).next ≤ A) (gp base ops.size (pdn ops.size D al lo B p) H g (fun k => decide (k ∈ instAt lo al B p))) g' (instL base ao (instAt lo al B p) (τ p)) (τ (p + 1)) w w') :
    ∃ p', DInv P gl N ops base B e τ val ao lo al g0 σ0 w0 (fun j => D j || j == p) p' g' H (a.put o.dst v') w' := by
  have hp : p < ops.size := (Array.getElem?_eq_some_iff.1 ho).1
  obtain ⟨p', h1, h2, h3, h4⟩ := next_loud lo (ops.size - (p + 1)) (p + 1)
  have hp' : p' ≤ ops.size := by omega
  have hτ : τ p' = τ (p + 1) := by
    have := ht.between (p + 1) (p' - (p + 1)) (by omega) (fun j a b => h4 j a (by omega))
    rwa [show p + 1 + (p' - (p + 1)) = p' by omega] at this
  have hap : al p = false := by
    cases ha : al p with
    | false => rfl
    | true => rw [ht.excl ha] at hl; cases hl
  have hgone : ∀ k, gone lo B p' k = (gone lo B p k || bit B p k) := by
    intro k
    rw [Bool.eq_iff_iff, Bool.or_eq_true, gone_ex, gone_ex]
    constructor
    · rintro ⟨j, q1, q2, q3⟩
      rcases Nat.lt_trichotomy j p with q | q | q
      · exact .inl ⟨j, q, q2, q3⟩
      · subst q; exact .inr q3
      · rw [h4 j (by omega) q1] at q2; cases q2
    · rintro (⟨j, q1, q2, q3⟩ | q)
      · exact ⟨j, by omega, q2, q3⟩
      · exact ⟨p, by omega, hl, q⟩
  have hdown := hs.down h.closed p o ho hr
  have hinst : ∀ k, k ∈ instAt lo al B p ↔ pdn ops.size D al lo B p k = true ∧ bit B p k = true := by
    intro k
    simp only [instAt, List.mem_filter, List.mem_range, Bool.and_eq_true, Bool.not_eq_true', pdn_spec]
    constructor
    · rintro ⟨q1, ⟨q2, q3⟩, q4⟩
      exact ⟨⟨by omega, hdown k q3, q2, q4⟩, q3⟩
    · rintro ⟨⟨q1, q2, q3, q4⟩, q5⟩
      exact ⟨hs.lt p k q5, ⟨q3, q5⟩, q4⟩
  have hpd : ∀ k, pdn ops.size (fun j => D j || j == p) al lo B p' k = true ↔ pdn ops.size D al lo B p k = true ∧ bit B p k = false := by
    intro k
    simp only [pdn_spec, hgone]
    constructor
    · rintro ⟨q1, q2, q3, q4⟩
      simp only [Bool.or_eq_false_iff] at q4
      have hk : k ≠ p := fun e1 => by subst e1; rw [hap] at q3; cases q3
      simp only [Bool.or_eq_true, beq_iff_eq] at q2
      rcases q2 with q2 | q2
      · exact ⟨⟨q1, q2, q3, q4.1⟩, q4.2⟩
      · exact (hk q2).elim
    · rintro ⟨⟨q1, q2, q3, q4⟩, q5⟩
      exact ⟨q1, by simp [q2], q3, by rw [q4, q5]; rfl⟩
  have hgn : ∀ k, k < ops.size → pdn ops.size D al lo B p k = true → g (base + k) = none := fun k hk hp => h.gnone ht hk hp
  have hlg1 := gp_le (S := fun k => decide (k ∈ instAt lo al B p)) (H := H) hgn
  have hlg : Gam.le g g' := Gam.le_trans hlg1 hx.le
  have hfree : ∀ k, k < ops.size → (lo k = true → p' ≤ k) → (al k = true → gone lo B p' k = false) → (τ p').get (base + k) = none := by
    intro k hk q1 q2
    have hkp : k ≠ p := fun e1 => by subst e1; have := q1 hl; omega
    have hold := h.free k hk (fun q => by have := q1 q; omega) (fun q => by have := q2 q; rw [hgone] at this; simp only [Bool.or_eq_false_iff] at this; exact this.1)
    have hni : ∀ k' ∈ instAt lo al B p, base + k ≠ base + k' := by
      intro k' hk' e1
      have : k = k' := by omega
      subst this
      obtain ⟨r1, r2⟩ := (hinst k).1 hk'
      have := q2 (pdn_spec.1 r1).2.2.1
      rw [hgone, r2] at this; simp at this
    rw [hτ, hx.frame]
    · rw [instL_get _ _ _ hni]; exact hold
    · rw [gp_out]
      · exact h.rel.none_of hold
      · intro k' r1 r2 r3
        exact hni k' (by simpa using r3)
    · rintro (q | q)
      · exact hkp (by omega)
      · rw [(instL_rest _ _).1] at q
        have := h.next; omega
  have hgn' : ∀ k, k < ops.size → pdn ops.size (fun j => D j || j == p) al lo B p' k = true → g' (base + k) = none := by
    intro k hk hpk
    have := hfree k hk (fun q => by rw [ht.excl (pdn_spec.1 hpk).2.2.1] at q; cases q) (fun _ => (pdn_spec.1 hpk).2.2.2)
    rw [hτ] at this
    exact hrel.none_of this
  have hle : ∀ S, Gam.le (gp base ops.size (pdn ops.size D al lo B p) H g S) (gp base ops.size (pdn ops.size (fun j => D j || j == p) al lo B p') H g' S) := by
    intro S A x hA
    rcases gp_cases hA with ⟨k, k1, k2, k3, rfl, rfl⟩ | hA
    · cases hb : bit B p k with
      | false => exact gp_in k1 ((hpd k).2 ⟨k2, hb⟩) k3
      | true =>
        rw [gp_out]
        · exact hx.le _ _ (gp_in k1 k2 (by simpa using (hinst k).2 ⟨k2, hb⟩))
        · intro k' _ r2 _ e1
          have : k = k' := by omega
          subst this
          rw [((hpd k).1 r2).2] at hb; cases hb
    · exact gp_le hgn' _ _ (hlg _ _ hA)
  have hsep1 : ∀ k, pdn ops.size (fun j => D j || j == p) al lo B p' k = true → ∀ A x, gp base ops.size (pdn ops.size D al lo B p) H g (fun k => decide (k ∈ instAt lo al B p)) A = some x → x.block ≠ (H k).block := by
    intro k hk A x hA e1
    obtain ⟨hk1, hk2⟩ := (hpd k).1 hk
    rcases gp_cases hA with ⟨k', k1, k2, k3, rfl, rfl⟩ | hA
    · have := h.dist k' k k2 hk1 e1
      subst this
      have := (hinst k').1 (by simpa using k3)
      rw [hk2] at this; cases this.2
    · obtain ⟨_, _, _, _, r, _⟩ := h.pend k hk1
      exact r A x hA e1
  have hpl : ∀ k ∈ instAt lo al B p, pdn ops.size D al lo B p k = true := fun k hk => ((hinst k).1 hk).1
  refine ⟨p', hp', fun j a b => ?_, fun j a b => ?_, by rcases h3 with h3 | h3; exact .inl (by omega); exact .inr h3, by rw [hτ]; exact hrel, ?_, hfree, ?_, fun k hk => ?_, fun k k' hk hk' he => h.dist k k' ((hpd k).1 hk).1 ((hpd k').1 hk').1 he, fun t => ?_, ?_, ?_, ?_, ?_⟩
  · rcases Nat.lt_trichotomy j p with q | q | q
    · simp [h.below j q b]
    · simp [q]
    · rw [h4 j (by omega) a] at b; cases b
  · have hne : j ≠ p := by omega
    simp [h.above j (by omega) b, hne]
  · rw [hτ]
    refine (h.instExt hs ht _ hpl).trans (hx.mono fun A hA => ?_)
    rw [(instL_rest _ _).1] at hA
    have := h.next
    rcases hA with hA | hA <;> omega
  · rw [hτ]
    refine Nat.le_trans ?_ hx.next
    rw [(instL_rest _ _).1]; exact h.next
  · obtain ⟨hk1, hk2⟩ := (hpd k).1 hk
    obtain ⟨ob, o1, o2, o3, o4, o5⟩ := h.pend k hk1
    have hlt := (Array.getElem?_eq_some_iff.1 o1).1
    refine ⟨ob, ?_, o2, o3.mono (hle _), fun A x hA e1 => ?_, o5⟩
    · rw [hx.keep _ hlt fun A x hA e1 => (hsep1 k hk A x hA e1).elim]; exact o1
    · cases hg1 : gp base ops.size (pdn ops.size D al lo B p) H g (fun k => decide (k ∈ instAt lo al B p)) A with
      | some y =>
        have : y = x := Option.some.inj ((hx.le _ _ hg1).symm.trans hA)
        subst this
        exact hsep1 k hk A y hg1 e1
      | none =>
        rcases hx.fresh A x hA hg1 with q | ⟨A0, x0, r1, r2, _⟩
        · omega
        · exact hsep1 k hk A0 x0 r1 (r2.trans e1)
  · exact h.putSlot hs ht ho hni hd hle hlg (hv.mono (gp_le hgn')) t
  · cases o.dst <;> exact h.defers
  · cases hdd : o.dst with
    | none => exact h.size
    | some d => simp [Act.put, h.size]
  · intro j oj q1 q2 ed he hb
    simp only [Bool.or_eq_true, beq_iff_eq] at q1 ⊢
    rcases q1 with q1 | rfl
    · exact .inl (h.closed j oj q1 q2 ed he hb)
    · rw [ho] at q2; cases q2; exact .inl (hr ed he hb)
  · intro j q1
    simp only [Bool.or_eq_true, beq_iff_eq] at q1
    rcases q1 with q1 | rfl
    · exact h.inn j q1
    · exact hp

/-- What a ready read finds at the stage is what it found in the text's order. -/
theorem DInv.readAt (hs : OkDraw P ops B) (ht : Trc P gl ops base B e τ val ao lo al) (h : DInv P gl N ops base B e τ val ao lo al g0 σ0 w0 D p g H a w) {i : Nat} {o : Oper} (ho : ops[i]? = some o) (hni : D i = false)
    (hr : ∀ ed ∈ o.after, Region.binds .any ed = true → D ed.on = true) (hl : lo i = false) (h0 : evalOp P (rho (e i)) (base + i) o (τ i) = some (.val (val i) (τ i)))
    (hall : ∀ j, j < ops.size → lo j = true → bit B i j = false → bit B j i = false → evalOp P (rho (e i)) (base + i) o (τ j) = some (.val (val i) (τ j)) ∧ evalOp P (rho (e i)) (base + i) o (τ (j + 1)) = some (.val (val i) (τ (j + 1)))) :
    evalOp P (rho (e i)) (base + i) o (τ p) = some (.val (val i) (τ p)) := by
  have hi : i < ops.size := (Array.getElem?_eq_some_iff.1 ho).1
  have hdown := hs.down h.closed i o ho hr
  rcases Nat.lt_or_ge i p with hip | hip
  · rcases last_loud lo (p - i) i with q | ⟨m, m1, m2, m3, m4⟩
    · have := ht.between i (p - i) (by have := h.pn; omega) q
      rw [show i + (p - i) = p by omega] at this
      rw [this]; exact h0
    · have hmp : m < p := by omega
      have hD := h.below m hmp m3
      have hmn := h.inn m hD
      have hmi : m ≠ i := fun e1 => by subst e1; rw [hl] at m3; cases m3
      have hb1 : bit B m i = false := by
        cases hb : bit B m i with
        | false => rfl
        | true =>
          have := hs.down h.closed m _ (Array.getElem?_eq_getElem hmn) (h.closed m _ hD (Array.getElem?_eq_getElem hmn)) i hb
          rw [hni] at this; cases this
      have hb2 : bit B i m = false := by
        cases hb : bit B i m with
        | false => rfl
        | true => have := hs.lt i m hb; omega
      have h1 := (hall m hmn m3 hb2 hb1).2
      have := ht.between (m + 1) (p - (m + 1)) (by have := h.pn; omega) (fun j q1 q2 => m4 j (by omega) (by omega))
      rw [show m + 1 + (p - (m + 1)) = p by omega] at this
      rw [this]; exact h1
  · by_cases hpi : p = i
    · rw [hpi]; exact h0
    · have hlp : lo p = true := by
        rcases h.here with q | q
        · omega
        · exact q
      have hDp := h.above p (Nat.le_refl _) hlp
      have hb2 : bit B i p = false := by
        cases hb : bit B i p with
        | false => rfl
        | true => rw [hdown p hb] at hDp; cases hDp
      have hb1 : bit B p i = false := by
        cases hb : bit B p i with
        | false => rfl
        | true => have := hs.lt p i hb; omega
      exact (hall p (by omega) hlp hb2 hb1).1

/-- Where all is done: the state at the end, with what is made and not installed. -/
theorem DInv.done (hs : OkDraw P ops B) (ht : Trc P gl ops base B e τ val ao lo al) (h : DInv P gl N ops base B e τ val ao lo al g0 σ0 w0 D p g H a w) (hall : ∀ i, i < ops.size → D i = true) :
    ∃ g', Rel g' (instL base ao (pendAt lo al B ops.size) (τ ops.size)) w ∧ EnvRel g' N (e ops.size) a ∧ Ext (fun A => base ≤ A) g0 g' σ0 (instL base ao (pendAt lo al B ops.size) (τ ops.size)) w0 w := by
  have hp : p = ops.size := by
    rcases h.here with q | q
    · exact q
    · have h1 := h.above p (Nat.le_refl _) q
      rcases Nat.lt_or_ge p ops.size with h2 | h2
      · rw [hall p h2] at h1; cases h1
      · have := h.pn; omega
  subst hp
  have hmem : ∀ k, k ∈ pendAt lo al B ops.size ↔ pdn ops.size D al lo B ops.size k = true := by
    intro k
    simp only [pendAt, List.mem_filter, List.mem_range, Bool.and_eq_true, Bool.not_eq_true', pdn_spec]
    constructor
    · rintro ⟨q1, q2, q3⟩; exact ⟨q1, hall k q1, q2, q3⟩
    · rintro ⟨q1, q2, q3, q4⟩; exact ⟨q1, q3, q4⟩
  have hgn : ∀ k, k < ops.size → pdn ops.size D al lo B ops.size k = true → g (base + k) = none := fun k hk hp => h.gnone ht hk hp
  refine ⟨_, h.install hs ht _ (fun k hk => (hmem k).1 hk) ?_ (fun k _ k' hk' _ => (hmem k').2 hk'), ?_, h.instExt hs ht _ (fun k hk => (hmem k).1 hk)⟩
  · unfold pendAt
    exact List.Pairwise.filter _ List.pairwise_lt_range
  · refine ⟨h.defers, h.size, fun t => ?_⟩
    rcases eget_last ht t ops.size (Nat.le_refl _) with ⟨k, o, h1, h2, h3, h4, h5⟩ | ⟨h1, h2⟩
    · rcases h.slot t with ⟨j, oj, q1, q2, q3, q4, q5⟩ | ⟨q1, _⟩
      · have hkj := q4 k o (hall k h1) h2 h3
        have hjk := h4 j oj (h.inn j q1) q2 q3
        have : j = k := by omega
        subst this
        rw [h5]
        exact q5.mono (gp_mono hgn fun k hk _ => by simpa using (hmem k).2 hk)
      · exact (q1 k o (hall k h1) h2 h3).elim
    · rcases h.slot t with ⟨j, oj, q1, q2, q3, _⟩ | ⟨_, q2⟩
      · exact (h1 j oj (h.inn j q1) q2 q3).elim
      · rw [h2]; exact q2.mono (gp_le hgn)

theorem DInv.congr {D' : Nat → Bool} (h : DInv P gl N ops base B e τ val ao lo al g0 σ0 w0 D p g H a w) (hD : ∀ i, D i = D' i) : DInv P gl N ops base B e τ val ao lo al g0 σ0 w0 D' p g H a w := by
  have : D = D' := funext hD
  rwa [← this]

theorem okDst {gl : List Nat} {N : Nat} {o : Oper} (h : okOper gl N o = true) : ∀ d, o.dst = some d → d < N := by
  intro d hd
  simp only [okOper, Bool.and_eq_true] at h
  rw [hd] at h
  simpa using h.2

theorem draw_any (hs : OkDraw P ops B) (ht : Trc P gl ops base B e τ val ao lo al) (hg0 : Glob gl g0) (hok : ∀ o ∈ ops.toList, okOper gl N o = true ∧ okGuard ops N o = true) {Q : Exit → Act → World → Prop}
    (k : ∀ a w g', Rel g' (instL base ao (pendAt lo al B ops.size) (τ ops.size)) w → EnvRel g' N (e ops.size) a → Ext (fun A => base ≤ A) g0 g' σ0 (instL base ao (pendAt lo al B ops.size) (τ ops.size)) w0 w → Q .normal a w) :
    ∀ (fuel : Nat) (listed : Array Bool) (p : Nat) (g : Gam) (H : Nat → CA) (a : Act) (w : World), listed.size = ops.size → (List.range ops.size).countP (fun i => !listed.getD i false) ≤ fuel →
      DInv P gl N ops base B e τ val ao lo al g0 σ0 w0 (fun i => listed.getD i false) p g H a w → wpAny P .any ops Q fuel listed a w := by
  have hfin : ∀ (listed : Array Bool) (p : Nat) (g : Gam) (H : Nat → CA) (a : Act) (w : World), listed.size = ops.size → (∀ i, i < ops.size → listed.getD i false = true) →
      DInv P gl N ops base B e τ val ao lo al g0 σ0 w0 (fun i => listed.getD i false) p g H a w → Q .normal a w := by
    intro listed p g H a w hsz hall h
    obtain ⟨g', r1, r2, r3⟩ := h.done hs ht hall
    exact k a w g' r1 r2 r3
  have hready : ∀ (listed : Array Bool), listed.size = ops.size → Region.ready .any ops listed = [] → ∀ i, i < ops.size → listed.getD i false = true := by
    intro listed hsz hre i
    induction i using Nat.strongRecOn with
    | _ i ih =>
      intro hi
      cases hli : listed.getD i false with
      | true => rfl
      | false =>
        have : i ∈ Region.ready .any ops listed := by
          refine mem_ready.2 ⟨?_, ops[i], Array.getElem?_eq_getElem hi, fun ed he hb => ?_⟩
          · have : i < listed.size := by omega
            simp [this] at hli ⊢; exact hli
          · have := hs.edge i _ (Array.getElem?_eq_getElem hi) ed he hb
            exact ih _ this (by omega)
        rw [hre] at this; cases this
  intro fuel
  induction fuel with
  | zero =>
    intro listed p g H a w hsz hm h
    have hall : ∀ i, i < ops.size → listed.getD i false = true := by
      intro i hi
      have h0 : (List.range ops.size).countP (fun i => !listed.getD i false) = 0 := by omega
      rw [List.countP_eq_zero] at h0
      have := h0 i (List.mem_range.2 hi)
      simpa using this
    refine ⟨?_, hfin listed p g H a w hsz hall h⟩
    cases hre : Region.ready .any ops listed with
    | nil => rfl
    | cons i r =>
      have : i ∈ Region.ready .any ops listed := by rw [hre]; exact List.mem_cons_self
      obtain ⟨h1, o, h2, _⟩ := mem_ready.1 this
      have hi : i < ops.size := (Array.getElem?_eq_some_iff.1 h2).1
      have h3 := hall i hi
      have : i < listed.size := by omega
      simp [this] at h1 h3
      rw [h1] at h3; cases h3
  | succ fuel ih =>
    intro listed p g H a w hsz hm h
    refine ⟨fun hre => hfin listed p g H a w hsz (hready listed hsz hre) h, fun i hi => ?_⟩
    obtain ⟨h1, o, ho, hr⟩ := mem_ready.1 hi
    have hin : i < ops.size := (Array.getElem?_eq_some_iff.1 ho).1
    have hlt : i < listed.size := by omega
    have hni : (fun i => listed.getD i false) i = false := by simp [hlt] at h1 ⊢; exact h1
    have hD' : ∀ j, ((fun i => listed.getD i false) j || j == i) = (listed.setIfInBounds i true).getD j false := by
      intro j
      by_cases hj : i = j
      · subst hj; simp [hlt]
      · rw [getD_set_ne false hj]; simp; exact fun e1 => (hj e1.symm).elim
    have hsz' : (listed.setIfInBounds i true).size = ops.size := by simp [hsz]
    have hm' : (List.range ops.size).countP (fun j => !(listed.setIfInBounds i true).getD j false) ≤ fuel := by
      have := countP_lt (p := fun j => !(listed.setIfInBounds i true).getD j false) (q := fun j => !listed.getD j false) (fun x hx => by
        have := hD' x
        simp only [Bool.not_eq_true'] at hx ⊢
        rw [hx] at this
        simp only [Bool.or_eq_false_iff] at this
        exact this.1) (i := i) (by simpa using hni) (by have := hD' i; rw [← this]; simp) (List.range ops.size) (List.mem_range.2 hin)
      omega
    have next : ∀ p g H a w, DInv P gl N ops base B e τ val ao lo al g0 σ0 w0 (fun j => (fun i => listed.getD i false) j || j == i) p g H a w → wpAny P .any ops Q fuel (listed.setIfInBounds i true) a w :=
      fun p g H a w hh => ih _ p g H a w hsz' hm' (hh.congr hD')
    obtain ⟨hok1, hok2⟩ := hok o (by rw [Array.mem_toList_iff]; exact Array.mem_of_getElem? ho)
    have hd := okDst hok1
    have hwt := h.wanted hs ht ho hni hr hok2
    have hgn : ∀ k, k < ops.size → pdn ops.size (fun i => listed.getD i false) al lo B p k = true → g (base + k) = none := fun k hk hp => h.gnone ht hk hp
    have hρ := h.opnds hs ht hg0 ho hni hr hok1
    unfold wpOp
    rw [ho]
    simp only [hwt]
    rcases ht.step i o ho with ⟨s1, s2, s3, s4, s5⟩ | ⟨s1, s2, s3, s4, s5⟩ | ⟨s1, s2, s3, s4, s5⟩ | ⟨s1, s2, s3, s4, s5, s6, s7⟩ | ⟨s1, s2, s3, ρ, hρe, s4⟩
    · rw [s1]
      refine next _ _ _ _ _ (h.quiet hs ht ho hni hr hd s3 s4 ?_)
      rw [s2]; exact .tuple _ _ rfl fun i h => by simp at h
    · rw [s1, if_pos rfl]
      left
      obtain ⟨v', e1, hv⟩ := s5 _ a.eval w hρ
      unfold Oper.wp
      rw [e1]
      exact next _ _ _ _ _ (h.quiet hs ht ho hni hr hd s2 s3 hv)
    · rw [s1, if_pos rfl]
      left
      obtain ⟨ob, n, v', w1, q1, q2, q3, q4, e1, hv, hn⟩ := s5.2 _ a.eval w hρ
      unfold Oper.wp
      rw [e1]
      exact next _ _ _ _ _ (h.alloc hs ht ho hni hr hd s2 s3 q1 q2 q3 q4 hv hn)
    · rw [s1, if_pos rfl]
      left
      have hat := h.readAt hs ht ho hni hr s2 s6 s7
      obtain ⟨v, q1, q2⟩ := evalOp_read s5 hat
      cases q1
      obtain ⟨v', e1, hv⟩ := q2 g _ a.eval w h.rel (fun A x hA hne => by
        rcases gp_cases hA with ⟨k, k1, k2, k3, rfl, rfl⟩ | hA
        · obtain ⟨_, r2, r3, r4⟩ := pdn_spec.1 k2
          exact (hne (h.free k k1 (fun hl => by rw [ht.excl r3] at hl; cases hl) (fun _ => r4))).elim
        · exact hA) hρ
      unfold Oper.wp
      rw [e1]
      exact next _ _ _ _ _ (h.quiet hs ht ho hni hr hd s2 s3 (hv.mono (gp_le hgn)))
    · rw [s1, if_pos rfl]
      left
      have hip : i = p := by
        have hge : p ≤ i := by
          rcases Nat.lt_or_ge i p with q | q
          · exact absurd (h.below i q s2) (by simp only [hni]; simp)
          · exact q
        rcases Nat.lt_or_ge p i with q | q
        · have hlp : lo p = true := by
            rcases h.here with r | r
            · omega
            · exact r
          have hDp := h.above p (Nat.le_refl _) hlp
          obtain ⟨o2, r1, r2⟩ := ht.loud p hlp
          obtain ⟨o3, r3, r4⟩ := ht.loud i s2
          rcases hs.louds i o3 p o2 r3 r1 (by omega) r4 r2 with b | b
          · have := hs.down h.closed i o ho hr p b
            rw [hDp] at this; cases this
          · have := hs.lt p i b; omega
        · omega
      subst hip
      have hdown := hs.down h.closed i o ho hr
      have hinst : ∀ k, k ∈ instAt lo al B i ↔ pdn ops.size (fun i => listed.getD i false) al lo B i k = true ∧ bit B i k = true := by
        intro k
        simp only [instAt, List.mem_filter, List.mem_range, Bool.and_eq_true, Bool.not_eq_true', pdn_spec]
        constructor
        · rintro ⟨q1, ⟨q2, q3⟩, q4⟩
          exact ⟨⟨by omega, hdown k q3, q2, q4⟩, q3⟩
        · rintro ⟨⟨q1, q2, q3, q4⟩, q5⟩
          exact ⟨hs.lt i k q5, ⟨q3, q5⟩, q4⟩
      have hpl := fun k hk => ((hinst k).1 hk).1
      have hrel := h.install hs ht (instAt lo al B i) hpl (by unfold instAt; exact List.Pairwise.filter _ List.pairwise_lt_range) (fun k hk k' hk' hb => (hinst k').2 ⟨hk', hs.tr i k k' ((hinst k).1 hk).2 hb⟩)
      have hex := h.instExt hs ht (instAt lo al B i) hpl
      have hal : al i = false := s3
      refine s4.wp (hg0.mono hex.le) hrel ?_ ?_ (fun x hx => by rw [hρe x hx]; exact (hρ x hx).mono (gp_mono hgn fun k hk hb => by simpa using (hinst k).2 ⟨hk, hb⟩)) fun v' w' g' r1 r2 r3 => ?_
      · rw [instL_get]
        · exact h.free i hin (fun _ => Nat.le_refl _) (fun q => by rw [hal] at q; cases q)
        · intro k hk e1
          have := hs.lt i k ((hinst k).1 hk).2
          omega
      · rw [(instL_rest _ _).1]; have := h.next; omega
      · obtain ⟨p', hp'⟩ := h.loud hs ht ho hni hr hd s2 r1 r2 r3
        exact next _ _ _ _ _ hp'
end inv

/-- A region that draws its order, from its trace. -/
theorem simC_draw {P : Program} {gl : List Nat} {N : Nat} (hm : P.follows .mixedOrders = true) {id : Nat} {ops : Array Oper} {B : List Nat} {e : Nat → Env} {τ : Nat → St} {val : Nat → Value} {ao : Nat → AObj} {lo al : Nat → Bool} {env : Env} {σ : St}
    (hs : OkDraw P ops B) (ht : Trc P gl ops σ.next B e τ val ao lo al) (h0 : e 0 = env) (hτ : τ 0 = σ.bump ops.size) (hok : ∀ o ∈ ops.toList, okOper gl N o = true ∧ okGuard ops N o = true) :
    SimC P gl N (.region id ops true) env σ .normal (e ops.size) (instL σ.next ao (pendAt lo al B ops.size) (τ ops.size)) := by
  intro g w a hg hr he
  refine wp_region_any hm ?_
  obtain ⟨p, h1, h2, h3, h4⟩ := next_loud lo ops.size 0
  have hτp : τ p = σ.bump ops.size := by
    have := ht.between 0 p (by omega) (fun j a b => h4 j a (by omega))
    rw [Nat.zero_add] at this
    rw [this, hτ]
  have hF : ∀ i, (Array.replicate ops.size false).getD i false = false := by
    intro i
    simp only [Array.getD_eq_getD_getElem?, Array.getElem?_replicate]
    split <;> rfl
  have hpd : ∀ k, pdn ops.size (fun i => (Array.replicate ops.size false).getD i false) al lo B p k = false := by
    intro k; simp only [pdn, hF]; simp
  refine draw_any (g0 := g) (σ0 := σ) (w0 := w) hs ht hg hok (fun a' w' g' r1 r2 r3 => ⟨rfl, g', r1, r2, r3⟩) ops.size (Array.replicate ops.size false) p g (fun _ => ⟨0, 0, 0⟩) a _ (by simp) ?_ ?_
  · exact Nat.le_trans List.countP_le_length (by simp)
  · refine ⟨by omega, fun j q1 q2 => (by rw [h4 j (by omega) q1] at q2; cases q2), fun j _ _ => hF j, (by rcases h3 with h3 | h3; exact .inl (by omega); exact .inr h3), ?_, ?_, fun k _ _ _ => ?_, ?_, fun k hk => (by rw [hpd] at hk; cases hk), fun k k' hk => (by rw [hpd] at hk; cases hk), fun t => .inr ⟨fun i o hi => (by simp only [hF] at hi; cases hi), ?_⟩, he.defers, he.size, fun i o hi => (by simp only [hF] at hi; cases hi), fun i hi => (by simp only [hF] at hi; cases hi)⟩
    · rw [hτp]; exact (hr.bump _).heap rfl
    · rw [hτp]; exact (Ext.bump g σ w _).trans (Ext.heap rfl rfl rfl rfl)
    · rw [hτp]
      cases e1 : (σ.bump ops.size).get (σ.next + k) with
      | none => rfl
      | some ob => have := hr.wf.lt _ ob e1; omega
    · rw [hτp]; exact Nat.le_refl _
    · rw [h0]; exact he.slot t
end Go.Ev
