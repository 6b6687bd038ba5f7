/-
  The evaluator of code, over any program: a region that draws its order comes to what the trace says, whichever order is drawn: the steps of the proof. No condition.
-/
import Derived.Test.YtedojhheppepdaaGreatDoorEv15
namespace Go.Ev
open Go
set_option linter.unusedVariables false
set_option linter.unusedSimpArgs false

section inv
variable {P : Program} {gl : List Nat} {N : Nat} {call : CallF} {ops : Array Oper} {base : Nat} {B : List Nat} {e : Nat → Env} {τ : Nat → St} {val : Nat → Value} {ao : Nat → AObj} {lo al : Nat → Bool} {g0 : Gam} {σ0 : St} {w0 : World}
  {D : Nat → Bool} {p : Nat} {g : Gam} {H : Nat → CA} {a : Act} {w : World}

theorem instL_get (l : List Nat) : ∀ (τ0 : St) (A : Nat), (∀ k ∈ l, A ≠ base + k) → (instL base ao l τ0).get A = τ0.get A := by
  induction l with
  | nil => intro τ0 A _; rfl
  | cons k l ih =>
    intro τ0 A h
    simp only [instL, List.foldl_cons]
    have := ih (τ0.set (base + k) (ao k)) A (fun k' hk' => h k' (List.mem_cons_of_mem _ hk'))
    simp only [instL] at this
    rw [this]
    simp only [St.get_set]
    rw [if_neg (fun e => h k List.mem_cons_self e.symm)]
theorem instL_rest (l : List Nat) : ∀ (τ0 : St), (instL base ao l τ0).next = τ0.next ∧ ∀ F, (instL base ao l τ0).famO F = τ0.famO F := by
  induction l with
  | nil => intro τ0; exact ⟨rfl, fun _ => rfl⟩
  | cons k l ih =>
    intro τ0
    simp only [instL, List.foldl_cons]
    have := ih (τ0.set (base + k) (ao k))
    exact this
theorem instL_snoc (l : List Nat) (k : Nat) (τ0 : St) : instL base ao (l ++ [k]) τ0 = (instL base ao l τ0).set (base + k) (ao k) := by
  simp [instL, List.foldl_append]

theorem Trc.fam (ht : Trc P gl ops base B e τ val ao lo al) {k : Nat} (hk : al k = true) : ∀ own ver F c, ao k = .cells own ver F c → F = base + k := by
  rcases ht.step k _ (Array.getElem?_eq_getElem (ht.inn k hk)) with q | q | q | q | q
  · rw [q.2.2.2.1] at hk; cases hk
  · rw [q.2.2.1] at hk; cases hk
  · exact q.2.2.2.2.1
  · rw [q.2.2.1] at hk; cases hk
  · rw [q.2.2.1] at hk; cases hk

theorem DInv.install (hs : OkDraw P ops B) (ht : Trc P gl ops base B e τ val ao lo al) (h : DInv P gl N ops base B e τ val ao lo al g0 σ0 w0 D p g H a w) (l : List Nat)
    (hl : ∀ k ∈ l, pdn ops.size D al lo B p k = true) (hsort : l.Pairwise (· < ·)) (hcl : ∀ k ∈ l, ∀ k', pdn ops.size D al lo B p k' = true → bit B k k' = true → k' ∈ l) :
    Rel (gp base ops.size (pdn ops.size D al lo B p) H g (fun k => decide (k ∈ l))) (instL base ao l (τ p)) w := by
  have key : ∀ m, m ≤ l.length → Rel (gp base ops.size (pdn ops.size D al lo B p) H g (fun k => decide (k ∈ l.take m))) (instL base ao (l.take m) (τ p)) w := by
    intro m
    induction m with
    | zero =>
      intro _
      have : gp base ops.size (pdn ops.size D al lo B p) H g (fun k => decide (k ∈ l.take 0)) = g := by
        funext A; exact gp_out fun k _ _ hk => by simp at hk
      rw [this]
      exact h.rel
    | succ m ih =>
      intro hm
      have ih := ih (by omega)
      have hlt : m < l.length := by omega
      have htk : l.take (m + 1) = l.take m ++ [l[m]] := by rw [List.take_succ_eq_append_getElem hlt]
      obtain ⟨k, hk⟩ : ∃ k, k = l[m] := ⟨_, rfl⟩
      rw [← hk] at htk
      have hkl : k ∈ l := by rw [hk]; exact List.getElem_mem hlt
      have hpd := hl k hkl
      obtain ⟨hkn, hD, ha, hg⟩ := pdn_spec.1 hpd
      have hnot : k ∉ l.take m := by
        intro hmem
        obtain ⟨j, hj, e1⟩ := List.getElem_of_mem hmem
        have hj' : j < m := by simp at hj; omega
        have hp := List.pairwise_iff_getElem.1 hsort j m (by omega) hlt hj'
        simp only [List.getElem_take] at e1
        rw [e1, ← hk] at hp
        omega
      obtain ⟨ob, o1, o2, o3, o4, o5⟩ := h.pend k hpd
      have hfree : (instL base ao (l.take m) (τ p)).get (base + k) = none := by
        rw [instL_get]
        · exact h.free k hkn (fun hl => by rw [ht.excl ha] at hl; cases hl) (fun _ => hg)
        · intro k' hk' e1
          have : k' = k := by omega
          subst this; exact hnot hk'
      have hgm := gp_mono (S := bit B k) (S' := fun k' => decide (k' ∈ l.take m)) (H := H) (fun k hk hp => h.gnone ht hk hp) (fun k' hk' hb => by
        have hmem := hcl k hkl k' hk' hb
        have hlt2 := hs.lt k k' hb
        obtain ⟨j, hj, e1⟩ := List.getElem_of_mem hmem
        have hjm : j < m := by
          rcases Nat.lt_trichotomy j m with q | q | q
          · exact q
          · subst q; rw [← hk] at e1; omega
          · have := List.pairwise_iff_getElem.1 hsort m j hlt hj q
            rw [e1, ← hk] at this; omega
        simp only [decide_eq_true_eq]
        rw [List.mem_take_iff_getElem]
        exact ⟨j, by omega, e1⟩)
      have := ih.install (id := base + k) (b := (H k).block) (n := (H k).size) (ao := ao k) (ob := ob) hfree (by rw [(instL_rest _ _).1]; have := h.next; omega) o1 (fun A x hA => by
          rcases gp_cases hA with ⟨k', k1, k2, k3, rfl, rfl⟩ | hA
          · intro e1
            have := h.dist k' k k2 hpd e1
            subst this
            simp at k3; exact hnot k3
          · exact o4 A x hA) (ht.fam ha) (o3.mono hgm)
      rw [htk, instL_snoc]
      have hgam : gp base ops.size (pdn ops.size D al lo B p) H g (fun k' => decide (k' ∈ l.take m ++ [k])) = (gp base ops.size (pdn ops.size D al lo B p) H g (fun k => decide (k ∈ l.take m))).add (base + k) ⟨(H k).block, 0, (H k).size⟩ := by
        funext A
        by_cases hA : A = base + k
        · subst hA
          rw [gp_in hkn hpd (by simp), Gam.add_self, ← o2]
        · have e1 : (gp base ops.size (pdn ops.size D al lo B p) H g (fun k => decide (k ∈ l.take m))).add (base + k) ⟨(H k).block, 0, (H k).size⟩ A = gp base ops.size (pdn ops.size D al lo B p) H g (fun k => decide (k ∈ l.take m)) A := by
            simp [Gam.add, hA]
          rw [e1]
          unfold gp
          by_cases hc : base ≤ A ∧ A < base + ops.size ∧ pdn ops.size D al lo B p (A - base) = true ∧ decide (A - base ∈ l.take m) = true
          · rw [if_pos hc, if_pos ⟨hc.1, hc.2.1, hc.2.2.1, by have := hc.2.2.2; simp at this ⊢; exact .inl this⟩]
          · rw [if_neg hc]
            by_cases hc2 : base ≤ A ∧ A < base + ops.size ∧ pdn ops.size D al lo B p (A - base) = true ∧ decide (A - base ∈ l.take m ++ [k]) = true
            · exfalso
              apply hc
              refine ⟨hc2.1, hc2.2.1, hc2.2.2.1, ?_⟩
              have := hc2.2.2.2
              simp only [decide_eq_true_eq, List.mem_append, List.mem_singleton] at this ⊢
              rcases this with q | q
              · exact q
              · exact (hA (by omega)).elim
            · rw [if_neg hc2]
      rw [hgam]
      exact this
  have := key l.length (Nat.le_refl _)
  rwa [List.take_length] at this

theorem DInv.instExt (hs : OkDraw P ops B) (ht : Trc P gl ops base B e τ val ao lo al) (h : DInv P gl N ops base B e τ val ao lo al g0 σ0 w0 D p g H a w) (l : List Nat) (hl : ∀ k ∈ l, pdn ops.size D al lo B p k = true) :
    Ext (fun A => base ≤ A) g0 (gp base ops.size (pdn ops.size D al lo B p) H g (fun k => decide (k ∈ l))) σ0 (instL base ao l (τ p)) w0 w := by
  have hne : ∀ k ∈ l, (τ p).get (base + k) = none := fun k hk => by
    obtain ⟨hkn, hD, ha, hg⟩ := pdn_spec.1 (hl k hk)
    exact h.free k hkn (fun hl => by rw [ht.excl ha] at hl; cases hl) (fun _ => hg)
  refine ⟨Gam.le_trans h.ext.le (gp_le fun k hk hp => h.gnone ht hk hp), ?_, ?_, h.ext.size, h.ext.keep, ?_, ?_, by rw [(instL_rest _ _).1]; exact h.ext.next, h.ext.os, h.ext.out, h.ext.tape⟩
  · intro A x hA hA0
    rcases gp_cases hA with ⟨k, _, _, _, rfl, _⟩ | hA
    · exact Nat.le_add_right _ _
    · exact h.ext.new A x hA hA0
  · intro A x hA hA0
    rcases gp_cases hA with ⟨k, k1, k2, _, rfl, rfl⟩ | hA
    · exact .inl (h.pend k k2).choose_spec.2.2.2.2
    · exact h.ext.fresh A x hA hA0
  · intro A hA hn
    rw [instL_get]
    · exact h.ext.frame A hA hn
    · intro k _ e1; exact hn (by omega)
  · intro A hA
    obtain ⟨r1, r2⟩ := h.ext.ro A hA
    have hneA : ∀ k ∈ l, A ≠ base + k := fun k hk e1 => by
      subst e1
      obtain ⟨_, _, _, q, _⟩ := r2
      rw [hne k hk] at q; cases q
    refine ⟨by rw [instL_get _ _ _ hneA]; exact r1, ?_⟩
    obtain ⟨v, f, c, q1, q2⟩ := r2
    exact ⟨v, f, c, by rw [instL_get _ _ _ hneA]; exact q1, by rw [(instL_rest _ _).2]; exact q2⟩

/-- The slots behind an operation. -/
theorem DInv.putSlot (hs : OkDraw P ops B) (ht : Trc P gl ops base B e τ val ao lo al) (h : DInv P gl N ops base B e τ val ao lo al g0 σ0 w0 D p g H a w) {i : Nat} {o : Oper} (ho : ops[i]? = some o) (hni : D i = false)
    (hd : ∀ d, o.dst = some d → d < N) {PD' : Nat → Bool} {g' : Gam} {H' : Nat → CA} (hle : ∀ S, Gam.le (gp base ops.size (pdn ops.size D al lo B p) H g S) (gp base ops.size PD' H' g' S)) (hlg : Gam.le g g')
    {v' : Value} (hv : VRel (gp base ops.size PD' H' g' (fun k => k == i || bit B i k)) (val i) v') (t : Nat) :
    (∃ j oj, (D j || j == i) = true ∧ ops[j]? = some oj ∧ oj.dst = some t ∧ (∀ i' o', (D i' || i' == i) = true → ops[i']? = some o' → o'.dst = some t → i' ≤ j) ∧ VRel (gp base ops.size PD' H' g' (fun k => k == j || bit B j k)) (val j) ((a.put o.dst v').tmps.getD t undef)) ∨
    ((∀ j oj, (D j || j == i) = true → ops[j]? = some oj → oj.dst ≠ some t) ∧ VRel g' (eget (e 0) t) ((a.put o.dst v').tmps.getD t undef)) := by
  by_cases hdt : o.dst = some t
  · left
    refine ⟨i, o, by simp, ho, hdt, fun i' o' h1 h2 h3 => ?_, ?_⟩
    · simp only [Bool.or_eq_true, beq_iff_eq] at h1
      rcases h1 with h1 | h1
      · by_cases hii : i' = i
        · omega
        · rcases hs.writes i o i' o' t ho h2 hii h3 hdt with b | b
          · have := hs.lt i i' b; omega
          · have := hs.down h.closed i' o' h2 (h.closed i' o' h1 h2) i b
            rw [hni] at this; cases this
      · omega
    · have hlt : t < a.tmps.size := by rw [h.size]; exact hd t hdt
      have e1 : (a.put o.dst v').tmps.getD t undef = v' := by rw [hdt]; simp [Act.put, hlt]
      rw [e1]; exact hv
  · have hsame : (a.put o.dst v').tmps.getD t undef = a.tmps.getD t undef := by
      cases hdd : o.dst with
      | none => rfl
      | some d =>
        have hne : d ≠ t := fun e1 => hdt (by rw [hdd, e1])
        simp only [Act.put, Array.getD_eq_getD_getElem?, Array.getElem?_setIfInBounds, if_neg hne]
    rw [hsame]
    rcases h.slot t with ⟨j, oj, q1, q2, q3, q4, q5⟩ | ⟨q1, q2⟩
    · left
      refine ⟨j, oj, by simp [q1], q2, q3, fun i' o' h1 h2 h3 => ?_, q5.mono (hle _)⟩
      simp only [Bool.or_eq_true, beq_iff_eq] at h1
      rcases h1 with h1 | rfl
      · exact q4 i' o' h1 h2 h3
      · rw [ho] at h2; cases h2; exact (hdt h3).elim
    · right
      refine ⟨fun j oj h1 h2 => ?_, q2.mono hlg⟩
      simp only [Bool.or_eq_true, beq_iff_eq] at h1
      rcases h1 with h1 | rfl
      · exact q1 j oj h1 h2
      · rw [ho] at h2; cases h2; exact hdt

/-- An operation that leaves the world and the stage as they are. -/
theorem DInv.quiet (hs : OkDraw P ops B) (ht : Trc P gl ops base B e τ val ao lo al) (h : DInv P gl N ops base B e τ val ao lo al g0 σ0 w0 D p g H a w) {i : Nat} {o : Oper} (ho : ops[i]? = some o) (hni : D i = false)
    (hr : ∀ ed ∈ o.after, Region.binds .any ed = true → D ed.on = true) (hd : ∀ d, o.dst = some d → d < N) (hl : lo i = false) (ha : al i = false) {v' : Value} (hv : VRel (gp base ops.size (pdn ops.size D al lo B p) H g (bit B i)) (val i) v') :
    DInv P gl N ops base B e τ val ao lo al g0 σ0 w0 (fun j => D j || j == i) p g H (a.put o.dst v') w := by
  have hpd : pdn ops.size (fun j => D j || j == i) al lo B p = pdn ops.size D al lo B p := by
    funext k
    simp only [pdn]
    by_cases hk : k = i
    · subst hk; simp [ha]
    · have : (k == i) = false := by simpa using hk
      simp [this]
  have hgn : ∀ k, k < ops.size → pdn ops.size D al lo B p k = true → g (base + k) = none := fun k hk hp => h.gnone ht hk hp
  refine ⟨h.pn, fun j h1 h2 => by simp [h.below j h1 h2], fun j h1 h2 => ?_, h.here, h.rel, h.ext, h.free, h.next, by rw [hpd]; exact h.pend, by rw [hpd]; exact h.dist, fun t => ?_, ?_, ?_, ?_, ?_⟩
  · have hne : j ≠ i := fun e1 => by subst e1; rw [hl] at h2; cases h2
    simp [h.above j h1 h2, hne]
  · rw [hpd]
    exact h.putSlot hs ht ho hni hd (fun S => Gam.le_refl _) (Gam.le_refl _) (hv.mono (gp_mono hgn fun k _ hb => by simp [hb])) t
  · cases o.dst <;> exact h.defers
  · cases hdd : o.dst with
    | none => exact h.size
    | some d => simp [Act.put, h.size]
  · intro j oj h1 h2 ed he hb
    simp only [Bool.or_eq_true, beq_iff_eq] at h1 ⊢
    rcases h1 with h1 | rfl
    · exact .inl (h.closed j oj h1 h2 ed he hb)
    · rw [ho] at h2; cases h2; exact .inl (hr ed he hb)
  · intro j h1
    simp only [Bool.or_eq_true, beq_iff_eq] at h1
    rcases h1 with h1 | rfl
    · exact h.inn j h1
    · exact (Array.getElem?_eq_some_iff.1 ho).1

theorem DInv.notGone (hs : OkDraw P ops B) (h : DInv P gl N ops base B e τ val ao lo al g0 σ0 w0 D p g H a w) {i : Nat} (hni : D i = false) : gone lo B p i = false := by
  cases hg : gone lo B p i with
  | false => rfl
  | true =>
    simp only [gone, List.any_eq_true, List.mem_range, Bool.and_eq_true] at hg
    obtain ⟨j, h1, h2, h3⟩ := hg
    have hD := h.below j h1 h2
    have hj := h.inn j hD
    have := hs.down h.closed j _ (Array.getElem?_eq_getElem hj) (h.closed j _ hD (Array.getElem?_eq_getElem hj)) i h3
    rw [hni] at this; cases this

/-- An operation that makes a block. -/
theorem DInv.alloc (hs : OkDraw P ops B) (ht : Trc P gl ops base B e τ val ao lo al) (h : DInv P gl N ops base B e τ val ao lo al g0 σ0 w0 D p g H a w) {i : Nat} {o : Oper} (ho : ops[i]? = some o) (hni : D i = false)
    (hr : ∀ ed ∈ o.after, Region.binds .any ed = true → D ed.on = true) (hd : ∀ d, o.dst = some d → d < N) (hl : lo i = false) (ha : al i = true) {w1 : World} {ob : Obj} {n : Nat} {v' : Value}
    (hw : w1.heap = w.heap) (h1 : w1.os = w.os) (h2 : w1.output = w.output) (h3 : w1.tape = w.tape)
    (hv : ∀ g' : Gam, Gam.le (gp base ops.size (pdn ops.size D al lo B p) H g (bit B i)) g' → g' (base + i) = some ⟨w.heap.size, 0, n⟩ → VRel g' (val i) v')
    (hn : NewSays (gp base ops.size (pdn ops.size D al lo B p) H g (bit B i)) n (ao i) ob) :
    DInv P gl N ops base B e τ val ao lo al g0 σ0 w0 (fun j => D j || j == i) p g (fun k => if k = i then ⟨w.heap.size, 0, n⟩ else H k) (a.put o.dst v') (newW w1 ob) := by
  have hi : i < ops.size := (Array.getElem?_eq_some_iff.1 ho).1
  have hng := h.notGone hs hni
  have hpd : ∀ k, pdn ops.size (fun j => D j || j == i) al lo B p k = (pdn ops.size D al lo B p k || k == i) := by
    intro k
    simp only [pdn]
    by_cases hk : k = i
    · subst hk; simp [ha, hng, hi]
    · have : (k == i) = false := by simpa using hk
      simp [this]
  have hpi : pdn ops.size D al lo B p i = false := by simp [pdn, hni]
  have hgi : g (base + i) = none := by
    have := h.free i hi (fun q => by rw [hl] at q; cases q) (fun _ => hng)
    cases e2 : g (base + i) with
    | none => rfl
    | some x => obtain ⟨ob, hob, _⟩ := h.rel.obj _ x e2; rw [this] at hob; cases hob
  have hgn : ∀ k, k < ops.size → pdn ops.size D al lo B p k = true → g (base + k) = none := fun k hk hp => h.gnone ht hk hp
  have hle : ∀ S, Gam.le (gp base ops.size (pdn ops.size D al lo B p) H g S) (gp base ops.size (pdn ops.size (fun j => D j || j == i) al lo B p) (fun k => if k = i then ⟨w.heap.size, 0, n⟩ else H k) g S) := by
    intro S A x hA
    rcases gp_cases hA with ⟨k, k1, k2, k3, rfl, rfl⟩ | hA
    · have hki : k ≠ i := fun e1 => by subst e1; rw [hpi] at k2; cases k2
      rw [gp_in k1 (by rw [hpd]; simp [k2]) k3, if_neg hki]
    · rw [gp_out]
      · exact hA
      · intro k k1 k2 _ e1
        subst e1
        rw [hpd] at k2
        simp only [Bool.or_eq_true, beq_iff_eq] at k2
        rcases k2 with k2 | rfl
        · rw [hgn k k1 k2] at hA; cases hA
        · rw [hgi] at hA; cases hA
  have hold : ∀ b, b < w.heap.size → (newW w1 ob).heap[b]? = w.heap[b]? := fun b hb => by rw [newW_old w1 ob b (by rw [hw]; exact hb), hw]
  have hnew : (newW w1 ob).heap[w.heap.size]? = some ob := by have := newW_new w1 ob; rwa [hw] at this
  refine ⟨h.pn, fun j a b => by simp [h.below j a b], fun j a b => ?_, h.here, h.rel.more hw ob, h.ext.trans (Ext.more _ _ _ hw h1 h2 h3 ob), h.free, h.next, fun k hk => ?_, fun k k' hk hk' he => ?_, fun t => ?_, ?_, ?_, ?_, ?_⟩
  · have hne : j ≠ i := fun e1 => by subst e1; rw [hl] at b; cases b
    simp [h.above j a b, hne]
  · rw [hpd] at hk
    by_cases hki : k = i
    · subst hki
      rw [if_pos rfl]
      exact ⟨ob, hnew, rfl, hn.mono (hle _), fun A x hA => by have := h.rel.blk A x hA; simp only []; omega, h.ext.size⟩
    · have hk2 : pdn ops.size D al lo B p k = true := by
        simp only [Bool.or_eq_true, beq_iff_eq] at hk
        rcases hk with hk | hk
        · exact hk
        · exact (hki hk).elim
      simp only [if_neg hki]
      obtain ⟨ob2, o1, o2, o3, o4, o5⟩ := h.pend k hk2
      exact ⟨ob2, by rw [hold _ (Array.getElem?_eq_some_iff.1 o1).1]; exact o1, o2, o3.mono (hle _), o4, o5⟩
  · rw [hpd] at hk hk'
    have lt : ∀ k, pdn ops.size D al lo B p k = true → (H k).block < w.heap.size := fun k q => (Array.getElem?_eq_some_iff.1 (h.pend k q).choose_spec.1).1
    simp only [Bool.or_eq_true, beq_iff_eq] at hk hk'
    by_cases hki : k = i
    · by_cases hki' : k' = i
      · omega
      · rcases hk' with hk' | hk'
        · simp only [if_pos hki, if_neg hki'] at he
          have := lt k' hk'; omega
        · exact (hki' hk').elim
    · by_cases hki' : k' = i
      · rcases hk with hk | hk
        · simp only [if_neg hki, if_pos hki'] at he
          have := lt k hk; omega
        · exact (hki hk).elim
      · simp only [if_neg hki, if_neg hki'] at he
        rcases hk with hk | hk
        · rcases hk' with hk' | hk'
          · exact h.dist k k' hk hk' he
          · exact (hki' hk').elim
        · exact (hki hk).elim
  · refine h.putSlot hs ht ho hni hd hle (Gam.le_refl _) (hv _ ?_ ?_) t
    · refine Gam.le_trans (hle _) (gp_mono (fun k hk hp => ?_) fun k _ hb => by simp [hb])
      rw [hpd] at hp
      simp only [Bool.or_eq_true, beq_iff_eq] at hp
      rcases hp with hp | rfl
      · exact hgn k hk hp
      · exact hgi
    · rw [gp_in hi (by rw [hpd]; simp) (by simp), if_pos rfl]
  · cases o.dst <;> exact h.defers
  · cases hdd : o.dst with
    | none => exact h.size
    | some d => simp [Act.put, h.size]
  · intro j oj q1 q2 ed he hb
    simp only [Bool.or_eq_true, beq_iff_eq] at q1 ⊢
    rcases q1 with q1 | rfl
    · exact .inl (h.closed j oj q1 q2 ed he hb)
    · rw [ho] at q2; cases q2; exact .inl (hr ed he hb)
  · intro j q1
    simp only [Bool.or_eq_true, beq_iff_eq] at q1
    rcases q1 with q1 | rfl
    · exact h.inn j q1
    · exact hi
end inv
end Go.Ev
