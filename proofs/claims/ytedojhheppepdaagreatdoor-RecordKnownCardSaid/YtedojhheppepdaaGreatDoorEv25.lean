/-
  A quicker evaluator of code, over any program: rows of instructions. No condition.
-/
import Derived.Test.YtedojhheppepdaaGreatDoorEv24
namespace Go.Ev
open Go
set_option linter.unusedVariables false
set_option linter.unusedSimpArgs false
section
variable {P : Program} {gl : List Nat} {W : List (Nat × Src)} {K : List Nat} {i n : Nat} {env : XEnv} {L : List XV}

theorem map_some {α β : Type} {f : α → β} {x : Option α} {y : β} (h : x.map f = some y) : ∃ a, x = some a ∧ y = f a := by
  cases x with
  | none => cases h
  | some a => cases h; exact ⟨a, rfl, rfl⟩

theorem compIns_ok {call : KF} (hc : call.ok P gl) {o : Oper} {ins : XIns} (h : compIns P W K i n o = some ins) : InsW P gl W K i n o (xins P call ins) := by
  unfold compIns at h
  split at h
  · rename_i x ho
    obtain ⟨a, ha, rfl⟩ := map_some h
    exact (mov_ok (.inl ho) ha).toW
  · rename_i x ho
    obtain ⟨a, ha, rfl⟩ := map_some h
    exact (mov_ok (.inr ho) ha).toW
  · rename_i op t x y yt ho
    split at h
    · split at h
      · rename_i a b ha hb
        split at h
        · cases h; exact (shf_ok (left := true) ho rfl ha hb).toW
        · cases h; exact (shf_ok (left := false) ho rfl ha hb).toW
        · cases h; exact (bits_ok ho ha hb).toW
        · cases h; exact (bits_ok ho ha hb).toW
        · cases h; exact (bits_ok ho ha hb).toW
        · split at h
          · cases h; exact (bin_ok ho ha hb).toW
          · exact gen_ok hc h
      · cases h
    · exact gen_ok hc h
  · rename_i t x lo hi mx ho
    split at h
    · rename_i ht
      split at h
      · rename_i a l h' ha hl hh
        cases h
        exact (subS_ok ho ht ha hl hh).toW
      · cases h
    · exact gen_ok hc h
  · rename_i t x ho
    obtain ⟨a, ha, rfl⟩ := map_some h
    exact (not_ok ho ha).toW
  · rename_i x ix ho
    obtain ⟨a, ha, rfl⟩ := map_some h
    exact (ext_ok ho ha).toW
  · rename_i c x y ho
    split at h
    · rename_i a b d ha hb hd
      cases h
      exact (pick_ok ho ha hb hd).toW
    · cases h
  · rename_i it isS ho
    split at h
    · rename_i hs
      subst hs
      obtain ⟨a, ha, rfl⟩ := map_some h
      exact (next_ok ho ha).toW
    · exact gen_ok hc h
  · rename_i src dst x ho
    split at h
    · rename_i k hs hd
      obtain ⟨a, ha, rfl⟩ := map_some h
      exact (conv_ok ho hs hd ha).toW
    · exact gen_ok hc h
  · rename_i t x ix ho
    split at h
    · rename_i ht
      split at h
      · rename_i a b ha hb
        cases h
        exact (idxS_ok ho ht ha hb).toW
      · cases h
    · exact gen_ok hc h
  · rename_i x ho
    obtain ⟨a, ha, rfl⟩ := map_some h
    exact (nil_ok ho ha).toW
  · rename_i t a ho
    split at h
    · rename_i hl
      obtain ⟨a, ha, rfl⟩ := map_some h
      exact (load1_ok ho hl ha).toW
    · rename_i m hl
      obtain ⟨a, ha, rfl⟩ := map_some h
      exact (loadN_ok ho hl ha).toW
    · cases h
  · rename_i t a v ho
    split at h
    · rename_i m a v hs ha hv
      cases h
      exact (store_ok ho hs ha hv).toW
    · cases h
  · rename_i s x f ho
    split at h
    · rename_i off hf
      obtain ⟨a, ha, rfl⟩ := map_some h
      exact (faddr_ok ho hf ha).toW
    · cases h
  · rename_i t l c ho
    split at h
    · rename_i e hu
      split at h
      · rename_i ti hi
        split at h
        · rename_i z a b hz ha hb
          cases h
          exact (mk_ok ho hu hi hz ha hb).toW
        · cases h
      · cases h
    · cases h
  · rename_i t x ix ho
    split at h
    · rename_i e ht
      split at h
      · rename_i m a b hs ha hb
        cases h
        exact (iaddr_ok (len := none) ho ht hs ha hb).toW
      · cases h
    · rename_i len e ht
      split at h
      · rename_i m a b hs ha hb
        cases h
        exact (iaddr_ok (len := some len) ho ht hs ha hb).toW
      · cases h
    · exact gen_ok hc h
  · rename_i c ho
    split at h
    · rename_i f hf
      split at h
      · rename_i hb
        obtain ⟨l, hl, rfl⟩ := map_some h
        exact callF_ok hc ho hf hb hl
      · exact gen_ok hc h
    · rename_i hf
      split at h
      · rename_i t x h1 h2
        split at h
        · rename_i hu
          obtain ⟨a, ha, rfl⟩ := map_some h
          exact (lenS_ok ho hf h1 h2 (str := true) hu ha).toW
        · rename_i e hu
          obtain ⟨a, ha, rfl⟩ := map_some h
          exact (lenS_ok ho hf h1 h2 (str := false) ⟨e, hu⟩ ha).toW
        · exact gen_ok hc h
      · exact gen_ok hc h
    · rename_i hf
      split at h
      · rename_i sT xT s x h1 h2
        split at h
        · rename_i e hu
          split at h
          · rename_i ti hi
            split at h
            · rename_i z a b hz ha hb
              cases h
              exact (app_ok ho hf h1 h2 hu hi hz ha hb).toW
            · cases h
          · cases h
        · cases h
      · cases h
    · exact gen_ok hc h
  · exact gen_ok hc h

theorem gen_ok2 {call : KF} {o : Oper} {ins : XIns} (hcl : clsOf P o.op = .pure ∨ clsOf P o.op = .read) (h : compGen W K i n o = some ins) : InsOk P gl W K i n o (xins P call ins) := by
  intro env L base σ k r e
  unfold compGen at h
  obtain ⟨m, hm, rfl⟩ := map_some h
  have e : iGen P call o m n env L base σ k = some r := e
  unfold iGen at e
  refine ⟨rgen m env L, fun x hx => resolveT_spec _ m hm x (by simpa using hx), ?_⟩
  split at e
  · rename_i v σ' he
    rw [normK_eq, take_eq] at e
    exact ⟨xvOf v, σ', by rw [xvOf_out]; exact .inl he, e⟩
  · rename_i f args he
    rcases hcl with hcl | hcl
    · obtain ⟨v, q, _⟩ := evalOp_pure hcl he; cases q
    · obtain ⟨v, q, _⟩ := evalOp_read hcl he; cases q
  · cases e
/-- What looks at no memory, or reads, or stores. -/
theorem compIns_ok2 {call : KF} {o : Oper} {ins : XIns} (hcl : (clsOf P o.op = .pure ∨ clsOf P o.op = .read) ∨ isStoreOp o.op = true) (h : compIns P W K i n o = some ins) : InsOk P gl W K i n o (xins P call ins) := by
  unfold compIns at h
  split at h
  · rename_i x ho
    obtain ⟨a, ha, rfl⟩ := map_some h
    exact (mov_ok (.inl ho) ha)
  · rename_i x ho
    obtain ⟨a, ha, rfl⟩ := map_some h
    exact (mov_ok (.inr ho) ha)
  · rename_i op t x y yt ho
    split at h
    · split at h
      · rename_i a b ha hb
        split at h
        · cases h; exact (shf_ok (left := true) ho rfl ha hb)
        · cases h; exact (shf_ok (left := false) ho rfl ha hb)
        · cases h; exact (bits_ok ho ha hb)
        · cases h; exact (bits_ok ho ha hb)
        · cases h; exact (bits_ok ho ha hb)
        · split at h
          · cases h; exact (bin_ok ho ha hb)
          · exact gen_ok2 (by rcases hcl with q | q; exact q; rw [ho] at q; cases q) h
      · cases h
    · exact gen_ok2 (by rcases hcl with q | q; exact q; rw [ho] at q; cases q) h
  · rename_i t x lo hi mx ho
    split at h
    · rename_i ht
      split at h
      · rename_i a l h' ha hl hh
        cases h
        exact (subS_ok ho ht ha hl hh)
      · cases h
    · exact gen_ok2 (by rcases hcl with q | q; exact q; rw [ho] at q; cases q) h
  · rename_i t x ho
    obtain ⟨a, ha, rfl⟩ := map_some h
    exact (not_ok ho ha)
  · rename_i x ix ho
    obtain ⟨a, ha, rfl⟩ := map_some h
    exact (ext_ok ho ha)
  · rename_i c x y ho
    split at h
    · rename_i a b d ha hb hd
      cases h
      exact (pick_ok ho ha hb hd)
    · cases h
  · rename_i it isS ho
    split at h
    · rename_i hs
      subst hs
      obtain ⟨a, ha, rfl⟩ := map_some h
      exact (next_ok ho ha)
    · exact gen_ok2 (by rcases hcl with q | q; exact q; rw [ho] at q; cases q) h
  · rename_i src dst x ho
    split at h
    · rename_i k hs hd
      obtain ⟨a, ha, rfl⟩ := map_some h
      exact (conv_ok ho hs hd ha)
    · exact gen_ok2 (by rcases hcl with q | q; exact q; rw [ho] at q; cases q) h
  · rename_i t x ix ho
    split at h
    · rename_i ht
      split at h
      · rename_i a b ha hb
        cases h
        exact (idxS_ok ho ht ha hb)
      · cases h
    · exact gen_ok2 (by rcases hcl with q | q; exact q; rw [ho] at q; cases q) h
  · rename_i x ho
    obtain ⟨a, ha, rfl⟩ := map_some h
    exact (nil_ok ho ha)
  · rename_i t a ho
    split at h
    · rename_i hl
      obtain ⟨a, ha, rfl⟩ := map_some h
      exact (load1_ok ho hl ha)
    · rename_i m hl
      obtain ⟨a, ha, rfl⟩ := map_some h
      exact (loadN_ok ho hl ha)
    · cases h
  · rename_i t a v ho
    split at h
    · rename_i m a v hs ha hv
      cases h
      exact (store_ok ho hs ha hv)
    · cases h
  · rename_i s x f ho
    split at h
    · rename_i off hf
      obtain ⟨a, ha, rfl⟩ := map_some h
      exact (faddr_ok ho hf ha)
    · cases h
  · rename_i t l c ho
    split at h
    · rename_i e hu
      split at h
      · rename_i ti hi
        split at h
        · rename_i z a b hz ha hb
          cases h
          exact (mk_ok ho hu hi hz ha hb)
        · cases h
      · cases h
    · cases h
  · rename_i t x ix ho
    split at h
    · rename_i e ht
      split at h
      · rename_i m a b hs ha hb
        cases h
        exact (iaddr_ok (len := none) ho ht hs ha hb)
      · cases h
    · rename_i len e ht
      split at h
      · rename_i m a b hs ha hb
        cases h
        exact (iaddr_ok (len := some len) ho ht hs ha hb)
      · cases h
    · exact gen_ok2 (by rcases hcl with q | q; exact q; rw [ho] at q; cases q) h
  · rename_i c ho
    split at h
    · rename_i f hf
      split at h
      · rename_i hb
        obtain ⟨l, hl, rfl⟩ := map_some h
        rcases hcl with (q | q) | q
        · rw [ho] at q; simp [clsOf, hf] at q
        · rw [ho] at q; simp [clsOf, hf] at q
        · rw [ho] at q; simp [isStoreOp, hf] at q
      · exact gen_ok2 (by rcases hcl with q | q; exact q; rw [ho] at q; simp [isStoreOp, hf] at q) h
    · rename_i hf
      split at h
      · rename_i t x h1 h2
        split at h
        · rename_i hu
          obtain ⟨a, ha, rfl⟩ := map_some h
          exact (lenS_ok ho hf h1 h2 (str := true) hu ha)
        · rename_i e hu
          obtain ⟨a, ha, rfl⟩ := map_some h
          exact (lenS_ok ho hf h1 h2 (str := false) ⟨e, hu⟩ ha)
        · exact gen_ok2 (by rcases hcl with q | q; exact q; rw [ho] at q; simp [isStoreOp, hf] at q) h
      · exact gen_ok2 (by rcases hcl with q | q; exact q; rw [ho] at q; simp [isStoreOp, hf] at q) h
    · rename_i hf
      split at h
      · rename_i sT xT s x h1 h2
        split at h
        · rename_i e hu
          split at h
          · rename_i ti hi
            split at h
            · rename_i z a b hz ha hb
              cases h
              exact app_ok ho hf h1 h2 hu hi hz ha hb
            · cases h
          · cases h
        · cases h
      · cases h
    · rename_i hno _
      refine gen_ok2 ?_ h
      rcases hcl with q | q
      · exact q
      · exfalso
        rw [ho] at q
        simp only [isStoreOp] at q
        cases q
  · refine gen_ok2 ?_ h
    rcases hcl with q | q
    · exact q
    · exfalso
      cases hop : o.op <;> simp_all [isStoreOp]

/-! ## Slots -/
theorem rank_inj {K : List Nat} : ∀ {j : Nat} {t t' r : Nat}, rank K t j = some r → rank K t' j = some r → t = t' := by
  have ge : ∀ (K : List Nat) (t j r : Nat), rank K t j = some r → j ≤ r := by
    intro K
    induction K with
    | nil => intro t j r h; cases h
    | cons a K ih =>
      intro t j r h
      simp only [rank] at h
      split at h
      · cases h; exact Nat.le_refl _
      · have := ih t (j + 1) r h; omega
  induction K with
  | nil => intro j t t' r h; cases h
  | cons a K ih =>
    intro j t t' r h h'
    simp only [rank] at h h'
    split at h
    · rename_i e1
      cases h
      split at h'
      · rename_i e2
        rw [Nat.beq_eq] at e1 e2
        omega
      · have := ge K t' (j + 1) j h'; omega
    · split at h'
      · cases h'
        have := ge K t (j + 1) j h; omega
      · exact ih h h'
theorem varOf_inj {K : List Nat} {t t' : Nat} {p : List Bool} (h : varOf K t = some p) (h' : varOf K t' = some p) : t = t' := by
  obtain ⟨r, h1, e1⟩ := map_some h
  obtain ⟨r', h2, e2⟩ := map_some h'
  have : r = r' := path_inj (e1.symm.trans e2)
  subst this
  exact rank_inj h1 h2

theorem resolve_tmp (t : Nat) : resolve W K i (.tmp t) = (match look W t with | some (.at j) => some (.loc (i - 1 - j)) | some (.arg a) => some a | none => (varOf K t).map .var) := rfl
/-- The kept slots stand to the frame. -/
structure VarRel (K : List Nat) (N : Nat) (g : Gam) (env : XEnv) (a : Act) : Prop where
  defers : a.defers = []
  size : a.tmps.size = N
  vars : ∀ t p, varOf K t = some p → VRel g (orUndef (env.get p)).out (a.tmps.getD t undef)
  rest : ∀ t, varOf K t = none → N ≤ t → (∀ t' p, varOf K t' = some p → p ≠ path t) → VRel g (orUndef (env.get (path t))).out undef
theorem VarRel.mono {K : List Nat} {N : Nat} {g g' : Gam} {env : XEnv} {a : Act} (h : VarRel K N g env a) (hg : Gam.le g g') : VarRel K N g' env a := ⟨h.defers, h.size, fun t p e => (h.vars t p e).mono hg, fun t a b c => (h.rest t a b c).mono hg⟩

/-- What stands of the slots told of, ahead of the operations l. -/
def SrcOk (K : List Nat) (i : Nat) (l : List Oper) : Src → Prop
  | .at j => j < i
  | .arg (.val _) => True
  | .arg (.var p) => ∃ t0, varOf K t0 = some p ∧ ∀ o ∈ l, o.dst ≠ some t0
  | .arg (.loc _) => False
def WOk (K : List Nat) (i : Nat) (l : List Oper) (W : List (Nat × Src)) : Prop := ∀ t s, look W t = some s → SrcOk K i l s
structure XRel (K : List Nat) (N : Nat) (g : Gam) (W : List (Nat × Src)) (i : Nat) (env : XEnv) (L : List XV) (a : Act) : Prop extends VarRel K N g env a where
  len : L.length = i
  told : ∀ t b, resolve W K i (.tmp t) = some b → VRel g (b.get env L).out (a.tmps.getD t undef)
theorem XRel.mono {N : Nat} {g g' : Gam} {a : Act} (h : XRel K N g W i env L a) (hg : Gam.le g g') : XRel K N g' W i env L a := ⟨h.toVarRel.mono hg, h.len, fun t b e => (h.told t b e).mono hg⟩

theorem look_cons (d t : Nat) (s : Src) (W : List (Nat × Src)) : look ((d, s) :: W) t = if d = t then some s else look W t := by
  simp only [look]
  by_cases h : d = t
  · subst h
    have : Nat.beq d d = true := by simp
    simp [this]
  · have : Nat.beq d t = false := by rw [← Bool.not_eq_true, Nat.beq_eq]; exact h
    simp [this, h]
theorem SrcOk.tail {K : List Nat} {i j : Nat} {o : Oper} {l : List Oper} (hij : i ≤ j) {s : Src} (h : SrcOk K i (o :: l) s) : SrcOk K j l s := by
  cases s with
  | «at» k => exact Nat.lt_of_lt_of_le h hij
  | arg b => cases b with
    | loc _ => exact h
    | val _ => trivial
    | var p => obtain ⟨t0, h1, h2⟩ := h; exact ⟨t0, h1, fun o' ho' => h2 o' (List.mem_cons_of_mem _ ho')⟩

theorem get_loc (j : Nat) (v : XV) : (XArg.loc (j + 1)).get env (v :: L) = (XArg.loc j).get env L := rfl
theorem get_var (p : List Bool) (env : XEnv) (L : List XV) : (XArg.var p).get env L = orUndef (env.get p) := by
  show orUndef (getR p env) = _
  rw [getR_eq]

def putE (p : Option (List Bool)) (v : XV) (env : XEnv) : XEnv := match p with | some p => env.set p v | none => env
/-- A value pushed, and laid into its slot. -/
theorem XRel.push {N : Nat} {g : Gam} {a : Act} {o : Oper} {l : List Oper} (h : XRel K N g W i env L a) (hw : WOk K i (o :: l) W) (hd : ∀ d, o.dst = some d → d < N) {v : XV} {v' : Value} (hv : VRel g v.out v') :
    XRel K N g (pushW o.dst i W) (i + 1) (putE (dstVar K o.dst) v env) (v :: L) (a.put o.dst v') ∧
    WOk K (i + 1) l (pushW o.dst i W) := by
  cases hdd : o.dst with
  | none =>
    simp only [Act.put, pushW, dstVar, putE]
    refine ⟨⟨h.toVarRel, by simp [h.len], fun t b hb => ?_⟩, fun t s hs => (hw t s hs).tail (by omega)⟩
    rw [resolve_tmp] at hb
    split at hb
    · rename_i j hj
      cases hb
      have hlt : j < i := hw t _ hj
      have := h.told t (.loc (i - 1 - j)) (by rw [resolve_tmp, hj])
      rw [show i + 1 - 1 - j = (i - 1 - j) + 1 by omega, get_loc]
      exact this
    · rename_i b' hj
      cases hb
      have := h.told t b (by rw [resolve_tmp, hj])
      have hs := hw t _ hj
      cases b with
      | loc _ => exact hs.elim
      | val x => exact this
      | var p => rw [get_var] at this ⊢; exact this
    · rename_i hj
      obtain ⟨p, hp, rfl⟩ := map_some hb
      rw [get_var]; exact h.vars t p hp
  | some d =>
    have hdN := hd d hdd
    have hgetd : ∀ t, (a.put (some d) v').tmps.getD t undef = if d = t then v' else a.tmps.getD t undef := by
      intro t
      simp only [Act.put]
      by_cases e : d = t
      · subst e
        rw [if_pos rfl]
        have : d < a.tmps.size := by rw [h.size]; exact hdN
        simp [this]
      · rw [if_neg e]
        simp only [Array.getD_eq_getD_getElem?, Array.getElem?_setIfInBounds, if_neg e]
    simp only [pushW, dstVar]
    obtain ⟨env', he'⟩ : ∃ env', env' = putE (varOf K d) v env := ⟨_, rfl⟩
    rw [← he']
    have hother : ∀ t p, varOf K t = some p → d ≠ t → env'.get p = env.get p := by
      intro t p hp hne
      rw [he']
      unfold putE
      split
      · rename_i q hq
        rw [Tr.get_set, if_neg (fun e => by subst e; exact hne (varOf_inj hq hp))]
      · rfl
    have hself : ∀ p, varOf K d = some p → env'.get p = some v := by
      intro p hp
      rw [he', hp]
      simp [putE, Tr.get_set]
    refine ⟨⟨⟨h.defers, by simp [Act.put, h.size], fun t p hp => ?_, fun t h1 h2 h3 => ?_⟩, by simp [h.len], fun t b hb => ?_⟩, fun t s hs => ?_⟩
    · rw [hgetd]
      by_cases e : d = t
      · subst e
        rw [if_pos rfl, hself p hp]; exact hv
      · rw [if_neg e, hother t p hp e]; exact h.vars t p hp
    · have : env'.get (path t) = env.get (path t) := by
        rw [he']
        unfold putE
        split
        · rename_i q hq
          rw [Tr.get_set, if_neg (h3 d q hq)]
        · rfl
      rw [this]; exact h.rest t h1 h2 h3
    · rw [hgetd]
      rw [resolve_tmp] at hb
      simp only [look_cons] at hb
      by_cases e : d = t
      · subst e
        rw [if_pos rfl] at hb ⊢
        cases hb
        rw [show i + 1 - 1 - i = 0 by omega]
        exact hv
      · rw [if_neg e] at hb ⊢
        split at hb
        · rename_i j hj
          cases hb
          have hlt : j < i := hw t _ hj
          have := h.told t (.loc (i - 1 - j)) (by rw [resolve_tmp, hj])
          rw [show i + 1 - 1 - j = (i - 1 - j) + 1 by omega, get_loc]
          exact this
        · rename_i b' hj
          cases hb
          have := h.told t b (by rw [resolve_tmp, hj])
          have hs := hw t _ hj
          cases b with
          | loc _ => exact hs.elim
          | val x => exact this
          | var p =>
            obtain ⟨t0, h1, h2⟩ := hs
            have hne : d ≠ t0 := fun e => h2 o List.mem_cons_self (by rw [hdd, e])
            rw [get_var] at this ⊢
            rw [hother t0 p h1 hne]; exact this
        · rename_i hj
          obtain ⟨p, hp, rfl⟩ := map_some hb
          rw [get_var, hother t p hp e]; exact h.vars t p hp
    · rw [look_cons] at hs
      split at hs
      · cases hs; exact Nat.lt_succ_self i
      · exact (hw t s hs).tail (by omega)
end
end Go.Ev
