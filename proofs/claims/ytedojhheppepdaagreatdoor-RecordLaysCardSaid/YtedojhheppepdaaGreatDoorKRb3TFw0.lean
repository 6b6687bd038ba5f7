/-
  The evaluator and the contracts, merged out of 2 texts (Rb3 to Fw0). No condition.
-/
import Derived.Test.YtedojhheppepdaaGreatDoorKRe6TRb1
import Derived.Test.YtedojhheppepdaaGreatDoorKWa4
namespace Go.Proofs
open Go Go.Ev
set_option maxRecDepth 100000
set_option linter.unusedSimpArgs false
set_option linter.unusedVariables false
set_option linter.defProp false
set_option maxHeartbeats 4000000
theorem Jaq {A id n ver F len : Nat} {c nc : List Value} {σ : St} (hl : c.length = len) (h0 : n ≠ 0) (h1 : len + n ≤ 1000000000) (hn : nc.length = n) (h3 : nc.all (·.oneCell') = true) :
    appG Jct A len 2 id n nc σ (some (.cells true ver F c)) = some (.val (.slice (some ⟨id, 0, none⟩) (c ++ nc).length 2) (((((σ.set A (.cells false ver F c)).set id (.cells true ver F (c ++ nc))).setFam F id).setHint A len).setHint id (len + nc.length))) := by
  rw [Kds hl h0 h1 h3, List.length_append, hl, hn]
theorem CAt.setNew {σ τ : St} {R vR A ver F X : Nat} {cells c : List Value} {o : AObj} (h : CAt σ τ R vR cells A ver F c) (h1 : X ≠ A) (h2 : X ≠ R) (h3 : σ.next ≤ X) : CAt σ (τ.set X o) R vR cells A ver F c := by
  have e1 : ¬ X = A := h1
  have e2 : ¬ X = R := h2
  exact ⟨by simp [e1, h.row], by simp [e2, h.rc], by simpa using h.an, by simpa using h.rn, h.sa, h.sr, h.sf, h.ne, h.keeps.set h3⟩
theorem CAt.appN {σ τ : St} {R vR A ver F id x y n : Nat} {cells c nc : List Value} (h : CAt σ τ R vR cells A ver F c) (h1 : id ≠ A) (h2 : id ≠ R) (h3 : σ.next ≤ id) (h4 : id < τ.next) :
    CAt σ ((((((τ.set A (.cells false ver F c)).set id (.cells true ver F (c ++ nc))).setFam F id).setHint A x).setHint id y).bump n) R vR cells id ver F (c ++ nc) ∧
    τ.next + n ≤ ((((((τ.set A (.cells false ver F c)).set id (.cells true ver F (c ++ nc))).setFam F id).setHint A x).setHint id y).bump n).next ∧ id < τ.next ∧
    ∀ B, B ≠ A → B ≠ id → ((((((τ.set A (.cells false ver F c)).set id (.cells true ver F (c ++ nc))).setFam F id).setHint A x).setHint id y).bump n).get B = τ.get B := by
  refine ⟨(h.app h1 h2 h3 h4).bump, by simp, h4, fun B b1 b2 => ?_⟩
  have e1 : ¬ A = B := fun e => b1 e.symm
  have e2 : ¬ id = B := fun e => b2 e.symm
  simp [e1, e2]
theorem CAt.appNB {σ τ : St} {R vR A ver F id x y n B : Nat} {cells c nc : List Value} {o : Option AObj} (h : CAt σ τ R vR cells A ver F c) (h1 : id ≠ A) (h2 : id ≠ R) (h3 : σ.next ≤ id) (h4 : id < τ.next) (hB : τ.get B = o) (b1 : B ≠ A) (b2 : B ≠ id) :
    CAt σ ((((((τ.set A (.cells false ver F c)).set id (.cells true ver F (c ++ nc))).setFam F id).setHint A x).setHint id y).bump n) R vR cells id ver F (c ++ nc) ∧
    τ.next + n ≤ ((((((τ.set A (.cells false ver F c)).set id (.cells true ver F (c ++ nc))).setFam F id).setHint A x).setHint id y).bump n).next ∧ id < τ.next ∧
    ((((((τ.set A (.cells false ver F c)).set id (.cells true ver F (c ++ nc))).setFam F id).setHint A x).setHint id y).bump n).get B = o :=
  let ⟨a, b, c, d⟩ := h.appN h1 h2 h3 h4
  ⟨a, b, c, (d B b1 b2).trans hB⟩
theorem lt_q {A n : Nat} (h : A < n) : ∀ k, (n + k = A) = False := fun k => eq_false (by omega)
theorem Jb9 {A n : Nat} (h : A < n) : ∀ k, (A = n + k) = False := fun k => eq_false (by omega)
theorem lenA {l k : List Value} : (l ++ k).length = l.length + k.length := List.length_append
theorem lenC {a : Value} {l : List Value} : (a :: l).length = l.length + 1 := rfl
theorem lenN : ([] : List Value).length = 0 := rfl
def lenB := And.intro @lenA (And.intro @lenC (And.intro @lenN (And.intro @Jap (And.intro @Ja4 @Jbw))))
theorem Jg6 (s : ByteArray) : (Jbe s).all (·.oneCell') = true := by unfold Jbe; rw [List.all_append, Jdn, Jod]; rfl
theorem Jhj (a b : ByteArray) : (Jbd a b).all (·.oneCell') = true := by unfold Jbd; rw [List.all_append, Jg6, Jg6]; rfl
theorem one1 (k : IntKind) (z : Int) : [Value.int k z].all (·.oneCell') = true := rfl
theorem Jm7 (z : Int) : numL z 1 = [Value.int IntKind.u8 (IntKind.u8.wrap z)] := by simp [numL, Jh5]
theorem Jij {n : Nat} (h : n < 256) : [Value.int IntKind.u8 (n : Int)] = numL (n : Nat) 1 := by rw [Jm7, wrap_u8, Nat.mod_eq_of_lt h]
theorem Jto (r : RecM) (s : RecS) : sub? (Jaj r s) 0 1 = some [.int .i64 (r.kind : Nat)] ∧ sub? (Jaj r s) 1 1 = some [.int .u32 (r.id : Nat)] ∧ sub? (Jaj r s) 2 1 = some [.int .i64 r.tick] ∧ sub? (Jaj r s) 3 2 = some [.string r.sl, .string r.sd] ∧ sub? (Jaj r s) 5 1 = some [s.to] ∧ sub? (Jaj r s) 6 1 = some [.string r.content] ∧
    sub? (Jaj r s) 7 1 = some [s.fin] ∧ sub? (Jaj r s) 8 1 = some [s.fail] ∧ sub? (Jaj r s) 9 1 = some [s.which] ∧ sub? (Jaj r s) 10 1 = some [.int .i64 (r.what : Nat)] ∧ sub? (Jaj r s) 11 1 = some [.int .i64 r.next] ∧ sub? (Jaj r s) 12 1 = some [.int .u32 (r.new : Nat)] := ⟨rfl, rfl, rfl, rfl, rfl, rfl, rfl, rfl, rfl, rfl, rfl, rfl⟩
theorem Jik {may : ByteArray → ByteArray → Bool} {fin : Jan → Bool} {fail : Jaw → Bool} {r : RecM} (h : mayM may fin fail r = true) : 0 ≤ r.tick ∧ r.tick ≤ 1099511627776 := by
  unfold mayM Jc4 at h
  simp only [Bool.and_eq_true, decide_eq_true_eq] at h
  exact h.1.1.1.2
theorem Ke7 {may : ByteArray → ByteArray → Bool} {fin : Jan → Bool} {fail : Jaw → Bool} {r : RecM} (h : mayM may fin fail r = true) : Jd1 may fin fail r = true := by
  unfold mayM at h
  simp only [Bool.and_eq_true] at h
  exact h.2
attribute [local irreducible] zTF Jcf zOp zO zQ1 zQ2 zObj zQ zU zW zCl zRd zLd zPr zIf Jci zC
def SlK (σ : St) (s : Value) (n : Nat) (rows : List (List Value)) : Prop := (rows = [] ∧ s = .slice none 0 0) ∨ ∃ A o c, s = .slice (some ⟨A, o, none⟩) rows.length (n + 1) ∧ σ.cells? A = some c ∧ ∀ i (h : i < rows.length), sub? c (o + i * n) n = some rows[i]
theorem SlK.sl {σ : St} {s : Value} {n : Nat} {rows : List (List Value)} (h : SlK σ s n rows) : SlR σ s n rows := by
  rcases h with h | ⟨A, o, c, h1, h2, h3⟩
  · exact .inl h
  · exact .inr ⟨A, o, n + 1, c, h1, h2, h3⟩
theorem SlK.cut {σ : St} {s : Value} {t n m : Nat} {rows : List (List Value)} {e : TypeId} (hu : Tryz.prog.underlying t = some (.slice e)) (hz : sz? Tryz.prog e = some n) (h : SlK σ s n rows) (hm : m ≤ rows.length) :
    ∃ b k, (∀ τ, Jhz Tryz.prog t s none (some (.int .i64 (m : Nat))) none τ = some (.val (.slice b m k) τ)) ∧ SlK σ (.slice b m k) n (rows.take m) := by
  rcases h with ⟨rfl, rfl⟩ | ⟨A, o, c, rfl, h2, h3⟩
  · obtain rfl : m = 0 := by simpa using hm
    exact ⟨none, 0, fun τ => Jqz hu hz rfl, .inl ⟨by simp, rfl⟩⟩
  · refine ⟨some ⟨A, o, none⟩, n + 1, fun τ => ?_, .inr ⟨A, o, c, by rw [List.length_take, Nat.min_eq_left hm], h2, fun i h => ?_⟩⟩
    · rw [Jtj, Jg7 hu hz, Jnb, Jlo (Int.natCast_nonneg _), Int.toNat_natCast, Kak (Nat.zero_le _) hm (.inr rfl)]
      simp only [Nat.zero_mul, Nat.add_zero, Nat.sub_zero]
      rfl
    · have hi : i < rows.length := by rw [List.length_take] at h; omega
      rw [h3 i hi]; simp
def RowN (σ τ : St) (n : Nat) (v : Value) (rows : List (List Value)) : Prop := (rows = [] ∧ v = .slice none 0 0) ∨
  ∃ A ver F, v = .slice (some ⟨A, 0, none⟩) rows.length (n + 1) ∧ τ.get A = some (.cells true ver F rows.flatten) ∧ σ.next ≤ A ∧ A < τ.next ∧ σ.next ≤ F
theorem RowN.keep {σ τ τ2 : St} {n : Nat} {v : Value} {rows : List (List Value)} (h : RowN σ τ n v rows) (k : Jad τ τ2) : RowN σ τ2 n v rows := by
  rcases h with h | ⟨A, ver, F, h1, h2, h3, h4, h5⟩
  · exact .inl h
  · exact .inr ⟨A, ver, F, h1, (k.get A h4).trans h2, h3, Nat.lt_of_lt_of_le h4 k.next, h5⟩
theorem Kai {n : Nat} : ∀ (rows : List (List Value)) (hf : ∀ x ∈ rows, x.length = n) (i : Nat) (hi : i < rows.length), sub? rows.flatten (i * n) n = some rows[i]
  | r :: rs, hf, 0, _ => by
    have := hf r (by simp)
    subst this
    simp [sub?]
  | r :: rs, hf, i + 1, hi => by
    have ih := Kai rs (fun x hx => hf x (by simp [hx])) i (by simpa using hi)
    have e : (i + 1) * n = r.length + i * n := by rw [hf r (by simp), Nat.add_mul]; omega
    unfold sub? at ih ⊢
    rw [e, List.flatten_cons, List.length_append]
    split at ih
    · rw [if_pos (by omega), show (r ++ rs.flatten).drop (r.length + i * n) = rs.flatten.drop (i * n) by simp [List.drop_append]]
      simpa using ih
    · cases ih
theorem RowN.sl {σ τ : St} {n : Nat} {v : Value} {rows : List (List Value)} (h : RowN σ τ n v rows) (hf : ∀ x ∈ rows, x.length = n) : SlR τ v n rows := by
  rcases h with ⟨rfl, rfl⟩ | ⟨A, ver, F, rfl, h2, _⟩
  · exact .inl ⟨rfl, rfl⟩
  · refine .inr ⟨A, 0, n + 1, rows.flatten, rfl, by simp [St.cells?, St.rd, h2], fun i hi => ?_⟩
    rw [Nat.zero_add]
    exact Kai rows hf i hi
theorem Jcm (a b : ByteArray) : Jai 97 [.agg ⟨Jbb a b⟩] (.agg ⟨Jbb (cutB a 80) (cutB b 300)⟩) := Jyq a b
theorem Jc9 (s : ByteArray) (n : Nat) : Jai 98 [.string s, .int .i64 (n : Nat)] (.string (cutB s n)) := Jpi s n
theorem Jp9 {gl : List Nat} (l : List Int) (s : Value) (σ0 σ : St) (hw : σ0.Wf) (hk0 : Jad σ0 σ) (hs : SlR σ0 s 1 (l.map Ja8)) (hl : l.length < 100000000) :
    TF Tryz.prog gl 99 #[s] σ fun v σ' => Jad σ σ' ∧ RowN σ σ' 1 v (l.map Ja8) := by
  refine TF.walk (Jaf gl) Jae Tryz.func99 (by kernel_rfl) rfl fun c hc => ?_
  cases hc
  rcases hs with ⟨hnil, rfl⟩ | ⟨A, o, k, c, rfl, hc, hr⟩
  · have e : l = [] := by simpa using hnil
    subst e
    simp (maxSteps := 1000000) (disch := first | omega | decide +kernel | (simp only [symN] <;> omega) | assumption) only [Tryz.f99, Jaa, Jac, reduceIte, Nat.reduceEqDiff, Nat.reduceAdd, Nat.reduceMul, Jiz, Jmk]
    exact ⟨by (repeat (first | exact Jad.refl _ | apply Jad.bump' | apply Jad.setHint | refine Jad.setFam ?_ (by first | omega | (simp <;> omega)) | refine Jad.set ?_ (by first | omega | (simp <;> omega)))), .inl ⟨rfl, rfl⟩⟩
  rw [List.length_map]
  by_cases h0 : l.length = 0
  · have e : l = [] := List.eq_nil_of_length_eq_zero h0
    subst e
    simp (maxSteps := 1000000) (disch := first | omega | decide +kernel | (simp only [symN] <;> omega) | assumption) only [Tryz.f99, Jaa, Jac, reduceIte, Nat.reduceEqDiff, Nat.reduceAdd, Nat.reduceMul, Jiz, Je7, Jhv, List.length_nil, Jrk]
    refine ⟨by (repeat (first | exact Jad.refl _ | apply Jad.bump' | apply Jad.setHint | refine Jad.setFam ?_ (by first | omega | (simp <;> omega)) | refine Jad.set ?_ (by first | omega | (simp <;> omega)))), .inr ⟨_, _, _, rfl, by simp; exact ⟨rfl, rfl⟩, by omega, by (simp <;> omega), by omega⟩⟩
  · have hA0 : A < σ0.next := by
      obtain ⟨own, v, F, h1, _⟩ := Jei hc
      exact hw.lt _ _ h1
    have hA : A < σ.next := Nat.lt_of_lt_of_le hA0 hk0.next
    have hle : o ≤ c.length := by
      have := hr 0 (by rw [List.length_map]; omega)
      unfold sub? at this
      split at this
      · omega
      · cases this
    have hsub : sub? c o l.length = some (l.map intV) := by
      have := Jk5 _ o hle hr
      rwa [Jn4, List.length_map, Nat.mul_one] at this
    have hgA := hk0.get A hA0
    have hrd : ∀ (o' : AObj) a k b, rdG (((σ.bump a).set (σ.next + k) o').bump b) (σ.get A) o l.length = some (l.map intV) := fun o' a k b => by rw [hgA]; exact Jkf hw (hk0.trans (by (repeat (first | exact Jad.refl _ | apply Jad.bump' | apply Jad.setHint | refine Jad.setFam ?_ (by first | omega | (simp <;> omega)) | refine Jad.set ?_ (by first | omega | (simp <;> omega)))))) hc hsub
    have hrd0 : ∀ (o' : AObj) a k, rdG ((σ.bump a).set (σ.next + k) o') (σ.get A) o l.length = some (l.map intV) := fun o' a k => by rw [hgA]; exact Jkf hw (hk0.trans (by (repeat (first | exact Jad.refl _ | apply Jad.bump' | apply Jad.setHint | refine Jad.setFam ?_ (by first | omega | (simp <;> omega)) | refine Jad.set ?_ (by first | omega | (simp <;> omega)))))) hc hsub
    have hne : (l.length = 0) = False := eq_false h0
    have q1 : ∀ k, (σ.next + k = A) = False := fun k => eq_false (by omega)
    simp (maxSteps := 1000000) (disch := first | omega | decide +kernel | (simp only [symN] <;> omega) | assumption) only [Tryz.f99, Jaa, Jac, reduceIte, Nat.reduceEqDiff, Nat.reduceAdd, Nat.reduceMul, Jiz, Je7, Jhv, Jrl, hne, hrd, hrd0, q1, Jrz, Nat.add_assoc, Nat.add_left_cancel_iff, List.length_map]
    refine ⟨by (repeat (first | exact Jad.refl _ | apply Jad.bump' | apply Jad.setHint | refine Jad.setFam ?_ (by first | omega | (simp <;> omega)) | refine Jad.set ?_ (by first | omega | (simp <;> omega)))), .inr ⟨σ.next + 5, 0, σ.next + 3, by rw [List.length_map], by rw [Jn4]; simp, by omega, by simp, by omega⟩⟩
theorem SlK.shape {σ : St} {s : Value} {n : Nat} {rows : List (List Value)} (h : SlK σ s n rows) : ∃ b k, s = .slice b rows.length k := h.sl.shape
theorem RowN.shape {σ τ : St} {n : Nat} {v : Value} {rows : List (List Value)} (h : RowN σ τ n v rows) : ∃ b k, v = .slice b rows.length k := by
  rcases h with ⟨rfl, rfl⟩ | ⟨A, ver, F, rfl, _⟩
  · exact ⟨_, _, rfl⟩
  · exact ⟨_, _, rfl⟩
structure Jfy (O : Nat) (σ τ : St) : Prop where
  next : σ.next ≤ τ.next
  get : ∀ B, B < σ.next → B ≠ O → τ.get B = σ.get B
theorem Jfy.refl (O : Nat) (σ : St) : Jfy O σ σ := ⟨Nat.le_refl _, fun _ _ _ => rfl⟩
theorem Jfy.trans {O : Nat} {a b c : St} (h : Jfy O a b) (k : Jfy O b c) : Jfy O a c := ⟨Nat.le_trans h.next k.next, fun B h1 h2 => (k.get B (Nat.lt_of_lt_of_le h1 h.next) h2).trans (h.get B h1 h2)⟩
theorem Jad.keepO {σ τ : St} (O : Nat) (h : Jad σ τ) : Jfy O σ τ := ⟨h.next, fun B hB _ => h.get B hB⟩
theorem RowN.keepO {σ τ τ2 : St} {n O : Nat} {v : Value} {rows : List (List Value)} (h : RowN σ τ n v rows) (hO : O < σ.next) (k : Jfy O τ τ2) : RowN σ τ2 n v rows := by
  rcases h with h | ⟨A, ver, F, h1, h2, h3, h4, h5⟩
  · exact .inl h
  · exact .inr ⟨A, ver, F, h1, (k.get A h4 (by omega)).trans h2, h3, Nat.lt_of_lt_of_le h4 k.next, h5⟩
theorem RowN.from {σ0 σ τ : St} {n : Nat} {v : Value} {rows : List (List Value)} (h : RowN σ τ n v rows) (hle : σ0.next ≤ σ.next) : RowN σ0 τ n v rows := by
  rcases h with h | ⟨A, ver, F, h1, h2, h3, h4, h5⟩
  · exact .inl h
  · exact .inr ⟨A, ver, F, h1, h2, by omega, h4, by omega⟩
structure FAt (σ τ : St) (R P O : Nat) (argC zeroC outC : List Value) : Prop where
  rR : τ.get R = some (.cells true 0 R argC)
  rP : τ.get P = some (.cells true 0 P zeroC)
  rO : ∃ v, τ.get O = some (.cells true v O outC)
  rn : R < τ.next
  pn : P < τ.next
  on : O < τ.next
  sr : σ.next ≤ R
  sp : σ.next ≤ P
  so : σ.next ≤ O
  RP : R ≠ P
  RO : R ≠ O
  PO : P ≠ O
  keeps : Jad σ τ
theorem FAt.keep {σ τ τ2 : St} {R P O : Nat} {a z o : List Value} (h : FAt σ τ R P O a z o) (k : Jad τ τ2) : FAt σ τ2 R P O a z o :=
  ⟨(k.get R h.rn).trans h.rR, (k.get P h.pn).trans h.rP, let ⟨v, e⟩ := h.rO; ⟨v, (k.get O h.on).trans e⟩, Nat.lt_of_lt_of_le h.rn k.next, Nat.lt_of_lt_of_le h.pn k.next, Nat.lt_of_lt_of_le h.on k.next, h.sr, h.sp, h.so, h.RP, h.RO, h.PO, h.keeps.trans k⟩
theorem Jre {i : TypeInfo} {sz A id len ver F : Nat} {c nc : List Value} {σ : St} (hs : i.size = sz) (hb : i.bytes ≤ 136) (hl : c.length = len * sz) (h1 : len ≤ 1000000000) (h3 : nc.all (·.oneCell') = true) :
    appG i A len (sz + 1) id 1 nc σ (some (.cells true ver F c)) = some (.val (.slice (some ⟨id, 0, none⟩) (len + 1) (sz + 1)) (((((σ.set A (.cells false ver F c)).set id (.cells true ver F (c ++ nc))).setFam F id).setHint A (len * sz)).setHint id (len * sz + nc.length))) := by
  subst hs
  refine Jkq (by decide) rfl hl (by omega) ?_ h3
  have := Nat.mul_le_mul (show 2 * (len + 1) + 1000 ≤ 2000002000 by omega) hb
  omega
theorem Jq0 {i : TypeInfo} {sz id : Nat} {nc : List Value} {σ : St} (hs : i.size = sz) (hb : i.bytes ≤ 136) : appE i (.slice none 0 0) id (some (1, nc)) σ = some (.val (.slice (some ⟨id, 0, none⟩) 1 (sz + 1)) (σ.set id (.cells true 0 id nc))) := by
  subst hs
  exact Jnc (by decide) (by decide) (by omega)
theorem Jjk {A id len ver F : Nat} {c nc : List Value} {σ : St} (hl : c.length = len * 2) (h1 : len ≤ 1000000000) (h3 : nc.all (·.oneCell') = true) : appG Jg2 A len 3 id 1 nc σ (some (.cells true ver F c)) = some (.val (.slice (some ⟨id, 0, none⟩) (len + 1) 3) (((((σ.set A (.cells false ver F c)).set id (.cells true ver F (c ++ nc))).setFam F id).setHint A (len * 2)).setHint id (len * 2 + nc.length))) := Jre (sz := 2) Jgf (by rw [Jft]; decide) hl h1 h3
theorem Jjg {id : Nat} {nc : List Value} {σ : St} : appE Jg2 (.slice none 0 0) id (some (1, nc)) σ = some (.val (.slice (some ⟨id, 0, none⟩) 1 3) (σ.set id (.cells true 0 id nc))) := Jq0 (sz := 2) Jgf (by rw [Jft]; decide)
theorem Jce {A id len ver F : Nat} {c nc : List Value} {σ : St} (hl : c.length = len * 9) (h1 : len ≤ 1000000000) (h3 : nc.all (·.oneCell') = true) : appG Jg0 A len 10 id 1 nc σ (some (.cells true ver F c)) = some (.val (.slice (some ⟨id, 0, none⟩) (len + 1) 10) (((((σ.set A (.cells false ver F c)).set id (.cells true ver F (c ++ nc))).setFam F id).setHint A (len * 9)).setHint id (len * 9 + nc.length))) := Jre (sz := 9) Jgd (by rw [Jfr]; decide) hl h1 h3
theorem Jcd {id : Nat} {nc : List Value} {σ : St} : appE Jg0 (.slice none 0 0) id (some (1, nc)) σ = some (.val (.slice (some ⟨id, 0, none⟩) 1 10) (σ.set id (.cells true 0 id nc))) := Jq0 (sz := 9) Jgd (by rw [Jfr]; decide)
theorem Jfe {A id len ver F : Nat} {c nc : List Value} {σ : St} (hl : c.length = len * 4) (h1 : len ≤ 1000000000) (h3 : nc.all (·.oneCell') = true) : appG Jgz A len 5 id 1 nc σ (some (.cells true ver F c)) = some (.val (.slice (some ⟨id, 0, none⟩) (len + 1) 5) (((((σ.set A (.cells false ver F c)).set id (.cells true ver F (c ++ nc))).setFam F id).setHint A (len * 4)).setHint id (len * 4 + nc.length))) := Jre (sz := 4) Jgc (by rw [Jfq]; decide) hl h1 h3
theorem Jfa {id : Nat} {nc : List Value} {σ : St} : appE Jgz (.slice none 0 0) id (some (1, nc)) σ = some (.val (.slice (some ⟨id, 0, none⟩) 1 5) (σ.set id (.cells true 0 id nc))) := Jq0 (sz := 4) Jgc (by rw [Jfq]; decide)
theorem Jjj {A id len ver F : Nat} {c nc : List Value} {σ : St} (hl : c.length = len * 2) (h1 : len ≤ 1000000000) (h3 : nc.all (·.oneCell') = true) : appG Jg1 A len 3 id 1 nc σ (some (.cells true ver F c)) = some (.val (.slice (some ⟨id, 0, none⟩) (len + 1) 3) (((((σ.set A (.cells false ver F c)).set id (.cells true ver F (c ++ nc))).setFam F id).setHint A (len * 2)).setHint id (len * 2 + nc.length))) := Jre (sz := 2) Jge (by rw [Jfs]; decide) hl h1 h3
theorem Jjf {id : Nat} {nc : List Value} {σ : St} : appE Jg1 (.slice none 0 0) id (some (1, nc)) σ = some (.val (.slice (some ⟨id, 0, none⟩) 1 3) (σ.set id (.cells true 0 id nc))) := Jq0 (sz := 2) Jge (by rw [Jfs]; decide)
theorem Jhx {A id len ver F : Nat} {c nc : List Value} {σ : St} (hl : c.length = len * 9) (h1 : len ≤ 1000000000) (h3 : nc.all (·.oneCell') = true) : appG Jfd A len 10 id 1 nc σ (some (.cells true ver F c)) = some (.val (.slice (some ⟨id, 0, none⟩) (len + 1) 10) (((((σ.set A (.cells false ver F c)).set id (.cells true ver F (c ++ nc))).setFam F id).setHint A (len * 9)).setHint id (len * 9 + nc.length))) := Jre (sz := 9) Jfv (by rw [Jew]; decide) hl h1 h3
theorem Jht {id : Nat} {nc : List Value} {σ : St} : appE Jfd (.slice none 0 0) id (some (1, nc)) σ = some (.val (.slice (some ⟨id, 0, none⟩) 1 10) (σ.set id (.cells true 0 id nc))) := Jq0 (sz := 9) Jfv (by rw [Jew]; decide)
theorem Jhw {A id len ver F : Nat} {c nc : List Value} {σ : St} (hl : c.length = len * 4) (h1 : len ≤ 1000000000) (h3 : nc.all (·.oneCell') = true) : appG Jfc A len 5 id 1 nc σ (some (.cells true ver F c)) = some (.val (.slice (some ⟨id, 0, none⟩) (len + 1) 5) (((((σ.set A (.cells false ver F c)).set id (.cells true ver F (c ++ nc))).setFam F id).setHint A (len * 4)).setHint id (len * 4 + nc.length))) := Jre (sz := 4) Jfu (by rw [Jev]; decide) hl h1 h3
theorem Jhs {id : Nat} {nc : List Value} {σ : St} : appE Jfc (.slice none 0 0) id (some (1, nc)) σ = some (.val (.slice (some ⟨id, 0, none⟩) 1 5) (σ.set id (.cells true 0 id nc))) := Jq0 (sz := 4) Jfu (by rw [Jev]; decide)
structure RecN (σ τ : St) (r : RecM) (s : RecS) : Prop where
  to : RowN σ τ 2 s.to (r.to.map Jbz)
  fin : RowN σ τ 9 s.fin (r.fin.map Jan.cells)
  fail : RowN σ τ 4 s.fail (r.fail.map Jaw.cells)
  which : RowN σ τ 1 s.which (r.which.map Ja8)
theorem RecN.at {σ τ : St} {r : RecM} {s : RecS} (h : RecN σ τ r s) : Jbo τ r s :=
  ⟨h.to.sl fun x hx => by obtain ⟨p, _, rfl⟩ := List.mem_map.1 hx; rfl, h.fin.sl fun x hx => by obtain ⟨p, _, rfl⟩ := List.mem_map.1 hx; rfl, h.fail.sl fun x hx => by obtain ⟨p, _, rfl⟩ := List.mem_map.1 hx; rfl, h.which.sl fun x hx => by obtain ⟨p, _, rfl⟩ := List.mem_map.1 hx; rfl⟩
theorem RecN.keep {σ τ τ2 : St} {r : RecM} {s : RecS} (h : RecN σ τ r s) (k : Jad τ τ2) : RecN σ τ2 r s := ⟨h.to.keep k, h.fin.keep k, h.fail.keep k, h.which.keep k⟩
theorem RecN.keepO {σ τ τ2 : St} {O : Nat} {r : RecM} {s : RecS} (h : RecN σ τ r s) (hO : O < σ.next) (k : Jfy O τ τ2) : RecN σ τ2 r s := ⟨h.to.keepO hO k, h.fin.keepO hO k, h.fail.keepO hO k, h.which.keepO hO k⟩
theorem RowN.ex (σ : St) (n : Nat) (rows : List (List Value)) : ∃ v τ, RowN σ τ n v rows ∧ Jad σ τ :=
  ⟨.slice (some ⟨σ.next, 0, none⟩) rows.length (n + 1), (σ.bump 1).set σ.next (.cells true 0 σ.next rows.flatten), .inr ⟨σ.next, 0, σ.next, rfl, by simp, Nat.le_refl _, by simp, Nat.le_refl _⟩, Jad.bump.set (Nat.le_refl _)⟩
theorem RecN.ex (σ : St) (r : RecM) : ∃ s τ, RecN σ τ r s ∧ Jad σ τ := by
  obtain ⟨v1, τ1, h1, k1⟩ := RowN.ex σ 2 (r.to.map Jbz)
  obtain ⟨v2, τ2, h2, k2⟩ := RowN.ex τ1 9 (r.fin.map Jan.cells)
  obtain ⟨v3, τ3, h3, k3⟩ := RowN.ex τ2 4 (r.fail.map Jaw.cells)
  obtain ⟨v4, τ4, h4, k4⟩ := RowN.ex τ3 1 (r.which.map Ja8)
  exact ⟨⟨v1, v2, v3, v4⟩, τ4, ⟨(h1.keep (k2.trans (k3.trans k4))), (h2.from k1.next).keep (k3.trans k4), (h3.from (Nat.le_trans k1.next k2.next)).keep k4, h4.from (Nat.le_trans k1.next (Nat.le_trans k2.next k3.next))⟩, k1.trans (k2.trans (k3.trans k4))⟩
theorem TF.up {P : Program} {gl : List Nat} {f : FuncId} {args : Array Value} {σ : St} {Q Q' : Value → St → Prop} (h : σ.Wf → TF P gl f args σ Q) (hq : ∀ v σ', Q v σ' → σ'.Wf → Q' v σ') (hx : ∃ v σ', Q' v σ') : TF P gl f args σ Q' := by
  by_cases hr : ∃ g w args', Glob gl g ∧ Rel g σ w ∧ ARel g args args'
  · obtain ⟨g, w, args', h1, h2, h3⟩ := hr
    obtain ⟨v, σ', hs, hQ⟩ := h h2.wf
    obtain ⟨e, w', fr, ⟨v', g', _, _, hr', _⟩, _⟩ := hs g w args' h1 h2 h3 []
    exact ⟨v, σ', hs, hq _ _ hQ hr'.wf⟩
  · obtain ⟨v, σ', hQ⟩ := hx
    exact ⟨v, σ', fun g w args' h1 h2 h3 => (hr ⟨g, w, args', h1, h2, h3⟩).elim, hQ⟩
theorem Jdp {α : Type} {f : α → List Value} {n : Nat} (hf : ∀ x, (f x).length = n) : ∀ l : List α, (l.map f).flatten.length = l.length * n
  | [] => by simp
  | a :: l => by rw [List.map_cons, List.flatten_cons, List.length_append, hf, Jdp hf l, List.length_cons, Nat.add_mul]; omega
end Go.Proofs
