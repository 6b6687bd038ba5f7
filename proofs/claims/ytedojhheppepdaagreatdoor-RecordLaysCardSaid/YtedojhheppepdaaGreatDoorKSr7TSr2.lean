/-
  The evaluator and the contracts, merged out of 8 texts (Sr7 to Sr2). No condition.
-/
import Derived.Test.YtedojhheppepdaaGreatDoorKTyRTSr6
namespace Go.Proofs
open Go Go.Ev
set_option maxRecDepth 100000
set_option linter.unusedSimpArgs false
set_option linter.unusedVariables false
set_option maxHeartbeats 4000000
def intV (z : Int) : Value := .int .i64 z
def SlO (σ0 σ : St) (v : Value) (l : List Int) : Prop := (l = [] ∧ ∃ b k, v = .slice b 0 k) ∨ ∃ B ver F, v = .slice (some ⟨B, 0, none⟩) l.length 2 ∧ σ.get B = some (.cells true ver F (l.map intV)) ∧ σ0.next ≤ B ∧ B < σ.next
theorem Klk {A id n ver F : Nat} {c nc : List Value} {σ : St} (h0 : n ≠ 0) (h1 : c.length + n ≤ 100000000) (h3 : nc.all (·.oneCell') = true) :
    appG Je6 A c.length 2 id n nc σ (some (.cells true ver F c)) = some (.val (.slice (some ⟨id, 0, none⟩) (c.length + n) 2) (((((σ.set A (.cells false ver F c)).set id (.cells true ver F (c ++ nc))).setFam F id).setHint A c.length).setHint id (c.length + nc.length))) := by
  have e1 : Je6.size = 1 := rfl
  have e2 : Je6.bytes = 8 := rfl
  rw [Jkq h0 (by rw [e1]) (by rw [e1]; omega) (by omega) (by rw [e2]; omega) h3, e1, Nat.mul_one]
theorem Kdt {A id n ver F : Nat} {nc : List Value} {σ : St} (h0 : n ≠ 0) (h1 : n ≤ 100000000) (h3 : nc.all (·.oneCell') = true) :
    appG Je6 A 0 2 id n nc σ (some (.cells true ver F [])) = some (.val (.slice (some ⟨id, 0, none⟩) n 2) (((((σ.set A (.cells false ver F [])).set id (.cells true ver F nc)).setFam F id).setHint A 0).setHint id nc.length)) := by
  have := Klk (A := A) (id := id) (n := n) (ver := ver) (F := F) (c := []) (nc := nc) (σ := σ) h0 (by simpa using h1) h3
  simpa using this
theorem Jmk {σ : St} : sBin Tryz.prog .eql 28 (.tmp 3) (.const (.slice none 0 0)) (.slice none 0 0) (.slice none 0 0) σ = some (.val (.bool true) σ) := by kernel_rfl
theorem Jiz {P : Program} {t : TypeId} {x y : Operand} {σ : St} {a : Addr} {v : Value} {n k : Nat} : sBin P .eql t x y (.slice (some a) n k) v σ = none := by simp [sBin, Ja5, flat0]
theorem Je7 {a : Addr} {n k : Nat} : opEq Tryz.prog 28 (.slice (some a) n k) (.slice none 0 0) = some false := by
  have h : Tryz.prog.underlying 28 = some (.slice 3) := by kernel_rfl
  unfold opEq; rw [h]
theorem Jhv {id : Nat} {σ : St} : Ja1 Tryz.prog 28 0 id ⟨[]⟩ σ = some (.val (.slice (some ⟨id, 0, none⟩) 0 2) (σ.set id (.cells true 0 id []))) := by
  have hu : Tryz.prog.underlying 28 = some (.slice 3) := by kernel_rfl
  have hs : sz? Tryz.prog 3 = some 1 := by kernel_rfl
  simp [Ja1, hu, hs, zrow, Instr.fill, sliceTo, Jfx]
theorem Jrk {i : TypeInfo} {z : Array Value} {σ : St} {A o k : Nat} : Jh6 Tryz.prog 28 i z (.slice (some ⟨A, o, none⟩) 0 k) σ = some (0, []) := by
  have h : Tryz.prog.underlying 28 = some (.slice 3) := by kernel_rfl
  simp [Jh6, h, len?, src?]
theorem Kp9 {c a b : List Value} {o n m : Nat} (h1 : sub? c o n = some a) (h2 : sub? c (o + n) m = some b) : sub? c o (n + m) = some (a ++ b) := by
  unfold sub? at h1 h2 ⊢
  split at h1
  · split at h2
    · rename_i q1 q2
      rw [if_pos (by omega)]
      cases h1; cases h2
      congr 1
      rw [List.take_add, List.drop_drop]
    · cases h2
  · cases h1
theorem Jk5 {c : List Value} {n : Nat} : ∀ (rows : List (List Value)) (o : Nat), o ≤ c.length → (∀ i (h : i < rows.length), sub? c (o + i * n) n = some rows[i]) → sub? c o (rows.length * n) = some rows.flatten
  | [], o, ho, _ => by simp [sub?, ho]
  | r :: rows, o, ho, h => by
    have h0 := h 0 (by simp)
    simp only [Nat.zero_mul, Nat.add_zero, List.getElem_cons_zero] at h0
    have hle : o + n ≤ c.length := by
      unfold sub? at h0
      split at h0
      · assumption
      · cases h0
    have := Jk5 rows (o + n) hle fun i hi => by
      have := h (i + 1) (by simpa using hi)
      rw [show o + n + i * n = o + (i + 1) * n by rw [Nat.add_mul, Nat.one_mul]; omega]
      simpa using this
    rw [List.length_cons, Nat.add_mul, Nat.one_mul, Nat.add_comm, List.flatten_cons]
    exact Kp9 h0 this
theorem Jn4 (l : List Int) : (l.map Ja8).flatten = l.map intV := by
  induction l with
  | nil => rfl
  | cons a l ih => simp only [List.map_cons, List.flatten_cons, ih]; rfl
theorem Jkf {σ τ : St} (hw : σ.Wf) (hk : Jad σ τ) {A o n : Nat} {c r : List Value} (hc : σ.cells? A = some c) (hs : sub? c o n = some r) : rdG τ (σ.get A) o n = some r := by
  obtain ⟨own, v, F, h1, h2⟩ := Jei hc
  rw [h1]
  unfold rdG
  simp only
  rw [(hk.rd hw h1).trans h2]
  exact hs
theorem Jrz (l : List Int) : (l.map intV).all (·.oneCell') = true := by
  rw [List.all_eq_true]; intro v hv; obtain ⟨b, _, rfl⟩ := List.mem_map.1 hv; rfl
theorem Jrl {A id ver F : Nat} {l : List Int} {σ : St} (h0 : l.length ≠ 0) (h1 : l.length ≤ 100000000) :
    appG Je6 A 0 2 id l.length (l.map intV) σ (some (.cells true ver F [])) = some (.val (.slice (some ⟨id, 0, none⟩) l.length 2) (((((σ.set A (.cells false ver F [])).set id (.cells true ver F (l.map intV))).setFam F id).setHint A 0).setHint id (l.map intV).length)) := Kdt h0 h1 (Jrz l)
theorem Jo8 {gl : List Nat} (l : List Int) (s : Value) (σ : St) (hw : σ.Wf) (hs : SlR σ s 1 (l.map Ja8)) (hl : l.length < 100000000) :
    TF Tryz.prog gl 99 #[s] σ fun v σ' => Jad σ σ' ∧ SlO σ σ' v l := by
  refine TF.walk (Jaf gl) Jae Tryz.func99 (by kernel_rfl) rfl fun c hc => ?_
  cases hc
  rcases hs with ⟨hnil, rfl⟩ | ⟨A, o, k, c, rfl, hc, hr⟩
  · have e : l = [] := by simpa using hnil
    subst e
    simp (maxSteps := 1000000) (disch := first | omega | decide +kernel | (simp only [symN] <;> omega) | assumption) only [Tryz.f99, Jaa, Jac, reduceIte, Nat.reduceEqDiff, Nat.reduceAdd, Nat.reduceMul, Jiz, Jmk]
    exact ⟨by (repeat (first | exact Jad.refl _ | apply Jad.bump' | apply Jad.setHint | refine Jad.setFam ?_ (by first | omega | (simp <;> omega)) | refine Jad.set ?_ (by first | omega | (simp <;> omega)))), .inl ⟨rfl, _, _, rfl⟩⟩
  rw [List.length_map]
  by_cases h0 : l.length = 0
  · have e : l = [] := List.eq_nil_of_length_eq_zero h0
    subst e
    simp (maxSteps := 1000000) (disch := first | omega | decide +kernel | (simp only [symN] <;> omega) | assumption) only [Tryz.f99, Jaa, Jac, reduceIte, Nat.reduceEqDiff, Nat.reduceAdd, Nat.reduceMul, Jiz, Je7, Jhv, List.length_nil, Jrk]
    exact ⟨by (repeat (first | exact Jad.refl _ | apply Jad.bump' | apply Jad.setHint | refine Jad.setFam ?_ (by first | omega | (simp <;> omega)) | refine Jad.set ?_ (by first | omega | (simp <;> omega)))), .inl ⟨rfl, _, _, rfl⟩⟩
  · have hA : A < σ.next := by
      obtain ⟨own, v, F, h1, _⟩ := Jei hc
      exact hw.lt _ _ h1
    have hle : o ≤ c.length := by
      have := hr 0 (by rw [List.length_map]; omega)
      unfold sub? at this
      split at this
      · omega
      · cases this
    have hsub : sub? c o l.length = some (l.map intV) := by
      have := Jk5 _ o hle hr
      rwa [Jn4, List.length_map, Nat.mul_one] at this
    have hrd : ∀ (o' : AObj) a k b, rdG (((σ.bump a).set (σ.next + k) o').bump b) (σ.get A) o l.length = some (l.map intV) := fun o' a k b => Jkf hw (by (repeat (first | exact Jad.refl _ | apply Jad.bump' | apply Jad.setHint | refine Jad.setFam ?_ (by first | omega | (simp <;> omega)) | refine Jad.set ?_ (by first | omega | (simp <;> omega))))) hc hsub
    have hrd0 : ∀ (o' : AObj) a k, rdG ((σ.bump a).set (σ.next + k) o') (σ.get A) o l.length = some (l.map intV) := fun o' a k => Jkf hw (by (repeat (first | exact Jad.refl _ | apply Jad.bump' | apply Jad.setHint | refine Jad.setFam ?_ (by first | omega | (simp <;> omega)) | refine Jad.set ?_ (by first | omega | (simp <;> omega))))) hc hsub
    have hne : (l.length = 0) = False := eq_false h0
    have q1 : ∀ k, (σ.next + k = A) = False := fun k => eq_false (by omega)
    simp (maxSteps := 1000000) (disch := first | omega | decide +kernel | (simp only [symN] <;> omega) | assumption) only [Tryz.f99, Jaa, Jac, reduceIte, Nat.reduceEqDiff, Nat.reduceAdd, Nat.reduceMul, Jiz, Je7, Jhv, Jrl, hne, hrd, hrd0, q1, Jrz, Nat.add_assoc, Nat.add_left_cancel_iff, List.length_map]
    refine ⟨by (repeat (first | exact Jad.refl _ | apply Jad.bump' | apply Jad.setHint | refine Jad.setFam ?_ (by first | omega | (simp <;> omega)) | refine Jad.set ?_ (by first | omega | (simp <;> omega)))), .inr ⟨σ.next + 5, 0, σ.next + 3, rfl, by simp, by omega, by simp⟩⟩
set_option maxHeartbeats 400000
def Jia : List Int → Bool
  | a :: b :: r => !(decide (b = a)) && Jia (b :: r)
  | _ => true
theorem Jnu : ∀ {l : List Int}, (∀ i (h : i + 1 < l.length), ¬ l[i + 1] = l[i]) → Jia l = true
  | [], _ => rfl
  | [_], _ => rfl
  | a :: b :: r, h => by
    have h0 := h 0 (by simp)
    have := Jnu (l := b :: r) fun i hi => by
      have := h (i + 1) (by simpa using hi)
      simpa only [List.getElem_cons_succ] using this
    simp only [Jia, this, Bool.and_true, Bool.not_eq_true', decide_eq_false_iff_not]
    simpa using h0
theorem Jt1 : ∀ {l : List Int} {i : Nat} (h : i + 1 < l.length), l[i + 1] = l[i] → Jia l = false
  | a :: b :: r, 0, _, k => by simp only [Jia]; simp at k; simp [k]
  | a :: b :: r, i + 1, h, k => by
    have := Jt1 (l := b :: r) (i := i) (by simpa using h) (by simpa only [List.getElem_cons_succ] using k)
    simp only [Jia, this, Bool.and_false]
theorem Kqv {P : Program} {ρ : Operand → Value} {id : Nat} {σ : St} {d : Option Nat} {ty t : TypeId} {pos : String} {af : Array Edge} {gd : Option (Nat × Bool)} {x : Operand} :
    Jal P ρ id { dst := d, op := .call { callee := .builtin .clear, args := #[x], argTypes := #[t] }, type := ty, pos := pos, after := af, guard := gd } σ = Jj0 P t (ρ x) σ := nr rfl
theorem Jw1 {B o n k v F : Nat} {c : List Value} {σ : St} (hB : σ.get B = some (.cells true v F c)) (hn : n ≠ 0) (ho : o + n ≤ c.length) :
    Jj0 Tryz.prog 28 (.slice (some ⟨B, o, none⟩) n k) σ = some (.val (.tuple #[]) (σ.set B (.cells true (v + 1) F (lay c o (zrow #[.int .i64 0] n).toList)))) := by
  obtain ⟨n, rfl⟩ : ∃ m, n = m + 1 := ⟨n - 1, by omega⟩
  have hu : Tryz.prog.underlying 28 = some (.slice 3) := by kernel_rfl
  have hs : sz? Tryz.prog 3 = some 1 := by kernel_rfl
  have hl : (zrow #[.int .i64 0] (n + 1)).toList.length = n + 1 := by simp [zrow]
  have h1 : (zrow #[.int .i64 0] (n + 1)).toList.all (·.oneCell') = true := by
    rw [List.all_eq_true]; intro v hv
    simp [zrow] at hv
    obtain ⟨a, _, rfl⟩ := hv
    simp [Nat.mod_one, Value.oneCell']
  simp only [Jj0, hu, hs, Jr8]
  simp only [List.size_toArray, List.length_cons, List.length_nil, Nat.zero_add, Nat.mul_one, Jnz, hB, hl]
  rw [if_neg (by decide), if_pos ⟨ho, h1⟩]
theorem Kq2 {l : List Int} {k : Nat} {z : Int} (h : k < l.length) : lay (l.map intV) k [.int .i64 z] = (l.set k z).map intV := by
  unfold lay
  rw [← List.map_take, ← List.map_drop, List.set_eq_take_append_cons_drop, if_pos h, List.map_append, List.map_cons]
  simp [intV]
theorem Jo7 {gl : List Nat} (σ0 : St) (l : List Int) (v : Value) (σ : St) (hk : Jad σ0 σ) (hO : SlO σ0 σ v l) (hl : l.length < 100000000) :
    TF Tryz.prog gl 188 #[v] σ fun u σ' => Jad σ0 σ' ∧ ∃ b m k, u = .slice b m k ∧ decide (m = l.length) = Jia l := by
  refine TF.walk (Jaf gl) Jae Tryz.func188 (by kernel_rfl) rfl fun c hc => ?_
  cases hc
  by_cases h2 : l.length < 2
  · obtain ⟨b, k, rfl⟩ : ∃ b k, v = .slice b l.length k := by
      rcases hO with ⟨rfl, b, k, rfl⟩ | ⟨B, ver, F, rfl, _⟩
      · exact ⟨b, k, rfl⟩
      · exact ⟨_, _, rfl⟩
    have hlt : ((l.length : Nat) : Int) < 2 := by omega
    simp (maxSteps := 1000000) (disch := first | omega | decide +kernel | (simp only [symN] <;> omega) | assumption) only [Tryz.f188, Jaa, Jac, reduceIte, Nat.reduceEqDiff, Nat.reduceAdd, Nat.reduceMul, hlt]
    refine ⟨hk.bump', _, _, _, rfl, ?_⟩
    rw [Jnu fun i h => by omega]; simp
  rcases hO with ⟨rfl, b, k, rfl⟩ | ⟨B, ver, F, rfl, hB, hB0, hB1⟩
  · simp at h2
  have hge : (((l.length : Nat) : Int) < 2) = False := eq_false (by omega)
  simp (maxSteps := 1000000) (disch := first | omega | decide +kernel | (simp only [symN] <;> omega) | assumption) only [Tryz.f188, Jaa, Jac, reduceIte, Nat.reduceEqDiff, Nat.reduceAdd, Nat.reduceMul, hge, decide_false]
  refine Jay (Jaf _) Jae (fun kk env τ => ∃ (i m : Nat), i + kk = l.length ∧ 1 ≤ i ∧ τ = σ.bump m ∧ (∀ j (h : j + 1 < l.length), j + 1 < i → ¬ l[j + 1] = l[j]) ∧ eget env 0 = .slice (some ⟨B, 0, none⟩) l.length 2 ∧ eget env 3 = .int .i64 (i : Nat)) (n := l.length - 1) (by kernel_rfl) ?_ ?_
  · exact ⟨1, _, by omega, by omega, rfl, fun j h1 h2 => by omega, by simp [Jab], by simp [Jab]⟩
  rintro kk env τ ⟨i, m, hi, h1, rfl, hz, e0, e3⟩
  cases kk with
  | zero =>
    have hlt : (((i : Nat) : Int) < ((l.length : Nat) : Int)) = False := eq_false (by omega)
    simp (maxSteps := 1000000) (disch := first | omega | decide +kernel | (simp only [symN] <;> omega) | assumption) only [Jaa, Jac, reduceIte, Nat.reduceEqDiff, Nat.reduceAdd, Nat.reduceMul, e0, e3, hlt, decide_false]
    refine ⟨hk.bump', _, _, _, rfl, ?_⟩
    rw [Jnu fun j h => hz j h (by omega)]; simp
  | succ kk =>
    obtain ⟨i, rfl⟩ : ∃ j, i = j + 1 := ⟨i - 1, by omega⟩
    have hil : i + 1 < l.length := by omega
    have hlt : (((i + 1 : Nat) : Int) < ((l.length : Nat) : Int)) = True := eq_true (by omega)
    have hlt2 : (((i : Nat) : Int) < ((l.length : Nat) : Int)) = True := eq_true (by omega)
    have hsub : ((i + 1 : Nat) : Int) - 1 = (i : Nat) := by omega
    have s1 : sub? (l.map intV) (i + 1) 1 = some [.int .i64 l[i + 1]] := by
      unfold sub?; rw [if_pos (by simp; omega)]
      congr 1
      apply List.ext_getElem
      · simp; omega
      · intro n h h'; simp at h'; subst h'; simp [intV]
    have s2 : sub? (l.map intV) i 1 = some [.int .i64 l[i]] := by
      unfold sub?; rw [if_pos (by simp; omega)]
      congr 1
      apply List.ext_getElem
      · simp; omega
      · intro n h h'; simp at h'; subst h'; simp [intV]
    by_cases heq : l[i + 1] = l[i]
    case neg =>
      have heq' := eq_false heq
      simp (maxSteps := 1000000) (disch := first | omega | decide +kernel | (simp only [symN] <;> omega) | assumption) only [Jaa, Jac, reduceIte, Nat.reduceEqDiff, Nat.reduceAdd, Nat.reduceMul, e0, e3, hlt, hlt2, hsub, hB, s1, s2, heq']
      refine ⟨kk, by omega, i + 2, _, by omega, by omega, rfl, fun j h1 h2 => ?_, trivial, by simp; omega⟩
      by_cases e : j = i
      · subst e; exact heq
      · exact hz j h1 (by omega)
    have heq' := eq_true heq
    simp (maxSteps := 1000000) (disch := first | omega | decide +kernel | (simp only [symN] <;> omega) | assumption) only [Jaa, Jac, reduceIte, Nat.reduceEqDiff, Nat.reduceAdd, Nat.reduceMul, e0, e3, hlt, hlt2, hsub, hB, s1, s2, heq']
    have hnot : Jia l = false := Jt1 hil heq
    refine Jay (Jaf _) Jae (fun kk env τ => ∃ (l' : List Int) (k' k2 ver' : Nat), k2 + kk = l.length - (i + 1) ∧ 1 ≤ k2 ∧ l'.length = l.length ∧ i + 1 ≤ k' ∧ k' < i + 1 + k2 ∧ τ.get B = some (.cells true ver' F (l'.map intV)) ∧ Jad σ0 τ ∧
      eget env 0 = .slice (some ⟨B, 0, none⟩) l.length 2 ∧ eget env 3 = .int .i64 (k' : Nat) ∧ eget env 4 = .slice (some ⟨B, i + 1, none⟩) (l.length - (i + 1)) 2 ∧ eget env 5 = .int .i64 (k2 : Nat)) (n := l.length - (i + 1) - 1) (by kernel_rfl) ?_ ?_
    · refine ⟨l, i + 1, 1, ver, ?_, ?_, rfl, ?_, ?_, hB, hk.bump', ?_, ?_, ?_, ?_⟩
      · omega
      · omega
      · omega
      · omega
      · simp [Jab, e0]
      · simp [Jab, e3]
      · simp [Jab]
      · simp [Jab]
    rintro kk2 env2 τ ⟨l', k', k2, ver', q1, q2, q3, q4, q5, hB', hk', f0, f3, f4, f5⟩
    cases kk2 with
    | zero =>
      have hlt3 : (((k2 : Nat) : Int) < ((l.length - (i + 1) : Nat) : Int)) = False := eq_false (by omega)
      have hn0 : l.length - k' ≠ 0 := by omega
      have ho0 : k' + (l.length - k') ≤ (l'.map intV).length := by rw [List.length_map]; omega
      have hcl : ∀ m, Jj0 Tryz.prog 28 (.slice (some ⟨B, k', none⟩) (l.length - k') 2) (τ.bump m) = some (.val (.tuple #[]) ((τ.bump m).set B (.cells true (ver' + 1) F (lay (l'.map intV) k' (zrow #[.int .i64 0] (l.length - k')).toList)))) := fun m =>
        Jw1 (B := B) (o := k') (n := l.length - k') (k := 2) (v := ver') (F := F) (c := l'.map intV) (σ := τ.bump m) hB' hn0 ho0
      simp (maxSteps := 1000000) (disch := first | omega | decide +kernel | (simp only [symN] <;> omega) | assumption) only [Jaa, Jac, reduceIte, Nat.reduceEqDiff, Nat.reduceAdd, Nat.reduceMul, f0, f3, f4, f5, hlt3, decide_false, Kqv, hcl]
      refine ⟨(hk'.bump'.set hB0).bump', _, _, _, rfl, ?_⟩
      rw [hnot]; simp; omega
    | succ kk2 =>
      have b2 : i + 1 + k2 < l'.length := by omega
      have b3 : i + 1 + (k2 - 1) < l'.length := by omega
      have hlt3 : (((k2 : Nat) : Int) < ((l.length - (i + 1) : Nat) : Int)) = True := eq_true (by omega)
      have hsub2 : ((k2 : Nat) : Int) - 1 = ((k2 - 1 : Nat) : Int) := by omega
      have hlt4 : (((k2 - 1 : Nat) : Int) < ((l.length - (i + 1) : Nat) : Int)) = True := eq_true (by omega)
      have hlt5 : (((k' : Nat) : Int) < ((l.length : Nat) : Int)) = True := eq_true (by omega)
      have rdI : ∀ j (h : j < l'.length), sub? (l'.map intV) j 1 = some [.int .i64 l'[j]] := fun j h => by
        unfold sub?; rw [if_pos (by simp; omega)]
        congr 1
        apply List.ext_getElem
        · simp; omega
        · intro n h h'; simp at h'; subst h'; simp [intV]
      have s3 := rdI (i + 1 + k2) b2
      have s4 := rdI (i + 1 + (k2 - 1)) b3
      clear rdI hz e0 e3 hB s1 s2 hsub hlt hlt2 heq' hge
      by_cases hne : l'[i + 1 + k2] = l'[i + 1 + (k2 - 1)]
      · have hne' := eq_true hne
        simp (maxSteps := 1000000) (disch := first | omega | decide +kernel | (simp only [symN] <;> omega) | assumption) only [Jaa, Jac, reduceIte, Nat.reduceEqDiff, Nat.reduceAdd, Nat.reduceMul, f0, f3, f4, f5, hlt3, hlt4, hsub2, decide_true, hB', s3, s4, hne']
        exact ⟨kk2, by omega, l', k', k2 + 1, ver', by omega, by omega, q3, q4, by omega, rfl, hk'.bump', trivial, rfl, trivial, by simp⟩
      · have hne' := eq_false hne
        have hk3 : k' < l'.length := by omega
        have hput : ∀ m, putG (τ.bump m) (some (.cells true ver' F (l'.map intV))) B k' 1 [.int .i64 l'[i + 1 + k2]] = some ((τ.bump m).set B (.cells true (ver' + 1) F (lay (l'.map intV) k' [.int .i64 l'[i + 1 + k2]]))) := fun m =>
          Kap rfl (by rw [List.length_map]; omega) rfl
        have hlay := Kq2 (z := l'[i + 1 + k2]) hk3
        simp (maxSteps := 1000000) (disch := first | omega | decide +kernel | (simp only [symN] <;> omega) | assumption) only [Jaa, Jac, reduceIte, Nat.reduceEqDiff, Nat.reduceAdd, Nat.reduceMul, f0, f3, f4, f5, hlt3, hlt4, hlt5, hsub2, hB', s3, s4, hne', hput, hlay]
        exact ⟨kk2, by omega, l'.set k' l'[i + 1 + k2], k' + 1, k2 + 1, ver' + 1, by omega, by omega, by simp [q3], by omega, by omega, by simp, (hk'.bump'.set hB0).bump', trivial, by simp, trivial, by simp⟩
set_option maxHeartbeats 4000000
set_option linter.defProp false
def Jtg (v : Value) : Bool := match v with
  | .int _ n => decide (0 ≤ n) && decide (n < 128)
  | _ => false
def Jfg (l : List Int) (most : Nat) : Bool := Jcx l && Jia l && (decide (1 ≤ l.length) && decide (l.length ≤ most) && (l.map intV).all Jtg)
def Kil := Jas (P := Tryz.prog) Tryz.func199 (by kernel_rfl) (by kernel_rfl)
theorem Jsa (l : List Int) (s : Value) (most : Nat) (σ : St) (hw : σ.Wf) (hs : SlR σ s 1 (l.map Ja8)) (hl : l.length < 100000000) :
    TF Tryz.prog [] 126 #[s, .int .i64 (most : Nat)] σ fun v σ' => v = .bool (Jfg l most) ∧ Jad σ σ' := by
  refine TF.walk (Jaf _) Jae Tryz.func126 (by kernel_rfl) rfl fun c hc => ?_
  cases hc
  obtain ⟨b0, k0, ea⟩ := hs.shape
  rw [List.length_map] at ea
  have hrows : (l.map intV).map (fun v => [v]) = l.map Ja8 := by rw [List.map_map]; rfl
  rw [ea]
  simp (maxSteps := 1000000) (disch := first | omega | decide +kernel | (simp only [symN] <;> omega) | assumption) only [Tryz.f126, Jaa, Jac, reduceIte, Nat.reduceEqDiff, Nat.reduceAdd, Nat.reduceMul]
  rw [← ea, Jak]
  refine (Jpl (gl := []) l s _ (hs.bump _) (by omega)).mono ?_
  rintro _ _ ⟨rfl, m, rfl⟩
  cases h1 : Jcx l with
  | false =>
    simp (maxSteps := 1000000) (disch := first | omega | decide +kernel | (simp only [symN] <;> omega) | assumption) only [Jaa, Jac, reduceIte, Nat.reduceEqDiff, Nat.reduceAdd, Nat.reduceMul]
    exact ⟨by simp [Jfg, h1], by (repeat (first | exact Jad.refl _ | apply Jad.bump' | apply Jad.setHint | refine Jad.setFam ?_ (by first | omega | (simp <;> omega)) | refine Jad.set ?_ (by first | omega | (simp <;> omega))))⟩
  | true =>
  simp (maxSteps := 1000000) (disch := first | omega | decide +kernel | (simp only [symN] <;> omega) | assumption) only [Jaa, Jac, reduceIte, Nat.reduceEqDiff, Nat.reduceAdd, Nat.reduceMul]
  rw [Jak]
  refine (Jo8 (gl := []) l s _ (hw.bump _) (hs.bump _) hl).mono ?_
  rintro v τ ⟨hk, hO⟩
  simp (maxSteps := 1000000) (disch := first | omega | decide +kernel | (simp only [symN] <;> omega) | assumption) only [Jaa, Jac, reduceIte, Nat.reduceEqDiff, Nat.reduceAdd, Nat.reduceMul]
  rw [Jak]
  refine (Jo7 (gl := []) _ l v _ hk hO hl).mono ?_
  rintro _ τ2 ⟨hk2, b, m2, k, rfl, hdec⟩
  have hk3 : Jad σ τ2 := Jad.trans (by (repeat (first | exact Jad.refl _ | apply Jad.bump' | apply Jad.setHint | refine Jad.setFam ?_ (by first | omega | (simp <;> omega)) | refine Jad.set ?_ (by first | omega | (simp <;> omega))))) hk2
  rw [ea]
  cases h2 : Jia l with
  | false =>
    rw [h2] at hdec
    have hne : (((m2 : Nat) : Int) = ((l.length : Nat) : Int)) = False := eq_false (by have := of_decide_eq_false hdec; omega)
    simp (maxSteps := 1000000) (disch := first | omega | decide +kernel | (simp only [symN] <;> omega) | assumption) only [Jaa, Jac, reduceIte, Nat.reduceEqDiff, Nat.reduceAdd, Nat.reduceMul, hne, decide_false]
    exact ⟨by simp [Jfg, h2], hk3.bump'⟩
  | true =>
  rw [h2] at hdec
  have hne : (((m2 : Nat) : Int) = ((l.length : Nat) : Int)) = True := eq_true (by have := of_decide_eq_true hdec; omega)
  simp (maxSteps := 1000000) (disch := first | omega | decide +kernel | (simp only [symN] <;> omega) | assumption) only [Jaa, Jac, reduceIte, Nat.reduceEqDiff, Nat.reduceAdd, Nat.reduceMul, hne]
  rw [← ea, Jak]
  refine (Jmr (g := 199) (l.map intV) Jtg s 1 most σ _ hw (hk3.trans .bump) (hrows ▸ hs) (by rw [List.length_map]; omega) (fun args σ => Kil args σ) (fun i h => ?_) (fun i h => ?_)).mono ?_
  · simp [intV, Ja5, flat0]
  · simp only [List.getElem_map, intV, Jtg]
    exact Jsf _
  · rintro _ τ3 ⟨rfl, hk4⟩
    simp (maxSteps := 1000000) (disch := first | omega | decide +kernel | (simp only [symN] <;> omega) | assumption) only [Jaa, Jac, reduceIte, Nat.reduceEqDiff, Nat.reduceAdd, Nat.reduceMul]
    exact ⟨by simp [Jfg, h1, h2], hk3.trans (Jad.trans .bump hk4)⟩
def isE (s : ByteArray) : Bool := s.toList == ({ data := #[] } : ByteArray).toList
def mayB (dom : ByteArray → Bool) (l d : ByteArray) : Bool := !(isE l) && decide (l.size ≤ 64) && Jfi l && dom d
theorem Jpb (dom : ByteArray → Bool) (l d : ByteArray) (hdom : Jai 161 [.string d] (.bool (dom d))) : Jai 64 [.agg ⟨Jbb l d⟩] (.bool (mayB dom l d)) := by
  refine Ja6 (by simp [Ja5, flat0, Jbb]) rfl (TF.walk (Jaf _) Jae Tryz.func64 (by kernel_rfl) rfl fun c hc => ?_)
  cases hc
  unfold Jbb mayB
  cases h1 : isE l with
  | true =>
    have h1' : (l.toList == ({ data := #[] } : ByteArray).toList) = true := h1
    simp (maxSteps := 1000000) (disch := first | omega | decide +kernel | (simp only [symN] <;> omega) | assumption) only [Tryz.f64, Jaa, Jac, reduceIte, Nat.reduceEqDiff, Nat.reduceAdd, Nat.reduceMul, h1', Bool.not_true, Bool.false_and]
  | false =>
    have h1' : (l.toList == ({ data := #[] } : ByteArray).toList) = false := h1
    by_cases h2 : l.size ≤ 64
    case neg =>
      have h2' : ((l.size : Int) ≤ 64) = False := eq_false (by omega)
      simp (maxSteps := 1000000) (disch := first | omega | decide +kernel | (simp only [symN] <;> omega) | assumption) only [Tryz.f64, Jaa, Jac, reduceIte, Nat.reduceEqDiff, Nat.reduceAdd, Nat.reduceMul, h1', h2', decide_false]
      simp [h2]
    have h2' : ((l.size : Int) ≤ 64) = True := eq_true (by omega)
    simp (maxSteps := 1000000) (disch := first | omega | decide +kernel | (simp only [symN] <;> omega) | assumption) only [Tryz.f64, Jaa, Jac, reduceIte, Nat.reduceEqDiff, Nat.reduceAdd, Nat.reduceMul, h1', h2']
    rw [Jak]
    refine TF.of (Jhy l (by omega) _) ?_
    cases h3 : Jfi l with
    | false =>
      simp (maxSteps := 1000000) (disch := first | omega | decide +kernel | (simp only [symN] <;> omega) | assumption) only [Jaa, Jac, reduceIte, Nat.reduceEqDiff, Nat.reduceAdd, Nat.reduceMul]
      simp
    | true =>
      simp (maxSteps := 1000000) (disch := first | omega | decide +kernel | (simp only [symN] <;> omega) | assumption) only [Jaa, Jac, reduceIte, Nat.reduceEqDiff, Nat.reduceAdd, Nat.reduceMul]
      rw [Jak]
      refine TF.of (hdom _) ?_
      simp (maxSteps := 1000000) (disch := first | omega | decide +kernel | (simp only [symN] <;> omega) | assumption) only [Jaa, Jac, reduceIte, Nat.reduceEqDiff, Nat.reduceAdd, Nat.reduceMul]
      simp [h2]
theorem Jir : Jai 190 [] (.agg #[.string { data := #[] }, .string { data := #[] }]) := by
  refine Ja6 rfl rfl (TF.walk (Jaf _) Jae Tryz.func190 (by kernel_rfl) rfl fun c hc => ?_)
  cases hc
  simp (maxSteps := 1000000) (disch := first | omega | decide +kernel | (simp only [symN] <;> omega) | assumption) only [Tryz.f190, Jaa, Jac, reduceIte, Nat.reduceEqDiff, Nat.reduceAdd, Nat.reduceMul]
def Jrw (l d : ByteArray) : Bool := l == { data := #[] } && d == { data := #[] }
def Jby (may : ByteArray → ByteArray → Bool) (l d : ByteArray) : Bool := Jrw l d || may l d
theorem Jfp (may : ByteArray → ByteArray → Bool) (l d : ByteArray) (hmay : Jai 64 [.agg ⟨Jbb l d⟩] (.bool (may l d))) : Jai 120 [.agg ⟨Jbb l d⟩] (.bool (Jby may l d)) := by
  refine Ja6 (by simp [Ja5, flat0, Jbb]) rfl (TF.walk (Jaf _) Jae Tryz.func120 (by kernel_rfl) rfl fun c hc => ?_)
  cases hc
  unfold Jbb at hmay ⊢
  simp (maxSteps := 1000000) (disch := first | omega | decide +kernel | (simp only [symN] <;> omega) | assumption) only [Tryz.f120, Jaa, Jac, reduceIte, Nat.reduceEqDiff, Nat.reduceAdd, Nat.reduceMul]
  rw [Jak]
  refine TF.of (Jir _) ?_
  cases h1 : Jrw l d with
  | true =>
    have h1' : (l == { data := #[] } && d == { data := #[] }) = true := h1
    simp (maxSteps := 1000000) (disch := first | omega | decide +kernel | (simp only [symN] <;> omega) | assumption) only [true_and, and_self, Jaa, Jac, reduceIte, Nat.reduceEqDiff, Nat.reduceAdd, Nat.reduceMul, Jam, h1']
    simp [Jby, h1]
  | false =>
    have h1' : (l == { data := #[] } && d == { data := #[] }) = false := h1
    simp (maxSteps := 1000000) (disch := first | omega | decide +kernel | (simp only [symN] <;> omega) | assumption) only [true_and, and_self, Jaa, Jac, reduceIte, Nat.reduceEqDiff, Nat.reduceAdd, Nat.reduceMul, Jam, h1']
    rw [Jak]
    refine TF.of (hmay _) ?_
    simp (maxSteps := 1000000) (disch := first | omega | decide +kernel | (simp only [symN] <;> omega) | assumption) only [true_and, and_self, Jaa, Jac, reduceIte, Nat.reduceEqDiff, Nat.reduceAdd, Nat.reduceMul]
    simp [Jby, h1]
def Jl2 (dom : ByteArray → Bool) (f : Jan) : Bool := if isE f.box then dom f.host else decide (f.box.size ≤ 64) && Jfi f.box && isE f.host
def Jio (dom : ByteArray → Bool) (may : ByteArray → ByteArray → Bool) (f : Jan) : Bool := may f.l f.d && Jl2 dom f && Jby may f.sl f.sd && Jby may f.vl f.vd && (f.owner == !(Jrw f.sl f.sd))
theorem Js5 (dom : ByteArray → Bool) (may : ByteArray → ByteArray → Bool) (f : Jan) (hdom : Jai 161 [.string f.host] (.bool (dom f.host))) (m1 : Jai 64 [.agg ⟨Jbb f.l f.d⟩] (.bool (may f.l f.d)))
    (m2 : Jai 64 [.agg ⟨Jbb f.sl f.sd⟩] (.bool (may f.sl f.sd))) (m3 : Jai 64 [.agg ⟨Jbb f.vl f.vd⟩] (.bool (may f.vl f.vd))) : Jai 123 [.agg ⟨f.cells⟩] (.bool (Jio dom may f)) := by
  refine Ja6 (by simp [Ja5, flat0, Jan.cells]) rfl (TF.walk (Jaf _) Jae Tryz.func123 (by kernel_rfl) rfl fun c hc => ?_)
  cases hc
  have p2 := Jfp may _ _ m2
  have p3 := Jfp may _ _ m3
  obtain ⟨fl, fd, box, host, sl, sd, vl, vd, owner⟩ := f
  unfold Jan.cells Jio
  simp only at hdom m1 m2 m3 p2 p3 ⊢
  unfold Jbb at m1 m2 m3 p2 p3
  -- the place
  obtain ⟨p, hp⟩ : ∃ p, Jl2 dom ⟨fl, fd, box, host, sl, sd, vl, vd, owner⟩ = p := ⟨_, rfl⟩
  rw [hp]
  unfold Jl2 at hp
  simp only at hp
  cases h1 : isE box with
  | true =>
    have h1' : (box.toList == ({ data := #[] } : ByteArray).toList) = true := h1
    rw [h1, if_pos rfl] at hp
    simp (maxSteps := 1000000) (disch := first | omega | decide +kernel | (simp only [symN] <;> omega) | assumption) only [Tryz.f123, Jaa, Jac, reduceIte, Nat.reduceEqDiff, Nat.reduceAdd, Nat.reduceMul, h1']
    rw [Jak]
    refine TF.of (hdom _) ?_
    rw [hp]
    cases p with
    | false =>
      simp (maxSteps := 1000000) (disch := first | omega | decide +kernel | (simp only [symN] <;> omega) | assumption) only [true_and, and_self, Jaa, Jac, reduceIte, Nat.reduceEqDiff, Nat.reduceAdd, Nat.reduceMul]
      rw [Jak]
      refine TF.of (m1 _) ?_
      cases q1 : may fl fd with
      | false => simp (maxSteps := 1000000) (disch := first | omega | decide +kernel | (simp only [symN] <;> omega) | assumption) only [true_and, and_self, Jaa, Jac, reduceIte, Nat.reduceEqDiff, Nat.reduceAdd, Nat.reduceMul, Bool.false_and]
      | true => simp (maxSteps := 1000000) (disch := first | omega | decide +kernel | (simp only [symN] <;> omega) | assumption) only [true_and, and_self, Jaa, Jac, reduceIte, Nat.reduceEqDiff, Nat.reduceAdd, Nat.reduceMul, Bool.false_and, Bool.true_and]
    | true =>
      simp (maxSteps := 1000000) (disch := first | omega | decide +kernel | (simp only [symN] <;> omega) | assumption) only [true_and, and_self, Jaa, Jac, reduceIte, Nat.reduceEqDiff, Nat.reduceAdd, Nat.reduceMul]
      rw [Jak]
      refine TF.of (m1 _) ?_
      cases q1 : may fl fd with
      | false => simp (maxSteps := 1000000) (disch := first | omega | decide +kernel | (simp only [symN] <;> omega) | assumption) only [true_and, and_self, Jaa, Jac, reduceIte, Nat.reduceEqDiff, Nat.reduceAdd, Nat.reduceMul, Bool.false_and]
      | true =>
      simp (maxSteps := 1000000) (disch := first | omega | decide +kernel | (simp only [symN] <;> omega) | assumption) only [true_and, and_self, Jaa, Jac, reduceIte, Nat.reduceEqDiff, Nat.reduceAdd, Nat.reduceMul, Bool.true_and]
      rw [Jak]
      refine TF.of (p2 _) ?_
      cases q2 : Jby may sl sd with
      | false => simp (maxSteps := 1000000) (disch := first | omega | decide +kernel | (simp only [symN] <;> omega) | assumption) only [true_and, and_self, Jaa, Jac, reduceIte, Nat.reduceEqDiff, Nat.reduceAdd, Nat.reduceMul, Bool.false_and, Bool.true_and]
      | true =>
      simp (maxSteps := 1000000) (disch := first | omega | decide +kernel | (simp only [symN] <;> omega) | assumption) only [true_and, and_self, Jaa, Jac, reduceIte, Nat.reduceEqDiff, Nat.reduceAdd, Nat.reduceMul, Bool.true_and]
      rw [Jak]
      refine TF.of (p3 _) ?_
      cases q3 : Jby may vl vd with
      | false => simp (maxSteps := 1000000) (disch := first | omega | decide +kernel | (simp only [symN] <;> omega) | assumption) only [true_and, and_self, Jaa, Jac, reduceIte, Nat.reduceEqDiff, Nat.reduceAdd, Nat.reduceMul, Bool.false_and, Bool.true_and]
      | true =>
      simp (maxSteps := 1000000) (disch := first | omega | decide +kernel | (simp only [symN] <;> omega) | assumption) only [true_and, and_self, Jaa, Jac, reduceIte, Nat.reduceEqDiff, Nat.reduceAdd, Nat.reduceMul, Bool.true_and]
      rw [Jak]
      refine TF.of (Jir _) ?_
      have q4 : (sl == ({ data := #[] } : ByteArray) && sd == ({ data := #[] } : ByteArray)) = Jrw sl sd := rfl
      simp (maxSteps := 1000000) (disch := first | omega | decide +kernel | (simp only [symN] <;> omega) | assumption) only [true_and, and_self, Jaa, Jac, reduceIte, Nat.reduceEqDiff, Nat.reduceAdd, Nat.reduceMul, Jkb, q4, Bool.true_and]
  | false =>
    have h1' : (box.toList == ({ data := #[] } : ByteArray).toList) = false := h1
    rw [h1] at hp
    simp only [Bool.false_eq_true, if_false] at hp
    by_cases h2 : box.size ≤ 64
    case neg =>
      have h2' : ((box.size : Int) ≤ 64) = False := eq_false (by omega)
      obtain rfl : p = false := by rw [← hp]; simp [h2]
      simp (maxSteps := 1000000) (disch := first | omega | decide +kernel | (simp only [symN] <;> omega) | assumption) only [Tryz.f123, Jaa, Jac, reduceIte, Nat.reduceEqDiff, Nat.reduceAdd, Nat.reduceMul, h1', h2', decide_false]
      rw [Jak]
      refine TF.of (m1 _) ?_
      cases q1 : may fl fd with
      | false => simp (maxSteps := 1000000) (disch := first | omega | decide +kernel | (simp only [symN] <;> omega) | assumption) only [true_and, and_self, Jaa, Jac, reduceIte, Nat.reduceEqDiff, Nat.reduceAdd, Nat.reduceMul, Bool.false_and]
      | true => simp (maxSteps := 1000000) (disch := first | omega | decide +kernel | (simp only [symN] <;> omega) | assumption) only [true_and, and_self, Jaa, Jac, reduceIte, Nat.reduceEqDiff, Nat.reduceAdd, Nat.reduceMul, Bool.false_and, Bool.true_and]
    have h2' : ((box.size : Int) ≤ 64) = True := eq_true (by omega)
    simp (maxSteps := 1000000) (disch := first | omega | decide +kernel | (simp only [symN] <;> omega) | assumption) only [Tryz.f123, Jaa, Jac, reduceIte, Nat.reduceEqDiff, Nat.reduceAdd, Nat.reduceMul, h1', h2']
    rw [Jak]
    refine TF.of (Jhy box (by omega) _) ?_
    cases h3 : Jfi box with
    | false =>
      obtain rfl : p = false := by rw [← hp]; simp [h3]
      simp (maxSteps := 1000000) (disch := first | omega | decide +kernel | (simp only [symN] <;> omega) | assumption) only [true_and, and_self, Jaa, Jac, reduceIte, Nat.reduceEqDiff, Nat.reduceAdd, Nat.reduceMul, h1']
      rw [Jak]
      refine TF.of (m1 _) ?_
      cases q1 : may fl fd with
      | false => simp (maxSteps := 1000000) (disch := first | omega | decide +kernel | (simp only [symN] <;> omega) | assumption) only [true_and, and_self, Jaa, Jac, reduceIte, Nat.reduceEqDiff, Nat.reduceAdd, Nat.reduceMul, Bool.false_and]
      | true => simp (maxSteps := 1000000) (disch := first | omega | decide +kernel | (simp only [symN] <;> omega) | assumption) only [true_and, and_self, Jaa, Jac, reduceIte, Nat.reduceEqDiff, Nat.reduceAdd, Nat.reduceMul, Bool.false_and, Bool.true_and]
    | true =>
    cases h4 : isE host with
    | true =>
      have h4' : (host.toList == ({ data := #[] } : ByteArray).toList) = true := h4
      obtain rfl : p = true := by rw [← hp]; simp [h2, h3, h4]
      simp (maxSteps := 1000000) (disch := first | omega | decide +kernel | (simp only [symN] <;> omega) | assumption) only [true_and, and_self, Jaa, Jac, reduceIte, Nat.reduceEqDiff, Nat.reduceAdd, Nat.reduceMul, h1', h4']
      rw [Jak]
      refine TF.of (m1 _) ?_
      cases q1 : may fl fd with
      | false => simp (maxSteps := 1000000) (disch := first | omega | decide +kernel | (simp only [symN] <;> omega) | assumption) only [true_and, and_self, Jaa, Jac, reduceIte, Nat.reduceEqDiff, Nat.reduceAdd, Nat.reduceMul, Bool.false_and]
      | true =>
      simp (maxSteps := 1000000) (disch := first | omega | decide +kernel | (simp only [symN] <;> omega) | assumption) only [true_and, and_self, Jaa, Jac, reduceIte, Nat.reduceEqDiff, Nat.reduceAdd, Nat.reduceMul, Bool.true_and]
      rw [Jak]
      refine TF.of (p2 _) ?_
      cases q2 : Jby may sl sd with
      | false => simp (maxSteps := 1000000) (disch := first | omega | decide +kernel | (simp only [symN] <;> omega) | assumption) only [true_and, and_self, Jaa, Jac, reduceIte, Nat.reduceEqDiff, Nat.reduceAdd, Nat.reduceMul, Bool.false_and, Bool.true_and]
      | true =>
      simp (maxSteps := 1000000) (disch := first | omega | decide +kernel | (simp only [symN] <;> omega) | assumption) only [true_and, and_self, Jaa, Jac, reduceIte, Nat.reduceEqDiff, Nat.reduceAdd, Nat.reduceMul, Bool.true_and]
      rw [Jak]
      refine TF.of (p3 _) ?_
      cases q3 : Jby may vl vd with
      | false => simp (maxSteps := 1000000) (disch := first | omega | decide +kernel | (simp only [symN] <;> omega) | assumption) only [true_and, and_self, Jaa, Jac, reduceIte, Nat.reduceEqDiff, Nat.reduceAdd, Nat.reduceMul, Bool.false_and, Bool.true_and]
      | true =>
      simp (maxSteps := 1000000) (disch := first | omega | decide +kernel | (simp only [symN] <;> omega) | assumption) only [true_and, and_self, Jaa, Jac, reduceIte, Nat.reduceEqDiff, Nat.reduceAdd, Nat.reduceMul, Bool.true_and]
      rw [Jak]
      refine TF.of (Jir _) ?_
      have q4 : (sl == ({ data := #[] } : ByteArray) && sd == ({ data := #[] } : ByteArray)) = Jrw sl sd := rfl
      simp (maxSteps := 1000000) (disch := first | omega | decide +kernel | (simp only [symN] <;> omega) | assumption) only [true_and, and_self, Jaa, Jac, reduceIte, Nat.reduceEqDiff, Nat.reduceAdd, Nat.reduceMul, Jkb, q4, Bool.true_and]
    | false =>
      have h4' : (host.toList == ({ data := #[] } : ByteArray).toList) = false := h4
      obtain rfl : p = false := by rw [← hp]; simp [h4]
      simp (maxSteps := 1000000) (disch := first | omega | decide +kernel | (simp only [symN] <;> omega) | assumption) only [true_and, and_self, Jaa, Jac, reduceIte, Nat.reduceEqDiff, Nat.reduceAdd, Nat.reduceMul, h1', h4']
      rw [Jak]
      refine TF.of (m1 _) ?_
      cases q1 : may fl fd with
      | false => simp (maxSteps := 1000000) (disch := first | omega | decide +kernel | (simp only [symN] <;> omega) | assumption) only [true_and, and_self, Jaa, Jac, reduceIte, Nat.reduceEqDiff, Nat.reduceAdd, Nat.reduceMul, Bool.false_and]
      | true => simp (maxSteps := 1000000) (disch := first | omega | decide +kernel | (simp only [symN] <;> omega) | assumption) only [true_and, and_self, Jaa, Jac, reduceIte, Nat.reduceEqDiff, Nat.reduceAdd, Nat.reduceMul, Bool.false_and, Bool.true_and]
theorem Ka4 {g : Gam} {cells : List Value} {w : List Value} (hl : cells.length = w.length) (h : ∀ i (h : i < cells.length) (h' : i < w.length), VRel g cells[i] w[i]) : ∀ (out : List Value), (∀ x ∈ out, flat0 x = true ∨ x ∈ cells) → ∃ o : List Value, o.length = out.length ∧ ∀ i (h : i < out.length) (h' : i < o.length), VRel g out[i] o[i]
  | [], _ => ⟨[], rfl, fun i h => by simp at h⟩
  | x :: out, hm => by
    obtain ⟨o, h1, h2⟩ := Ka4 hl h out (fun y hy => hm y (List.mem_cons_of_mem _ hy))
    obtain ⟨y, hy⟩ : ∃ y, VRel g x y := by
      rcases hm x List.mem_cons_self with hf | hx
      · exact ⟨x, Jin hf⟩
      · obtain ⟨i, hi, e⟩ := List.getElem_of_mem hx
        exact ⟨w[i]'(by omega), e ▸ h i hi (by omega)⟩
    refine ⟨y :: o, by simp [h1], fun i p p' => ?_⟩
    cases i with
    | zero => exact hy
    | succ i => simpa using h2 i (by simpa using p) (by simpa using p')
theorem Krb {cells out : List Value} (hm : ∀ x ∈ out, flat0 x = true ∨ x ∈ cells) : ∀ (g : Gam) (args' : Array Value), ARel g #[.agg ⟨cells⟩] args' → ∃ v0, VRel g (.agg ⟨out⟩) v0 := by
  intro g args' h
  obtain ⟨h1, h2⟩ := h
  have h3 := h2 0 (by simp) (by simp at h1; omega)
  simp only [List.getElem_toArray, List.getElem_cons_zero] at h3
  generalize args'[0]'(by simp at h1; omega) = a0 at h3
  cases h3 with
  | agg _ b k1 k2 =>
    obtain ⟨o, q1, q2⟩ := Ka4 (g := g) (cells := cells) (w := b.toList) (by simpa using k1) (fun i p p' => by
      have := k2 i (by simpa using p) (by simpa using p')
      simpa only [List.getElem_toArray, Array.getElem_toList] using this) out hm
    exact ⟨.agg ⟨o⟩, .agg _ _ (by simp [q1]) fun i p p' => by
      have := q2 i (by simpa using p) (by simpa using p')
      simpa only [List.getElem_toArray] using this⟩
theorem Ju0 {gl : List Nat} (r : RecM) (s : RecS) (σ : St) (ha : Jbo σ r s) :
    TF Tryz.prog gl 119 #[.agg ⟨Jah r s⟩] σ fun v σ' => v = .agg ⟨Jah (Jhc r) (Jlf r.kind s)⟩ ∧ Jad σ σ' := by
  refine TF.walk (Jaf gl) Jae Tryz.func119 (by kernel_rfl) rfl fun c hc => ?_
  cases hc
  obtain ⟨b0, k0, e0⟩ := ha.to.shape
  obtain ⟨b1, k1, e1⟩ := ha.fin.shape
  obtain ⟨b2, k2, e2⟩ := ha.fail.shape
  obtain ⟨b3, k3, e3⟩ := ha.which.shape
  cases s with
  | mk to fin fail which =>
  simp only at e0 e1 e2 e3
  subst e0 e1 e2 e3
  have c1 : (((r.kind : Nat) : Int) = 1) = (r.kind = 1) := propext (by omega)
  have c2 : (((r.kind : Nat) : Int) = 2) = (r.kind = 2) := propext (by omega)
  have c3 : (((r.kind : Nat) : Int) = 3) = (r.kind = 3) := propext (by omega)
  have c4 : (((r.kind : Nat) : Int) = 4) = (r.kind = 4) := propext (by omega)
  have c5 : (((r.kind : Nat) : Int) = 5) = (r.kind = 5) := propext (by omega)
  have nx0 : ∀ k, (σ.next + (k + 1) = σ.next) = False := fun k => eq_false (by omega)
  have nx1 : ∀ k, (σ.next = σ.next + (k + 1)) = False := fun k => eq_false (by omega)
  by_cases h1 : r.kind = 1
  · have h1' := eq_true h1
    simp (maxSteps := 1000000) (disch := first | omega | decide +kernel | (simp only [symN] <;> omega) | assumption) only [Tryz.f119, Jaa, Jac, reduceIte, Nat.reduceEqDiff, Nat.reduceAdd, Nat.reduceMul, Jah, c1, h1', decide_true, Nat.add_assoc, Nat.add_left_cancel_iff, nx0, nx1, true_and, and_self]
    first | exact ⟨by simp [Jhc, Jlf, h1, nilS, Jcb, Jah], by (repeat (first | exact Jad.refl _ | apply Jad.bump' | apply Jad.setHint | refine Jad.setFam ?_ (by first | omega | (simp <;> omega)) | refine Jad.set ?_ (by first | omega | (simp <;> omega))))⟩ | exact by (repeat (first | exact Jad.refl _ | apply Jad.bump' | apply Jad.setHint | refine Jad.setFam ?_ (by first | omega | (simp <;> omega)) | refine Jad.set ?_ (by first | omega | (simp <;> omega))))
  have h1' := eq_false h1
  by_cases h2 : r.kind = 2
  · have h2' := eq_true h2
    simp (maxSteps := 1000000) (disch := first | omega | decide +kernel | (simp only [symN] <;> omega) | assumption) only [Tryz.f119, Jaa, Jac, reduceIte, Nat.reduceEqDiff, Nat.reduceAdd, Nat.reduceMul, Jah, c1, c2, h1', h2', Nat.add_assoc, Nat.add_left_cancel_iff, nx0, nx1, true_and, and_self]
    first | exact ⟨by simp [Jhc, Jlf, h2, nilS, Jcb, Jah], by (repeat (first | exact Jad.refl _ | apply Jad.bump' | apply Jad.setHint | refine Jad.setFam ?_ (by first | omega | (simp <;> omega)) | refine Jad.set ?_ (by first | omega | (simp <;> omega))))⟩ | exact by (repeat (first | exact Jad.refl _ | apply Jad.bump' | apply Jad.setHint | refine Jad.setFam ?_ (by first | omega | (simp <;> omega)) | refine Jad.set ?_ (by first | omega | (simp <;> omega))))
  have h2' := eq_false h2
  by_cases h3 : r.kind = 3
  · have h3' := eq_true h3
    simp (maxSteps := 1000000) (disch := first | omega | decide +kernel | (simp only [symN] <;> omega) | assumption) only [Tryz.f119, Jaa, Jac, reduceIte, Nat.reduceEqDiff, Nat.reduceAdd, Nat.reduceMul, Jah, c1, c2, c3, h1', h2', h3', Nat.add_assoc, Nat.add_left_cancel_iff, nx0, nx1, true_and, and_self]
    first | exact ⟨by simp [Jhc, Jlf, h3, nilS, Jcb, Jah], by (repeat (first | exact Jad.refl _ | apply Jad.bump' | apply Jad.setHint | refine Jad.setFam ?_ (by first | omega | (simp <;> omega)) | refine Jad.set ?_ (by first | omega | (simp <;> omega))))⟩ | exact by (repeat (first | exact Jad.refl _ | apply Jad.bump' | apply Jad.setHint | refine Jad.setFam ?_ (by first | omega | (simp <;> omega)) | refine Jad.set ?_ (by first | omega | (simp <;> omega))))
  have h3' := eq_false h3
  by_cases h4 : r.kind = 4
  · have h4' := eq_true h4
    simp (maxSteps := 1000000) (disch := first | omega | decide +kernel | (simp only [symN] <;> omega) | assumption) only [Tryz.f119, Jaa, Jac, reduceIte, Nat.reduceEqDiff, Nat.reduceAdd, Nat.reduceMul, Jah, c1, c2, c3, c4, h1', h2', h3', h4', Nat.add_assoc, Nat.add_left_cancel_iff, nx0, nx1, true_and, and_self]
    first | exact ⟨by simp [Jhc, Jlf, h4, nilS, Jcb, Jah], by (repeat (first | exact Jad.refl _ | apply Jad.bump' | apply Jad.setHint | refine Jad.setFam ?_ (by first | omega | (simp <;> omega)) | refine Jad.set ?_ (by first | omega | (simp <;> omega))))⟩ | exact by (repeat (first | exact Jad.refl _ | apply Jad.bump' | apply Jad.setHint | refine Jad.setFam ?_ (by first | omega | (simp <;> omega)) | refine Jad.set ?_ (by first | omega | (simp <;> omega))))
  have h4' := eq_false h4
  by_cases h5 : r.kind = 5
  · have h5' := eq_true h5
    simp (maxSteps := 1000000) (disch := first | omega | decide +kernel | (simp only [symN] <;> omega) | assumption) only [Tryz.f119, Jaa, Jac, reduceIte, Nat.reduceEqDiff, Nat.reduceAdd, Nat.reduceMul, Jah, c1, c2, c3, c4, c5, h1', h2', h3', h4', h5', Nat.add_assoc, Nat.add_left_cancel_iff, nx0, nx1, true_and, and_self]
    first | exact ⟨by simp [Jhc, Jlf, h5, nilS, Jcb, Jah], by (repeat (first | exact Jad.refl _ | apply Jad.bump' | apply Jad.setHint | refine Jad.setFam ?_ (by first | omega | (simp <;> omega)) | refine Jad.set ?_ (by first | omega | (simp <;> omega))))⟩ | exact by (repeat (first | exact Jad.refl _ | apply Jad.bump' | apply Jad.setHint | refine Jad.setFam ?_ (by first | omega | (simp <;> omega)) | refine Jad.set ?_ (by first | omega | (simp <;> omega))))
  have h5' := eq_false h5
  simp (maxSteps := 1000000) (disch := first | omega | decide +kernel | (simp only [symN] <;> omega) | assumption) only [Tryz.f119, Jaa, Jac, reduceIte, Nat.reduceEqDiff, Nat.reduceAdd, Nat.reduceMul, Jah, c1, c2, c3, c4, c5, h1', h2', h3', h4', h5', Nat.add_assoc, Nat.add_left_cancel_iff, nx0, nx1, true_and, and_self]
  first | exact ⟨by simp [Jhc, Jlf, h1, h2, h3, h4, h5, nilS, Jcb, Jah], by (repeat (first | exact Jad.refl _ | apply Jad.bump' | apply Jad.setHint | refine Jad.setFam ?_ (by first | omega | (simp <;> omega)) | refine Jad.set ?_ (by first | omega | (simp <;> omega))))⟩ | exact by (repeat (first | exact Jad.refl _ | apply Jad.bump' | apply Jad.setHint | refine Jad.setFam ?_ (by first | omega | (simp <;> omega)) | refine Jad.set ?_ (by first | omega | (simp <;> omega))))
theorem Jjr {P : Program} {gl : List Nat} {f : FuncId} {args : Array Value} {σ : St} {v : Value} (hv : ∀ g args', ARel g args args' → ∃ v0, VRel g v v0) (h : σ.Wf → TF P gl f args σ fun u σ' => u = v ∧ Jad σ σ') : SimF P gl f args σ v σ :=
  SimF.of_wf fun hw => by
    obtain ⟨u, σ', hs, rfl, hk⟩ := h hw
    exact hs.forget hk hv
theorem Kb4 (r : RecM) (s : RecS) : ∀ x ∈ Jah (Jhc r) (Jlf r.kind s), flat0 x = true ∨ x ∈ Jah r s := by
  intro x hx
  unfold Jhc Jlf at hx
  repeat' split at hx
  all_goals
    simp only [Jah, nilS, Jcb, List.mem_cons, List.not_mem_nil, or_false] at hx
    rcases hx with rfl | rfl | rfl | rfl | rfl | rfl | rfl | rfl | rfl | rfl | rfl | rfl | rfl <;> first | exact .inl rfl | exact .inr (by simp [Jah])
theorem Jss {gl : List Nat} (r : RecM) (s : RecS) (σ : St) (ha : Jbo σ r s) : SimF Tryz.prog gl 119 #[.agg ⟨Jah r s⟩] σ (.agg ⟨Jah (Jhc r) (Jlf r.kind s)⟩) σ :=
  Jjr (Krb (Kb4 r s)) fun hw => Ju0 r s σ ha
theorem Jjw (l : List Int) (s : Value) (most : Nat) (σ : St) (hs : SlR σ s 1 (l.map Ja8)) (hl : l.length < 100000000) : SimF Tryz.prog [] 126 #[s, .int .i64 (most : Nat)] σ (.bool (Jfg l most)) σ :=
  Jjr (Je4 rfl _) fun hw => Jsa l s most σ hw hs hl
def Ko5 := Jas (P := Tryz.prog) Tryz.func64 (by kernel_rfl) (by kernel_rfl)
def Kiq := Jas (P := Tryz.prog) Tryz.func123 (by kernel_rfl) (by kernel_rfl)
def Kip := Jas (P := Tryz.prog) Tryz.func125 (by kernel_rfl) (by kernel_rfl)
def Jez {α : Type} (l : List α) (least most : Nat) (p : α → Bool) : Bool := decide (least ≤ l.length) && decide (l.length ≤ most) && l.all p
def Kr3 (may : ByteArray → ByteArray → Bool) (c : List Value) : Bool := match c with
  | [.string l, .string d] => may l d
  | _ => false
theorem Jh8 (may : ByteArray → ByteArray → Bool) (l : List (ByteArray × ByteArray)) (s : Value) (least most : Nat) (σ : St) (hs : SlR σ s 2 (l.map Jbz)) (hl : l.length < 100000000)
    (hm : ∀ p ∈ l, Jai 64 [.agg ⟨Jbb p.1 p.2⟩] (.bool (may p.1 p.2))) :
    SimF Tryz.prog [] 121 #[s, .int .i64 (least : Nat), .int .i64 (most : Nat), .func (.func 64) #[] #[]] σ (.bool (Jez l least most fun p => may p.1 p.2)) σ := by
  refine Jjr (Je4 rfl _) fun hw => (Jmx (g := 64) (l.map Jbz) (Kr3 may) s least most σ hw hs (by rw [List.length_map]; omega) (fun args σ => Ko5 args σ) (fun i h => ?_) (fun i h => ?_)).mono ?_
  · rw [List.getElem_map]; exact ⟨_, _, rfl, by simp [Ja5, flat0]⟩
  · rw [List.getElem_map]; exact hm _ (List.getElem_mem _)
  · rintro _ _ ⟨rfl, hk⟩
    refine ⟨?_, hk⟩
    simp only [Jez, List.length_map, List.all_map]
    rfl
theorem Jlr (p : Jan → Bool) (l : List Jan) (s : Value) (least most : Nat) (σ : St) (hs : SlR σ s 9 (l.map Jan.cells)) (hl : l.length < 100000000)
    (hm : ∀ f ∈ l, Jai 123 [.agg ⟨f.cells⟩] (.bool (p f))) (hinj : ∃ q : List Value → Bool, ∀ f ∈ l, q f.cells = p f) :
    SimF Tryz.prog [] 122 #[s, .int .i64 (least : Nat), .int .i64 (most : Nat), .func (.func 123) #[] #[]] σ (.bool (Jez l least most p)) σ := by
  obtain ⟨q, hq⟩ := hinj
  refine Jjr (Je4 rfl _) fun hw => (Jmw (g := 123) (l.map Jan.cells) q s least most σ hw hs (by rw [List.length_map]; omega) (fun args σ => Kiq args σ) (fun i h => ?_) (fun i h => ?_)).mono ?_
  · rw [List.getElem_map]; exact ⟨_, _, _, _, _, _, _, _, _, rfl, by simp [Ja5, flat0]⟩
  · rw [List.getElem_map, hq _ (List.getElem_mem _)]; exact hm _ (List.getElem_mem _)
  · rintro _ _ ⟨rfl, hk⟩
    refine ⟨?_, hk⟩
    simp only [Jez, List.length_map, List.all_map]
    have : l.all (q ∘ Jan.cells) = l.all p := by
      rw [Bool.eq_iff_iff, List.all_eq_true, List.all_eq_true]
      exact ⟨fun h f hf => by rw [← hq f hf]; exact h f hf, fun h f hf => by show q f.cells = true; rw [hq f hf]; exact h f hf⟩
    rw [this]
theorem Jky (p : Jaw → Bool) (l : List Jaw) (s : Value) (least most : Nat) (σ : St) (hs : SlR σ s 4 (l.map Jaw.cells)) (hl : l.length < 100000000)
    (hm : ∀ f ∈ l, Jai 125 [.agg ⟨f.cells⟩] (.bool (p f))) (hinj : ∃ q : List Value → Bool, ∀ f ∈ l, q f.cells = p f) :
    SimF Tryz.prog [] 124 #[s, .int .i64 (least : Nat), .int .i64 (most : Nat), .func (.func 125) #[] #[]] σ (.bool (Jez l least most p)) σ := by
  obtain ⟨q, hq⟩ := hinj
  refine Jjr (Je4 rfl _) fun hw => (Jmv (g := 125) (l.map Jaw.cells) q s least most σ hw hs (by rw [List.length_map]; omega) (fun args σ => Kip args σ) (fun i h => ?_) (fun i h => ?_)).mono ?_
  · rw [List.getElem_map]; exact ⟨_, _, _, _, rfl, by simp [Ja5, flat0]⟩
  · rw [List.getElem_map, hq _ (List.getElem_mem _)]; exact hm _ (List.getElem_mem _)
  · rintro _ _ ⟨rfl, hk⟩
    refine ⟨?_, hk⟩
    simp only [Jez, List.length_map, List.all_map]
    have : l.all (q ∘ Jaw.cells) = l.all p := by
      rw [Bool.eq_iff_iff, List.all_eq_true, List.all_eq_true]
      exact ⟨fun h f hf => by rw [← hq f hf]; exact h f hf, fun h f hf => by show q f.cells = true; rw [hq f hf]; exact h f hf⟩
    rw [this]
set_option maxHeartbeats 40000000
theorem Kc8 {a b : List (ByteArray × ByteArray)} : ∀ x ∈ a.map Jbz, ∀ y ∈ b.map Jbz, ∀ p q σ, sBin Tryz.prog .neq 24 p q (.agg ⟨x⟩) (.agg ⟨y⟩) σ = some (.val (.bool (!Jbr x y)) σ) := by
  intro x hx y hy p q σ
  obtain ⟨u, _, rfl⟩ := List.mem_map.1 hx
  obtain ⟨w, _, rfl⟩ := List.mem_map.1 hy
  exact Jyi _ _ _ _
theorem Jyh {a b : List Jan} : ∀ x ∈ a.map Jan.cells, ∀ y ∈ b.map Jan.cells, ∀ p q σ, sBin Tryz.prog .neq 56 p q (.agg ⟨x⟩) (.agg ⟨y⟩) σ = some (.val (.bool (!Jbr x y)) σ) := by
  intro x hx y hy p q σ
  obtain ⟨u, _, rfl⟩ := List.mem_map.1 hx
  obtain ⟨w, _, rfl⟩ := List.mem_map.1 hy
  exact Jyk _ _
theorem Ju4 {a b : List Jaw} : ∀ x ∈ a.map Jaw.cells, ∀ y ∈ b.map Jaw.cells, ∀ p q σ, sBin Tryz.prog .neq 58 p q (.agg ⟨x⟩) (.agg ⟨y⟩) σ = some (.val (.bool (!Jbr x y)) σ) := by
  intro x hx y hy p q σ
  obtain ⟨u, _, rfl⟩ := List.mem_map.1 hx
  obtain ⟨w, _, rfl⟩ := List.mem_map.1 hy
  exact Jyj _ _
theorem Jff {P : Program} {gl : List Nat} {C : Jd9} {N : Nat} {c : Code} {env : Env} {σ0 : St} {Q : Ex → Env → St → Prop} (R : Env → St → Prop) (h : R env σ0) (k : ∀ env τ, R env τ → zC P gl C N c env τ Q .mk) : zC P gl C N c env σ0 Q .mk := k _ _ h
theorem Jb7 {τ : St} {A v F : Nat} {r : RecM} {s : RecS} (h : τ.get A = some (.cells true v F (Jah r s))) :
    (∀ m, rdG (τ.bump m) (τ.get A) 0 1 = some [.int .u8 (r.kind : Nat)]) ∧ (∀ m, rdG (τ.bump m) (τ.get A) 1 1 = some [.int .u32 (r.id : Nat)]) ∧ (∀ m, rdG (τ.bump m) (τ.get A) 2 1 = some [.int .i64 r.tick]) ∧
    (∀ m, rdG (τ.bump m) (τ.get A) 3 2 = some [.string r.sl, .string r.sd]) ∧ (∀ m, rdG (τ.bump m) (τ.get A) 5 1 = some [s.to]) ∧ (∀ m, rdG (τ.bump m) (τ.get A) 6 1 = some [.string r.content]) ∧
    (∀ m, rdG (τ.bump m) (τ.get A) 7 1 = some [s.fin]) ∧ (∀ m, rdG (τ.bump m) (τ.get A) 8 1 = some [s.fail]) ∧ (∀ m, rdG (τ.bump m) (τ.get A) 9 1 = some [s.which]) ∧ (∀ m, rdG (τ.bump m) (τ.get A) 10 1 = some [.int .u8 (r.what : Nat)]) ∧
    (∀ m, rdG (τ.bump m) (τ.get A) 11 1 = some [.int .i64 r.next]) ∧ (∀ m, rdG (τ.bump m) (τ.get A) 12 1 = some [.int .u32 (r.new : Nat)]) ∧ (∀ m, rdG (τ.bump m) (τ.get A) 0 13 = some (Jah r s)) := by
  rw [h]
  exact ⟨fun _ => rfl, fun _ => rfl, fun _ => rfl, fun _ => rfl, fun _ => rfl, fun _ => rfl, fun _ => rfl, fun _ => rfl, fun _ => rfl, fun _ => rfl, fun _ => rfl, fun _ => rfl, fun _ => rfl⟩
end Go.Proofs
