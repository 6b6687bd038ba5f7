/-
  The evaluator of code, over any program: calls that are known beforehand, by their arguments; repeated texts. No condition.
-/
import Derived.Test.YtedojhheppepdaaGreatDoorEv29
import Derived.Lib.Repeat
namespace Go.Ev
open Go
set_option linter.unusedVariables false
set_option linter.unusedSimpArgs false

/-! ## Values alike -/
def bytesEq : List UInt8 → List UInt8 → Bool
  | [], [] => true
  | a :: l, b :: m => cond (Nat.beq a.toNat b.toNat) (bytesEq l m) false
  | _, _ => false
theorem bytesEq_eq : ∀ {l m : List UInt8}, bytesEq l m = true → l = m
  | [], [], _ => rfl
  | [], _ :: _, h => by simp [bytesEq] at h
  | _ :: _, [], h => by simp [bytesEq] at h
  | a :: l, b :: m, h => by
    simp only [bytesEq] at h
    cases hb : Nat.beq a.toNat b.toNat with
    | false => rw [hb] at h; cases h
    | true =>
      rw [hb] at h
      have h1 : a.toNat = b.toNat := by rw [Nat.beq_eq] at hb; exact hb
      rw [UInt8.toNat_inj.1 h1, bytesEq_eq h]
def veqM0 : Value → Value → Bool
  | .string a, .string b => bytesEq a.data.toList b.data.toList
  | a, b => veq0 a b
theorem veqM0_eq {a b : Value} (h : veqM0 a b = true) : a = b := by
  unfold veqM0 at h
  split at h
  · rename_i x y
    have := bytesEq_eq h
    congr 1
    apply ByteArray.ext
    rw [← Array.toArray_toList (xs := x.data), this, Array.toArray_toList]
  · exact veq0_eq h
def veqsM0 : List Value → List Value → Bool
  | [], [] => true
  | a :: l, b :: m => cond (veqM0 a b) (veqsM0 l m) false
  | _, _ => false
theorem veqsM0_eq : ∀ {l m : List Value}, veqsM0 l m = true → l = m
  | [], [], _ => rfl
  | [], _ :: _, h => by simp [veqsM0] at h
  | _ :: _, [], h => by simp [veqsM0] at h
  | a :: l, b :: m, h => by
    simp only [veqsM0] at h
    cases hb : veqM0 a b with
    | false => rw [hb] at h; cases h
    | true => rw [hb] at h; rw [veqM0_eq hb, veqsM0_eq h]
def veqM : Value → Value → Bool
  | .agg a, .agg b => veqsM0 a.toList b.toList
  | a, b => veqM0 a b
theorem veqM_eq {a b : Value} (h : veqM a b = true) : a = b := by
  unfold veqM at h
  split at h
  · rename_i x y
    rw [← Array.toArray_toList (xs := x), veqsM0_eq h, Array.toArray_toList]
  · exact veqM0_eq h
def veqsM : List Value → List Value → Bool
  | [], [] => true
  | a :: l, b :: m => cond (veqM a b) (veqsM l m) false
  | _, _ => false
theorem veqsM_eq : ∀ {l m : List Value}, veqsM l m = true → l = m
  | [], [], _ => rfl
  | [], _ :: _, h => by simp [veqsM] at h
  | _ :: _, [], h => by simp [veqsM] at h
  | a :: l, b :: m, h => by
    simp only [veqsM] at h
    cases hb : veqM a b with
    | false => rw [hb] at h; cases h
    | true => rw [hb] at h; rw [veqM_eq hb, veqsM_eq h]

/-! ## Known calls -/
def memoGet : List (List Value × Value) → List Value → Option Value
  | [], _ => none
  | (a, v) :: r, l => cond (veqsM a l) (some v) (memoGet r l)
def memoC (tab : List (List Value × Value)) : CallF := fun _ args σ => match memoGet tab args.toList with
  | some v => some (v, σ)
  | none => none
theorem memoC_ok {P : Program} {gl : List Nat} {f : FuncId} {tab : List (List Value × Value)} (h : ∀ x ∈ tab, ∀ σ, SimF P gl f x.1.toArray σ x.2 σ) : ∀ args σ v σ', memoC tab f args σ = some (v, σ') → SimF P gl f args σ v σ' := by
  intro args σ v σ' e
  have key : ∀ (t : List (List Value × Value)) (l : List Value), (∀ x ∈ t, ∀ σ, SimF P gl f x.1.toArray σ x.2 σ) → memoGet t l = some v → ∀ σ, SimF P gl f l.toArray σ v σ := by
    intro t
    induction t with
    | nil => intro l _ e; cases e
    | cons x t ih =>
      obtain ⟨a, u⟩ := x
      intro l ht e
      simp only [memoGet] at e
      cases hb : veqsM a l with
      | true =>
        rw [hb] at e
        cases e
        have := veqsM_eq hb
        subst this
        exact ht _ List.mem_cons_self
      | false => rw [hb] at e; exact ih l (fun x hx => ht x (List.mem_cons_of_mem _ hx)) e
  unfold memoC at e
  split at e
  · rename_i u hu
    cases e
    have := key tab args.toList h hu σ
    rwa [Array.toArray_toList] at this
  · cases e

/-- A known call, from one run in the empty state. -/
theorem known_call {P : Program} {call : CallF} (hc : call.ok P []) {f : FuncId} {args : List Value} {v : Value} {next : Nat} (h : (call f args.toArray { heap := .nil, fams := .nil, next := next }).map (·.1) = some v) (ha : args.all flatV = true) (hv : flatV v = true) : ∀ σ, SimF P [] f args.toArray σ v σ := by
  intro σ
  obtain ⟨r, hr, rfl⟩ := Option.map_eq_some_iff.1 h
  obtain ⟨v, σ0⟩ := r
  have h1 := hc _ _ _ _ _ hr
  exact SimF.everywhere (l := []) (next := next) h1 (fun x hx => by cases hx) (fun x hx => by cases hx) (by simpa using ha) hv (fun A x hx => by cases hx)

/-! ## Repeated texts -/
def repC : CallF := fun _ args σ => match args.toList with
  | [.string s, .int .i64 (.ofNat c)] => cond (Nat.ble 2 c && Nat.ble 1 s.size && Nat.ble (Nat.mul s.size c) 140737488355328 && Nat.ble c 9223372036854775807) (some (.string ⟨(Lib.repeatL s.data.toList c).toArray⟩, σ)) none
  | _ => none
theorem repC_ok {P : Program} {gl : List Nat} {f : FuncId} (h : ∀ (s : ByteArray) (c : Nat), 2 ≤ c → c ≤ 9223372036854775807 → s.size * c ≤ 140737488355328 → 0 < s.size → ∀ σ, SimF P gl f #[.string s, .int .i64 (c : Nat)] σ (.string ⟨(Lib.repeatL s.data.toList c).toArray⟩) σ) :
    ∀ args σ v σ', repC f args σ = some (v, σ') → SimF P gl f args σ v σ' := by
  intro args σ v σ' e
  unfold repC at e
  split at e
  · rename_i s c hl
    cases hb : (Nat.ble 2 c && Nat.ble 1 s.size && Nat.ble (Nat.mul s.size c) 140737488355328 && Nat.ble c 9223372036854775807) with
    | false => rw [hb] at e; cases e
    | true =>
      rw [hb] at e
      simp only [Bool.and_eq_true, Nat.ble_eq] at hb
      obtain ⟨⟨⟨h1, h2⟩, h3⟩, h4⟩ := hb
      cases e
      have : args = #[.string s, .int .i64 (.ofNat c)] := by rw [← Array.toArray_toList (xs := args), hl]
      subst this
      exact h s c h1 h4 h3 h2 σ
  · cases e
end Go.Ev
