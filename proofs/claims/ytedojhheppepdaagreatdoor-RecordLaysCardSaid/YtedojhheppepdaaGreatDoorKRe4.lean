/-
  Literals, plainly: the document's way and the code's are one. No condition.
-/
import Derived.Test.YtedojhheppepdaaGreatDoorKRe3
namespace Go.Proofs
open Go Go.Ev
set_option maxRecDepth 100000
set_option linter.unusedSimpArgs false
set_option linter.unusedVariables false
theorem Jjb {c : UInt8} (h : digU c = true) : UInt8.ofNat (48 + (c.toNat - 48)) = c := by
  have := Jga h
  rw [show 48 + (c.toNat - 48) = c.toNat from by omega, UInt8.ofNat_toNat]
theorem Jrd {u : Nat} (h : u < 10) : Lib.decDigits u = [UInt8.ofNat (48 + u)] := by rw [Lib.decDigits, dif_pos h]
theorem Kbb {u : Nat} (h : ¬ u < 10) : Lib.decDigits u = Lib.decDigits (u / 10) ++ [UInt8.ofNat (48 + u % 10)] := by rw [Lib.decDigits, dif_neg h]
theorem Krw (p : List UInt8) : octR p = Jf8 p := by
  unfold octR Jf8
  cases hn : Jjn p with
  | false => rfl
  | true =>
  by_cases h256 : numU p < 256
  case neg => rw [decide_eq_false (show ¬ numU p ≤ 255 by omega), decide_eq_false h256]; rfl
  rw [decide_eq_true (show numU p ≤ 255 by omega), decide_eq_true h256]
  simp only [Bool.true_and]
  simp only [Jjn, Bool.and_eq_true, decide_eq_true_eq] at hn
  obtain ⟨⟨h0, h3⟩, hd⟩ := hn
  rw [Bool.eq_iff_iff, decide_eq_true_eq]
  match p with
  | [] => simp at h0
  | [a] =>
    have ha : digU a = true := by simpa using hd
    have hb := Jga ha
    have hnum : numU [a] = a.toNat - 48 := by simp [numU]
    rw [hnum, Jrd (by omega), Jjb ha]
    simp [Jpc]
  | [a, b] =>
    have hd' : digU a = true ∧ digU b = true := by simpa using hd
    obtain ⟨ha, hb⟩ := hd'
    have la := Jga ha
    have lb := Jga hb
    have hnum : numU [a, b] = 10 * (a.toNat - 48) + (b.toNat - 48) := by simp [numU]
    have hz : Jpc [a, b] = decide (a.toNat = 48) := by simp [Jpc]
    rw [hnum, hz]
    by_cases h : a.toNat = 48
    · rw [decide_eq_true h, Jrd (by omega)]
      simp
    · rw [decide_eq_false h, Kbb (by omega), show (10 * (a.toNat - 48) + (b.toNat - 48)) / 10 = a.toNat - 48 from by omega, show (10 * (a.toNat - 48) + (b.toNat - 48)) % 10 = b.toNat - 48 from by omega, Jrd (by omega), Jjb ha, Jjb hb]
      simp
  | [a, b, c] =>
    have hd' : digU a = true ∧ digU b = true ∧ digU c = true := by simpa using hd
    obtain ⟨ha, hb, hc⟩ := hd'
    have la := Jga ha
    have lb := Jga hb
    have lc := Jga hc
    have hnum : numU [a, b, c] = 10 * (10 * (a.toNat - 48) + (b.toNat - 48)) + (c.toNat - 48) := by simp [numU]
    have hz : Jpc [a, b, c] = decide (a.toNat = 48) := by simp [Jpc]
    rw [hnum, hz]
    by_cases h : a.toNat = 48
    · rw [decide_eq_true h]
      by_cases hbz : b.toNat = 48
      · rw [Jrd (by omega)]
        simp
      · rw [Kbb (by omega), Jrd (by omega)]
        simp
    · rw [decide_eq_false h, Kbb (by omega), show (10 * (10 * (a.toNat - 48) + (b.toNat - 48)) + (c.toNat - 48)) / 10 = 10 * (a.toNat - 48) + (b.toNat - 48) from by omega, show (10 * (10 * (a.toNat - 48) + (b.toNat - 48)) + (c.toNat - 48)) % 10 = c.toNat - 48 from by omega, Kbb (by omega), show (10 * (a.toNat - 48) + (b.toNat - 48)) / 10 = a.toNat - 48 from by omega, show (10 * (a.toNat - 48) + (b.toNat - 48)) % 10 = b.toNat - 48 from by omega, Jrd (by omega), Jjb ha, Jjb hb, Jjb hc]
      simp
  | a :: b :: c :: d :: r => simp at h3
theorem Ji1 {l : List UInt8} : Lib.hasPrefix l [91] = (decide (0 < l.length) && decide ((l.getD 0 0).toNat = 91)) := by
  cases l with
  | nil => rfl
  | cons a t =>
    have : (a == (91 : UInt8)) = decide (a.toNat = 91) := by
      rw [Bool.eq_iff_iff, beq_iff_eq, decide_eq_true_eq]
      exact ⟨fun h => by rw [h]; rfl, fun h => by rw [← UInt8.ofNat_toNat (x := a), h]; rfl⟩
    simp only [Lib.hasPrefix, List.isPrefixOf, List.length_cons, List.getD_cons_zero]
    rw [show ((91 : UInt8) == a) = (a == 91) from by rw [Bool.eq_iff_iff, beq_iff_eq, beq_iff_eq]; exact eq_comm, this]
    simp
theorem Kr5 {l : List UInt8} (h : Lib.hasPrefix l [91] = true) : litR l = (Lib.hasSuffix (Jf0 l) [93] && Kcg (Jfk l)) := by
  have hp := h
  rw [Ji1, Bool.and_eq_true, decide_eq_true_eq, decide_eq_true_eq] at hp
  obtain ⟨hpos, h0⟩ := hp
  cases l with
  | nil => simp at hpos
  | cons a t =>
  have hi1 : Jf0 (a :: t) = t := by
    unfold Jf0 Lib.trimPrefix; rw [if_pos h]; rfl
  unfold Jfk
  rw [hi1]
  rcases List.eq_nil_or_concat t with rfl | ⟨m, z, rfl⟩
  · simp [litR, Lib.hasSuffix]
  rw [List.concat_eq_append] at h hpos h0 hi1 ⊢
  have hz : (z == (93 : UInt8)) = decide (z.toNat = 93) := by
    rw [Bool.eq_iff_iff, beq_iff_eq, decide_eq_true_eq]
    exact ⟨fun h => by rw [h]; rfl, fun h => by rw [← UInt8.ofNat_toNat (x := z), h]; rfl⟩
  have hsuf : Lib.hasSuffix (m ++ [z]) [93] = decide (z.toNat = 93) := by
    unfold Lib.hasSuffix
    rw [← hz, Bool.eq_iff_iff, List.isSuffixOf_iff_suffix, beq_iff_eq]
    constructor
    · rintro ⟨q, hq⟩
      have := (List.append_inj' hq rfl).2
      simpa using this.symm
    · rintro rfl; exact ⟨m, rfl⟩
  have hmid : midL (a :: (m ++ [z])) = m := by
    unfold midL
    rw [show (a :: (m ++ [z])).length - 1 = (a :: m).length from by simp, show (a :: (m ++ [z])) = (a :: m) ++ [z] from rfl, List.take_left]
    rfl
  have hlast : (a :: (m ++ [z])).getD ((a :: (m ++ [z])).length - 1) 0 = z := by
    rw [show (a :: (m ++ [z])).length - 1 = (a :: m).length from by simp, show (a :: (m ++ [z])) = (a :: m) ++ [z] from rfl]
    simp [List.getD]
  unfold litR
  rw [hmid, hlast, hsuf, decide_eq_true h0, decide_eq_true (show 2 ≤ (a :: (m ++ [z])).length by simp)]
  by_cases hz2 : z.toNat = 93
  case neg => rw [decide_eq_false hz2]; simp
  have htr : Lib.trimSuffix (m ++ [z]) [93] = m := by
    unfold Lib.trimSuffix
    rw [hsuf, decide_eq_true hz2, if_pos rfl]
    simp
  rw [decide_eq_true hz2, htr]
  simp only [Bool.true_and]
  unfold Kcg
  have h1 := Jhh m
  have h2 : decide ((Ja0 m).length = 4) = decide (Lib.countByte m 46 = 3) := by congr 1; exact propext (by omega)
  rw [h2, show octR = Jf8 from funext Krw]
end Go.Proofs
