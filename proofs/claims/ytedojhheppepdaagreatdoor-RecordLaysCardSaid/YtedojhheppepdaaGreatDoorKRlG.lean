/-
  RecordLays: the row's contract. No condition.
-/
import Derived.Test.YtedojhheppepdaaGreatDoorKRp1TOp3
import Derived.Test.YtedojhheppepdaaGreatDoorRows
import Derived.ProofKit
import Derived.Lay
import Derived.SevenTiedAt
import Derived.Stop.Joined
namespace Go.Proofs.YtedojhheppepdaaGreatDoor
open Go Go.Ev Go.ChangeShapes Go.WideShapes Go.ChangeAt Go.RowKit
set_option maxRecDepth 100000
set_option linter.unusedVariables false
theorem Kru : ownKnob Tryz.prog.godebug = none := by kernel_rfl
theorem Jtl : Tryz.f3.params = #[30] := by kernel_rfl
theorem Kbt : Tryz.f3.resultTypes = #[4] := by kernel_rfl
theorem Krr : Tryz.prog.underlying 4 = some .bool := by kernel_rfl
theorem Ksf : laidOutB Tryz.prog = true := by kernel_rfl
theorem Krt : Tryz.prog.readableRec 30 = true := by kernel_rfl
theorem Kmz : 30 < Tryz.prog.types.size := of_decide_eq_true (by kernel_rfl)
theorem Kqg : (6, (List.range 20).map fun k => Value.int .u64 ((10 ^ k : Nat) : Int)) ∈ Jr0 Tryz.prog 40 Rows.recordLaysRow.laid := List.mem_of_getElem? (i := 1) (by kernel_rfl)
theorem Ksg : 6 < Tryz.prog.globals.size := of_decide_eq_true (by kernel_rfl)
theorem Krq : (((begin Tryz.prog (fun _ _ => 0) default).world.heap[(6 : Nat)]?).bind Obj.row?).map (·.2) = some 362 := by kernel_rfl
theorem Kse : ∃ zero, ((begin Tryz.prog (fun _ _ => 0) default).world.heap[(6 : Nat)]?).bind Obj.row? = some (zero, 362) := by
  have h := Krq
  cases hb : ((begin Tryz.prog (fun _ _ => 0) default).world.heap[(6 : Nat)]?).bind Obj.row? with
  | none => rw [hb] at h; cases h
  | some x => rw [hb] at h; obtain ⟨z, t⟩ := x; cases h; exact ⟨z, rfl⟩
theorem Kqd {W : World} (hm : laidMet Tryz.prog Rows.recordLaysRow.laid W) : ∀ y ∈ tabW, ∃ t fr, W.heap[y.1]? = some (.cells y.2.toArray t fr) := by
  intro y hy
  simp only [tabW, List.mem_singleton] at hy
  subst hy
  exact (Jpf (f := 40) hm _ Kqg).1
theorem rl_6 {W : World} (h : W.ShapedOpen Tryz.prog) : ∃ c fr, W.heap[(6 : Nat)]? = some (.cells c 362 fr) := by
  obtain ⟨zero, hz⟩ := Kse
  obtain ⟨cs, h1, _⟩ := h.1 6 zero 362 Ksg hz
  exact ⟨cs, _, h1⟩
theorem Km1 {H : Type} {enc : TypeId × Value → H} (W : World) (base : Nat) (v : Value) (d : DataW H) (p : List MemPlace) (hsh : W.ShapedOpen Tryz.prog) (hm : laidMet Tryz.prog Rows.recordLaysRow.laid W) (hok : Value.okWide Tryz.prog W .any base 30 v)
    (ht : DataW.Trod enc Tryz.prog W 0 (fun _ => true) true 30 v d p) : Calls Tryz.prog 3 #[v] W fun e W' => e = .returned (.bool true) ∧ Below W.heap.size W W' := by
  obtain ⟨r, s, X, l, h1, h2, h3, h4, h5⟩ := Jsq (rl_6 hsh) (Kqd hm) hok ht
  obtain ⟨σ', hs⟩ := Jka r s (Jke l) (Kao l) h2 h3
  refine (hs (Jh0 X) W #[v] (fun b hb => by simp at hb) h4 ⟨rfl, fun i hi hi' => ?_⟩).mono ?_
  · have : i = 0 := by simp at hi; omega
    subst this
    exact h1
  · rintro e w' ⟨v', g', rfl, hv, hr, hx⟩
    cases hv
    exact ⟨rfl, hx.os, hx.tape, hx.out, hx.size, fun k hk => hx.keep k hk fun A x hA _ => h5 A x hA⟩
theorem Kqf (os : Os) : laidMetH Tryz.prog Rows.recordLaysRow.laid ((World.laidAll Tryz.prog os Rows.recordLaysRow.laid).forCall (fun _ _ => 0) ⟨#[], #[], []⟩).memory := by
  rw [MakeChecks.laidMetH_plain _ _ _ (by kernel_rfl)]
  exact laidMet_laidAll _ (by kernel_rfl) (by kernel_rfl)
theorem Ken (os : Os) (started : os.Started) (H : Type) (enc : TypeId × Value → H) :
    ReturnsInHanded {} Tryz.checked os 3 .any (fun w args => (Rows.recordLaysSpec.pre enc Tryz.prog Tryz.f3 [] false w args ∧ laidMetH Tryz.prog Rows.recordLaysRow.laid w) ∧ sizedMet enc Tryz.prog Tryz.f3 (OpenSpec.ofChange Rows.recordLaysSpec) false w args)
      (Rows.recordLaysSpec.post enc Tryz.prog Tryz.f3 false true false false) := by
  exact Jrt (C := Tryz.checked) (t := 30) (tb := 4) (laid := Rows.recordLaysRow.laid) Kru started (by kernel_rfl) Tryz.func3 Jtl Kbt Krr rfl (fun d => rfl) (by kernel_rfl) Ksf Krt Kmz (fun W base v d p => Km1 W base v d p)
    (ChangeSpec.witness_shaped (enc := enc) (C := Tryz.checked) (os := os) (X := fun w _ => laidMetH Tryz.prog Rows.recordLaysRow.laid w) false (World.laidAll Tryz.prog os Rows.recordLaysRow.laid)
      #[.agg ⟨[.int .u8 0, .int .u32 0, .int .i64 0, .string ⟨#[]⟩, .string ⟨#[]⟩, .slice none 0 0, .string ⟨#[]⟩, .slice none 0 0, .slice none 0 0, .slice none 0 0, .int .u8 0, .int .i64 0, .int .u32 0]⟩] 8 (World.laidAll_os _ _ _)
      (World.shaped_of_ZipB (by kernel_rfl) (by kernel_rfl)) (by kernel_rfl) (by kernel_rfl) (by kernel_rfl) (Kqf os))
end Go.Proofs.YtedojhheppepdaaGreatDoor
