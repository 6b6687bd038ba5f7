/-
  The evaluator and the contracts, merged out of 12 texts (Ev13 to Ev23). No condition.
-/
import Derived.Test.YtedojhheppepdaaGreatDoorKEv1TEv12
import Derived.LaidLaws
import Derived.LaidSub
import Derived.Handed
import Derived.Below
import Derived.ProofKit
import Derived.Stop.Joined
import Derived.WalkKit

namespace Go.Ev
open Go
set_option linter.unusedVariables false
set_option linter.unusedSimpArgs false

/-- A new block's abstract object, and the world's own. -/
def NewSays (g : Gam) (n : Nat) : AObj → Obj → Prop
  | .cells own ver fam c, ob => own = true ∧ ∃ cs el fr, ob = .cells cs el fr ∧ cs.size = n ∧ (∀ i (h : i < c.length), ∃ v', cs[i]? = some v' ∧ VRel g c[i] v') ∧ ∀ i, i < n → ¬ (fr.1 ≤ i ∧ i < fr.2)
  | .iter s pos, ob => ob = .stringIter s pos
  | .map es clock, ob => ∃ es', ob = .map es' clock ∧ MRel g es es'
theorem NewSays.mono {g g' : Gam} (hg : Gam.le g g') {n : Nat} {ao : AObj} {ob : Obj} (h : NewSays g n ao ob) : NewSays g' n ao ob := by
  cases ao with
  | cells own ver fam c =>
    obtain ⟨h1, cs, el, fr, h2, h3, h4, h5⟩ := h
    exact ⟨h1, cs, el, fr, h2, h3, fun i hi => let ⟨v', a, b⟩ := h4 i hi; ⟨v', a, b.mono hg⟩, h5⟩
  | iter s pos => exact h
  | map es clock => obtain ⟨es', h1, h2⟩ := h; exact ⟨es', h1, h2.mono hg⟩
theorem NewSays.says {g : Gam} {n b : Nat} {ao : AObj} {ob : Obj} (h : NewSays g n ao ob) (σ : St) {w : World} (hb : w.heap[b]? = some ob) : OSays g σ w ⟨b, 0, n⟩ ao := by
  cases ao with
  | cells own ver fam c =>
    obtain ⟨h1, cs, el, fr, rfl, h3, h4, h5⟩ := h
    exact ⟨cs, el, fr, hb, h3, fun _ i hi => by simpa using h4 i hi, fun _ => h5⟩
  | iter s pos => subst h; exact ⟨rfl, hb⟩
  | map es clock => obtain ⟨es', rfl, h2⟩ := h; exact ⟨es', hb, h2⟩

/-- What an operation that makes one block does. -/
def AllocOk (P : Program) (ρ : Operand → Value) (o : Oper) (id : Nat) (v : Value) (ao : AObj) : Prop :=
  (∀ σ, evalOp P ρ id o σ = some (.val v (σ.set id ao))) ∧ (∀ own ver F c, ao = .cells own ver F c → F = id) ∧
  ∀ (g : Gam) (ρ' : Operand → Value) (w : World), (∀ x ∈ o.op.operands, VRel g (ρ x) (ρ' x)) → ∃ (ob : Obj) (n : Nat) (v' : Value) (w1 : World), w1.heap = w.heap ∧ w1.os = w.os ∧ w1.output = w.output ∧ w1.tape = w.tape ∧
    (execOp ρ' o).run P w = .ok (.value v') (newW w1 ob) ∧ (∀ g' : Gam, Gam.le g g' → g' id = some ⟨w.heap.size, 0, n⟩ → VRel g' v v') ∧ NewSays g n ao ob

theorem newSays_cells {g : Gam} {id : Nat} {cs cs' : Array Value} {el : TypeId} (h : ARel g cs cs') : NewSays g cs'.size (.cells true 0 id cs.toList) (.cells cs' el) := by
  refine ⟨rfl, cs', el, (0, 0), rfl, rfl, fun i hi => ?_, fun i _ => by simp⟩
  have h1 : i < cs.size := by simpa using hi
  have h2 : i < cs'.size := by rw [← h.1]; exact h1
  exact ⟨cs'[i], by simp [h2], by simpa using h.2 i h1 h2⟩

theorem ptrTo_rel {g : Gam} {id b n : Nat} (h : g id = some ⟨b, 0, n⟩) : VRel g (ptrTo id) (.pointer (some ⟨b, 0, none⟩)) := by
  have := VRel.ptr id 0 _ h; simpa [ptrTo] using this

theorem evalFlat_flat {P : Program} {ρ : Operand → Value} {o : Oper} {σ : St} {r : ARes} (h : evalFlat P ρ o σ = some r) (x : Operand) (hx : x ∈ o.op.operands) : flatV (ρ x) = true := by
  unfold evalFlat at h
  split at h
  · rename_i hc
    simp only [Bool.and_eq_true, flatOps, List.all_eq_true] at hc
    exact hc.1 x (by simpa using hx)
  · cases h
theorem evalOp_alloc {P : Program} {ρ : Operand → Value} {id : Nat} {o : Oper} {σ : St} {r : ARes} (hcl : clsOf P o.op = .alloc) (h : evalOp P ρ id o σ = some r) : ∃ v ao, r = .val v (σ.set id ao) ∧ AllocOk P ρ o id v ao := by
  cases ho : o.op with
  | alloc elem =>
    unfold evalOp at h; rw [ho] at h
    simp only at h
    split at h
    · rename_i z hz
      cases h
      obtain ⟨z1, z2⟩ := zero?_spec hz
      refine ⟨_, _, rfl, fun σ' => by unfold evalOp; rw [ho]; simp only [hz]; rfl, fun _ _ _ _ e => by cases e; rfl, fun g ρ' w hρ => ?_⟩
      exact ⟨.cells z.cells elem, z.cells.size, .pointer (some ⟨w.heap.size, 0, none⟩), w, rfl, rfl, rfl, rfl, by simp [execOp, ho, Instr.alloc, rZ w z1, newVar, newRow_run], fun g' _ hg => ptrTo_rel hg, newSays_cells (ARel.refl_flat z2)⟩
    · cases h
  | box elem x =>
    unfold evalOp at h; rw [ho] at h
    cases h
    refine ⟨_, _, rfl, fun σ' => by unfold evalOp; rw [ho]; rfl, fun _ _ _ _ e => by cases e; rfl, fun g ρ' w hρ => ?_⟩
    rw [ho] at hρ
    exact ⟨.cells (ρ' x).cells elem, (ρ' x).cells.size, .pointer (some ⟨w.heap.size, 0, none⟩), w, rfl, rfl, rfl, rfl, by simp [execOp, ho, Instr.box, newVar, newRow_run], fun g' _ hg => ptrTo_rel hg, newSays_cells (hρ x (by simp [Op.operands])).cells⟩
  | buildSlice t len parts =>
    unfold evalOp at h; rw [ho] at h
    have h0 := h
    simp only [opBuildSlice] at h
    split at h
    · rename_i elem hu
      split at h
      · rename_i n hn
        split at h
        · rename_i hle
          split at h
          · rename_i z hz
            split at h
            · rename_i cells hf
              split at h
              · rename_i hcs
                cases h
                refine ⟨_, _, rfl, fun σ' => ?_, fun _ _ _ _ e => by cases e; rfl, fun g ρ' w hρ => ?_⟩
                · unfold evalOp; rw [ho]; simp only [opBuildSlice, hu, hn, if_pos hle, hz, hf, if_pos hcs]; rfl
                · rw [ho] at hρ
                  have hzr : ARel g (zrow z (len * n)) (zrow z (len * n)) := by
                    split at hz
                    · cases hz; exact zrow_rel ⟨rfl, fun i h => by simp at h⟩ _ (.inr (by assumption))
                    · rename_i hne
                      obtain ⟨v, h1, h2, h3, h4⟩ := zcells?_spec hz
                      exact zrow_rel (h4 g) _ (.inl (by rw [h3]; intro e; subst e; simp at hne))
                  obtain ⟨r', f', hr'⟩ := fill_ok (parts.map fun (p : Nat × Operand) => (p.1, ρ p.2)).toList (parts.map fun (p : Nat × Operand) => (p.1, ρ' p.2)).toList _ _ cells hf hzr (by simp) (fun i h1 h2 => by
                    have hi : i < parts.size := by simpa using h1
                    simp only [Array.toList_map, List.getElem_map]
                    refine ⟨trivial, hρ _ ?_⟩
                    simp only [Op.operands, List.mem_toArray, List.mem_map]
                    exact ⟨parts[i], by simp, by simp⟩)
                  refine ⟨.cells r' elem, r'.size, .slice (some ⟨w.heap.size, 0, none⟩) len len, w, rfl, rfl, rfl, rfl, ?_, fun g' hg hg2 => sliceTo_rel hg2 (Nat.le_refl _) (by rw [← hr'.1, hcs]; exact Nat.le_refl _), newSays_cells hr'⟩
                  have hgt : ¬ len * n > 2 ^ 24 := by omega
                  have f'' : Instr.fill (fun i => some (i * n, n)) (Array.map (fun x => z[x % z.size]!) (Array.range (len * n))) (parts.map fun (p : Nat × Operand) => (p.1, ρ' p.2)).toList = some r' := f'
                  simp only [execOp, ho]
                  by_cases e0 : len * n = 0
                  · rw [if_pos e0] at hz
                    cases hz
                    simp only [Instr.buildSlice, Sem.run_bind, rU w hu, Result.andThen_ok, rS w hn, if_neg hgt, if_pos e0, Sem.run_pure, f'', newRow_run]
                  · rw [if_neg e0] at hz
                    obtain ⟨v, h1, h2, h3, h4⟩ := zcells?_spec hz
                    simp only [Instr.buildSlice, Sem.run_bind, rU w hu, Result.andThen_ok, rS w hn, if_neg hgt, if_neg e0, rZ w h1, h2, Sem.run_pure, f'', newRow_run]
              · cases h
            · cases h
          · cases h
        · cases h
      · cases h
    · cases h
  | makeSlice t l c =>
    unfold evalOp at h; rw [ho] at h
    simp only [opMakeSlice] at h
    split at h
    · rename_i elem k n k2 m hu hl hc
      split at h
      · rename_i i hi
        split at h
        · rename_i hcc
          split at h
          · rename_i z hz
            cases h
            refine ⟨_, _, rfl, fun σ' => ?_, fun _ _ _ _ e => by cases e; rfl, fun g ρ' w hρ => ?_⟩
            · unfold evalOp; rw [ho]; simp only [opMakeSlice, hl, hc, hu, hi, if_pos hcc, hz]; rfl
            · rw [ho] at hρ
              have hl' := hρ l (by simp [Op.operands])
              have hc' := hρ c (by simp [Op.operands])
              rw [hl] at hl'; rw [hc] at hc'
              obtain ⟨y1, hy1⟩ : ∃ y, y = ρ' l := ⟨_, rfl⟩
              obtain ⟨y2, hy2⟩ : ∃ y, y = ρ' c := ⟨_, rfl⟩
              rw [← hy1] at hl'; rw [← hy2] at hc'
              cases hl'; cases hc'
              simp only [Bool.and_eq_true, decide_eq_true_eq] at hcc
              obtain ⟨⟨c1, c2⟩, c3⟩ := hcc
              have hs : sz? P elem = some i.size := by simp [sz?, hi]
              have hzr : ARel g (zrow z (m * i.size)) (zrow z (m * i.size)) := by
                split at hz
                · cases hz; exact zrow_rel ⟨rfl, fun i h => by simp at h⟩ _ (.inr (by assumption))
                · rename_i hne
                  obtain ⟨v, h1, h2, h3, h4⟩ := zcells?_spec hz
                  exact zrow_rel (h4 g) _ (.inl (by rw [h3]; intro e; rw [e] at hne; simp at hne))
              have hsz : (zrow z (m * i.size)).size = m * i.size := by simp [zrow]
              refine ⟨.cells (zrow z (m * i.size)) elem, (zrow z (m * i.size)).size, .slice (some ⟨w.heap.size, 0, none⟩) n m, w, rfl, rfl, rfl, rfl, ?_, fun g' hg hg2 => sliceTo_rel hg2 c1 (by rw [hsz]; exact Nat.le_refl _), newSays_cells hzr⟩
              have w1 := wrap_id c2
              have w2 := wrap_id (n := n) (by omega)
              have t1 : ¬ ((m : Int) < 0) := by omega
              have t2 : ¬ ((i.bytes : Int) * (m : Int) > 2 ^ 48) := by rw [← Int.natCast_mul]; omega
              have t3 : ¬ ((n : Int) > (m : Int)) := by omega
              have t4 : ¬ ((n : Int) < 0) := by omega
              simp only [execOp, ho, ← hy1, ← hy2, Int.ofNat_eq_natCast]
              simp only [Instr.makeSlice, Sem.run_bind, rU w hu, Result.andThen_ok, asInt, asIntOf, Sem.run_pure, rT w hi, w1, w2, rS w hs, run_askRoom]
              simp only [t1, t2, t3, t4, decide_false, Bool.or_self, Bool.or_false, Bool.false_eq_true, if_false, Sem.run_pure, Result.andThen_ok, Int.toNat_natCast, Sem.run_bind, run_askRoom, rS w hs]
              have e1' : (newRow elem ((Array.range (m * i.size)).map (z[· % z.size]!))).run P w = .ok ⟨w.heap.size, 0, none⟩ (newW w (.cells (zrow z (m * i.size)) elem)) := newRow_run w elem _
              by_cases e0 : m * i.size = 0
              · rw [if_pos e0] at hz
                cases hz
                simp only [if_pos e0, Sem.run_pure, Result.andThen_ok, Sem.run_bind, e1']
              · rw [if_neg e0] at hz
                obtain ⟨v, h1, h2, h3, h4⟩ := zcells?_spec hz
                simp only [if_neg e0, Sem.run_bind, rZ w h1, Result.andThen_ok, h2, Sem.run_pure, e1']
          · cases h
        · cases h
      · cases h
    · cases h
  | range t x =>
    unfold evalOp at h; rw [ho] at h
    simp only [opRange] at h
    split at h
    · rename_i s hu hx
      cases h
      refine ⟨_, _, rfl, fun σ' => by unfold evalOp; rw [ho]; simp only [opRange, hu, hx], fun _ _ _ _ e => (by cases e), fun g ρ' w hρ => ?_⟩
      rw [ho] at hρ
      have hx' := hρ x (by simp [Op.operands])
      rw [hx] at hx'
      obtain ⟨y, hy⟩ : ∃ y, y = ρ' x := ⟨_, rfl⟩
      rw [← hy] at hx'
      cases hx'
      exact ⟨.stringIter s 0, 0, .pointer (some ⟨w.heap.size, 0, none⟩), w, rfl, rfl, rfl, rfl, by simp [execOp, ho, ← hy, Instr.range, rU w hu, newW], fun g' _ hg => ptrTo_rel hg, rfl⟩
    · cases h
  | convert src dst x =>
    rw [ho] at hcl
    have hk : P.underlying src = some .string ∧ ∃ e, P.underlying dst = some (.slice e) ∧ P.underlying e = some (.int .u8) := by
      unfold clsOf clsConv at hcl
      simp only at hcl
      split at hcl
      · rename_i h1
        split at hcl
        · rename_i e h2
          split at hcl
          · rename_i h3; exact ⟨h1, e, h2, h3⟩
          · cases hcl
        · cases hcl
      · split at hcl <;> cases hcl
      · cases hcl
    obtain ⟨h1, e, h2, h3⟩ := hk
    have h0 := h
    unfold evalOp at h; rw [ho] at h
    simp only at h
    cases hx : ρ x with
    | string s =>
      have hcv : ∀ σ', opConvert P src dst id (ρ x) σ' = some (.val (sliceTo id s.size 1) (σ'.set id (.cells true 0 id (bytesOf s)))) := fun σ' => by
        simp only [opConvert, h1, h2, hx, h3]
      rw [hcv σ] at h
      cases h
      refine ⟨_, _, rfl, fun σ' => by unfold evalOp; rw [ho]; simp only [hcv σ'], fun _ _ _ _ e => by cases e; rfl, fun g ρ' w hρ => ?_⟩
      rw [ho] at hρ
      have hx' := hρ x (by simp [Op.operands])
      rw [hx] at hx'
      obtain ⟨y, hy⟩ : ∃ y, y = ρ' x := ⟨_, rfl⟩
      rw [← hy] at hx'
      cases hx'
      obtain ⟨cap, ecap⟩ : ∃ c, c = (Question.appendCap s.size 0 e).cut (w.tape w.drawn (.appendCap s.size 0 e)) := ⟨_, rfl⟩
      have hcap : s.size ≤ cap := by rw [ecap]; simp only [Question.cut]; omega
      obtain ⟨cs, ecs⟩ : ∃ c : Array Value, c = (s.data.map fun b => Value.int .u8 b.toNat) ++ Array.replicate (cap - s.size) (.int .u8 0) := ⟨_, rfl⟩
      have hds : s.data.size = s.size := rfl
      have hcs : cs.size = cap := by rw [ecs]; simp [hds]; omega
      refine ⟨.cells cs e (cs.size, cs.size + 1), cs.size, .slice (some ⟨w.heap.size, 0, none⟩) s.size cap, drawW w, rfl, rfl, rfl, rfl, ?_, fun g' _ hg => sliceTo_rel hg hcap (by rw [hcs]; omega), rfl, cs, e, _, rfl, rfl, fun i hi => ?_, fun i hi => by simp only; omega⟩
      · have hb : (drawW w).heap.size = w.heap.size := rfl
        have hq : (Question.appendCap s.size 0 e).forced = false := rfl
        have hrow := newRow_run (P := P) (drawW w) e cs
        have hfz := freeze_new (drawW w) cs e
        have hsh := shape_new (drawW w) cs e
        rw [hb] at hrow hfz hsh
        have hdraw : ({ w with drawn := w.drawn + 1 } : World) = drawW w := rfl
        simp only [execOp, ho, ← hy, convert, Sem.run_bind, rU w h1, rU w h2, rU w h3, Result.andThen_ok, Conv.stringToBytes, run_choose, hq, Bool.false_eq_true, if_false, hdraw, ← ecap, ← ecs, hrow]
        simp only [markStringish, Sem.run_bind, run_shape, hsh, run_freeze, hfz, Sem.run_pure, Result.andThen_ok]
      · have hi' : i < s.data.size := by simpa [bytesOf] using hi
        refine ⟨.int .u8 (s.data[i]).toNat, ?_, ?_⟩
        · rw [ecs, Array.getElem?_append_left (by simpa using hi')]
          simp only [Array.getElem?_map, Array.getElem?_eq_getElem hi', Option.map_some]
        · have : (bytesOf s)[i] = .int .u8 (s.data[i]).toNat := by simp [bytesOf, byteV]
          rw [this]; exact .int _ _
    | _ =>
      exfalso
      have hcv : opConvert P src dst id (ρ x) σ = none := by simp only [opConvert, h1, h2, hx]
      rw [hcv] at h
      obtain ⟨v, _, _, k3⟩ := evalFlat_pure h
      obtain ⟨v', e1, _⟩ := k3 (fun _ => none) ρ default (fun y hy => flatV_rel (evalFlat_flat h y hy))
      simp [execOp, ho, convert, rU _ h1, rU _ h2, hx] at e1
  | makeFunc fn a b => rw [ho] at hcl; cases fn <;> simp [clsOf] at hcl
  | call c =>
    rw [ho] at hcl
    unfold clsOf at hcl
    simp only at hcl
    repeat (split at hcl)
    all_goals cases hcl
  | _ => rw [ho] at hcl; simp [clsOf] at hcl
end Go.Ev

namespace Go.Ev
open Go
set_option linter.unusedVariables false
set_option linter.unusedSimpArgs false

/-! ## Operations that read -/
theorem VRel.back {G g : Gam} {A o : Nat} {v' : Value} (h : VRel G (.pointer (some ⟨A, o, none⟩)) v') (hg : ∀ x, G A = some x → g A = some x) : VRel g (.pointer (some ⟨A, o, none⟩)) v' := by
  cases h with
  | ptr _ _ x hx => exact .ptr _ _ x (hg x hx)
theorem VRel.backS {G g : Gam} {A o n k : Nat} {v' : Value} (h : VRel G (.slice (some ⟨A, o, none⟩) n k) v') (hg : ∀ x, G A = some x → g A = some x) : VRel g (.slice (some ⟨A, o, none⟩) n k) v' := by
  cases h with
  | slice _ _ _ _ x o' c hx h1 h2 h3 h4 => exact .slice _ _ _ _ x o' c (hg x hx) h1 h2 h3 h4
theorem read?_some {σ : St} {A o n : Nat} {l : List Value} (h : σ.read? A o n = some l) : σ.get A ≠ none := fun e => by
  unfold St.read? St.cells? at h
  rw [e] at h
  cases h

theorem conv_cases {P : Program} {src dst e : TypeId} {id : Nat} {v : Value} {σ : St} {r : ARes} (h1 : P.underlying src = some (.slice e)) (h2 : P.underlying dst = some .string) (h : opConvert P src dst id v σ = some r) :
    ∃ r3, r = .val r3 σ ∧ opBytesString v σ = some r3 ∧ P.underlying e = some (.int .u8) ∧ ∃ a l c, v = .slice a l c := by
  unfold opConvert at h
  rw [h1, h2] at h
  cases v with
  | slice a l c =>
    simp only at h
    split at h
    · rename_i hu
      split at h
      · rename_i r3 hr3
        cases h
        exact ⟨r3, rfl, hr3, hu, a, l, c, rfl⟩
      · cases h
    · cases h
  | _ => cases h

/-- What an operation that reads does: its value is the same whatever name it would be given; in a world that stands to the state it gives just that, whatever else the operands' names stand for. -/
theorem evalOp_read {P : Program} {ρ : Operand → Value} {id : Nat} {o : Oper} {σ : St} {r : ARes} (hcl : clsOf P o.op = .read) (h : evalOp P ρ id o σ = some r) :
    ∃ v, r = .val v σ ∧ ∀ (g G : Gam) (ρ' : Operand → Value) (w : World), Rel g σ w → (∀ A x, G A = some x → σ.get A ≠ none → g A = some x) → (∀ x ∈ o.op.operands, VRel G (ρ x) (ρ' x)) →
      ∃ v', (execOp ρ' o).run P w = .ok (.value v') w ∧ VRel g v v' := by
  cases ho : o.op with
  | load t a =>
    unfold evalOp at h; rw [ho] at h
    obtain ⟨v, hv, rfl⟩ := valOf_pure h
    refine ⟨v, rfl, fun g G ρ' w hr hG hρ => ?_⟩
    have ha := hρ a (by simp [Op.operands])
    have hb : VRel g (ρ a) (ρ' a) := by
      have hv2 := hv
      unfold opLoad at hv2
      split at hv2
      · rename_i A o2 he
        rw [he] at ha ⊢
        refine ha.back fun x hx => hG A x hx ?_
        split at hv2
        · split at hv2
          · rename_i l hl; exact read?_some hl
          · cases hv2
        · split at hv2
          · rename_i l hl; exact read?_some hl
          · cases hv2
        · cases hv2
      · cases hv2
    obtain ⟨v', e, hv'⟩ := opLoad_ok (P := P) hv hr hb
    exact ⟨v', by simp only [execOp, ho, Sem.run_bind, e, Result.andThen_ok, Sem.run_pure], hv'⟩
  | convert src dst x =>
    rw [ho] at hcl
    have hk : (∃ e, P.underlying src = some (.slice e)) ∧ P.underlying dst = some .string := by
      unfold clsOf clsConv at hcl
      simp only at hcl
      split at hcl
      · split at hcl
        · split at hcl <;> cases hcl
        · cases hcl
      · rename_i e h1
        split at hcl
        · rename_i h2; exact ⟨⟨e, h1⟩, h2⟩
        · cases hcl
      · cases hcl
    obtain ⟨⟨e, h1⟩, h2⟩ := hk
    unfold evalOp at h; rw [ho] at h
    simp only at h
    split at h
    · rename_i r2 hr2
      cases h
      obtain ⟨r3, rfl, hr3, hu8, a, l, c, hx⟩ := conv_cases h1 h2 hr2
      refine ⟨_, rfl, fun g G ρ' w hr hG hρ => ?_⟩
      have ha := hρ x (by simp [Op.operands])
      have hrun : ∀ v', (Conv.bytesToString (ρ' x)).run P w = .ok v' w → (execOp ρ' o).run P w = .ok (.value v') w := by
        intro v' e1
        rw [hx] at ha
        obtain ⟨y, hy⟩ : ∃ y, y = ρ' x := ⟨_, rfl⟩
        rw [← hy] at ha e1
        cases ha <;> simp [execOp, ho, ← hy, convert, rU w h1, rU w h2, rU w hu8, e1]
      by_cases hl : l = 0 ∨ a = none
      · have hs : r3 = .string ⟨#[]⟩ ∧ ∃ v', (Conv.bytesToString (ρ' x)).run P w = .ok v' w ∧ v' = .string ⟨#[]⟩ := by
          rw [hx] at ha hr3
          obtain ⟨y, hy⟩ : ∃ y, y = ρ' x := ⟨_, rfl⟩
          rw [← hy] at ha ⊢
          unfold opBytesString at hr3
          split at hr3
          · rename_i heq
            cases heq
            cases hr3
            cases ha
            exact ⟨rfl, .string ⟨#[]⟩, by simp [Conv.bytesToString]; rfl, rfl⟩
          · rename_i A o2 l2 c2 heq
            cases heq
            cases ha; rename_i x2 o' c3 q1 q2 q3 q4 q5
            have hl0 : l = 0 := by rcases hl with hl | hl; exact hl; cases hl
            subst hl0
            rw [if_pos rfl] at hr3
            cases hr3
            have := run_bytesToString (P := P) w ⟨x2.block, o', none⟩ 0 c3 [] (by simp [loadCells, loadCellsFrom])
            exact ⟨rfl, _, this, rfl⟩
          · cases hr3
        obtain ⟨rfl, v', e1, rfl⟩ := hs
        exact ⟨_, hrun _ e1, .string _⟩
      · have hb : VRel g (ρ x) (ρ' x) := by
          rw [hx] at ha hr3 ⊢
          unfold opBytesString at hr3
          split at hr3
          · rename_i heq; cases heq; exact (hl (.inr rfl)).elim
          · rename_i A o2 l2 c2 heq
            cases heq
            rw [if_neg (fun e => hl (.inl e))] at hr3
            refine ha.backS fun x2 hx2 => hG A x2 hx2 ?_
            split at hr3
            · rename_i l3 hl3; exact read?_some hl3
            · cases hr3
          · cases hr3
        obtain ⟨v', e1, e2⟩ := opBytesString_ok (P := P) hr3 hr hb
        exact ⟨v', hrun _ e1, e2⟩
    · obtain ⟨v, k1, k2, k3⟩ := evalFlat_pure h
      refine ⟨v, k1, fun g G ρ' w hr hG hρ => ?_⟩
      exact k3 g ρ' w fun y hy => by
        have hf := evalFlat_flat h y hy
        have := flatV_eq hf (hρ y (by rw [ho] at hy; exact hy))
        rw [this]; exact flatV_rel hf
  | makeFunc fn a b => rw [ho] at hcl; cases fn <;> simp [clsOf] at hcl
  | call c =>
    rw [ho] at hcl
    unfold clsOf at hcl
    simp only at hcl
    repeat (split at hcl)
    all_goals cases hcl
  | _ => rw [ho] at hcl; simp [clsOf] at hcl

/-! ## More blocks in the world, and installing them -/
theorem Rel.more {g : Gam} {σ : St} {w : World} (h : Rel g σ w) {w1 : World} (hw : w1.heap = w.heap) (ob : Obj) : Rel g σ (newW w1 ob) := by
  have hold : ∀ b, b < w.heap.size → (newW w1 ob).heap[b]? = w.heap[b]? := fun b hb => by rw [newW_old w1 ob b (by rw [hw]; exact hb), hw]
  refine ⟨h.wf, fun A x a => by rw [newW_size, hw]; exact Nat.lt_succ_of_lt (h.blk A x a), fun A x a => ?_, h.share, h.order⟩
  obtain ⟨o, b, c⟩ := h.obj A x a
  exact ⟨o, b, OSays.mono (Gam.le_refl g) (hold _ (h.blk A x a)) (fun _ _ _ _ _ h => h) c⟩
theorem Ext.more (N : Nat → Prop) (g : Gam) (σ : St) {w w1 : World} (hw : w1.heap = w.heap) (h1 : w1.os = w.os) (h2 : w1.output = w.output) (h3 : w1.tape = w.tape) (ob : Obj) : Ext N g g σ σ w (newW w1 ob) :=
  ⟨Gam.le_refl g, fun A x h h' => (by rw [h] at h'; cases h'), fun A x h h' => (by rw [h] at h'; cases h'), by rw [newW_size, hw]; omega, fun b hb _ => by rw [newW_old w1 ob b (by rw [hw]; exact hb), hw], fun _ _ _ => rfl, fun _ h => ⟨rfl, h⟩, Nat.le_refl _, h1, h2, h3⟩

/-- A block that the world holds already, and that no name stands for, is given a name. -/
theorem Rel.install {g : Gam} {σ : St} {w : World} (h : Rel g σ w) {id b n : Nat} {ao : AObj} {ob : Obj} (hid : σ.get id = none) (hlt : id < σ.next) (hb : w.heap[b]? = some ob) (hfree : ∀ A x, g A = some x → x.block ≠ b)
    (hf : ∀ own v F c, ao = .cells own v F c → F = id) (hs : NewSays g n ao ob) : Rel (g.add id ⟨b, 0, n⟩) (σ.set id ao) w := by
  have gid : g id = none := by
    cases e : g id with
    | none => rfl
    | some x => obtain ⟨o, ho, _⟩ := h.obj id x e; rw [hid] at ho; cases ho
  have hle := Gam.le_add (x := ⟨b, 0, n⟩) gid
  have old : ∀ A x, (g.add id ⟨b, 0, n⟩) A = some x → A ≠ id → g A = some x := fun A x e hA => by simpa [Gam.add, hA] using e
  refine ⟨h.wf.new hid hlt ao hf, ?_, ?_, ?_, ?_⟩
  · intro A x e
    by_cases hA : A = id
    · subst hA; rw [Gam.add_self] at e; cases e; exact (Array.getElem?_eq_some_iff.1 hb).1
    · exact h.blk A x (old A x e hA)
  · intro A x e
    by_cases hA : A = id
    · subst hA; rw [Gam.add_self] at e; cases e
      exact ⟨ao, by simp, (hs.mono hle).says _ hb⟩
    · obtain ⟨p, hp, hq⟩ := h.obj A x (old A x e hA)
      refine ⟨p, by simp only [St.get_set]; rw [if_neg (fun e => hA e.symm)]; exact hp, OSays.mono hle rfl ?_ hq⟩
      intro own ver fam c _ hr
      rwa [St.rd_new h.wf hid] at hr
  · intro A x A' x' e e' eb
    by_cases hA : A = id
    · by_cases hA' : A' = id
      · exact .inl (hA.trans hA'.symm)
      · subst hA; rw [Gam.add_self] at e; cases e
        exact (hfree A' x' (old A' x' e' hA') eb.symm).elim
    · by_cases hA' : A' = id
      · subst hA'; rw [Gam.add_self] at e'; cases e'
        exact (hfree A x (old A x e hA) eb).elim
      · rcases h.share A x A' x' (old A x e hA) (old A' x' e' hA') eb with h1 | ⟨F, h1, h2⟩
        · exact .inl h1
        · refine .inr ⟨F, ?_, ?_⟩
          · unfold St.fam; simp only [St.get_set]; rw [if_neg (fun e => hA e.symm)]; exact h1
          · unfold St.fam; simp only [St.get_set]; rw [if_neg (fun e => hA' e.symm)]; exact h2
  · intro X x O y F v c own c' eX eO eb hne hfo hX hO
    have hOn : O ≠ id := fun e => by
      subst e
      simp only [St.famO_set] at hfo
      obtain ⟨_, _, _, hh⟩ := h.wf.named F O hfo
      rw [hid] at hh; cases hh
    have hXn : X ≠ id := fun e => by
      subst e
      rw [Gam.add_self] at eX; cases eX
      exact (hfree O y (old O y eO hOn) eb.symm).elim
    simp only [St.get_set, St.famO_set] at hX hO hfo
    rw [if_neg (fun e => hXn e.symm)] at hX
    rw [if_neg (fun e => hOn e.symm)] at hO
    exact h.order X x O y F v c own c' (old X x eX hXn) (old O y eO hOn) eb hne hfo hX hO
end Go.Ev

namespace Go.Ev
open Go
set_option linter.unusedVariables false
set_option linter.unusedSimpArgs false
variable {Ds : List Deferred}

/-! ## What surely stands before what -/
def bit (B : List Nat) (i j : Nat) : Bool := (B.getD i 0).testBit j
def edgeBits (B : List Nat) (l : List Edge) : Nat := l.foldl (fun s e => if Region.binds .any e then s ||| 2 ^ e.on ||| B.getD e.on 0 else s) 0

theorem edgeBits_ex (B : List Nat) (j : Nat) : ∀ (l : List Edge) (s : Nat), (l.foldl (fun s e => if Region.binds .any e then s ||| 2 ^ e.on ||| B.getD e.on 0 else s) s).testBit j = true →
    s.testBit j = true ∨ ∃ e ∈ l, Region.binds .any e = true ∧ (e.on = j ∨ bit B e.on j = true)
  | [], s, h => .inl h
  | e :: l, s, h => by
    rw [List.foldl_cons] at h
    rcases edgeBits_ex B j l _ h with h1 | ⟨e', h1, h2⟩
    · split at h1
      · rename_i hb
        rw [Nat.testBit_or, Nat.testBit_or, Nat.testBit_two_pow] at h1
        simp only [Bool.or_eq_true, decide_eq_true_eq] at h1
        rcases h1 with (h1 | h1) | h1
        · exact .inl h1
        · exact .inr ⟨e, List.mem_cons_self, hb, .inl h1⟩
        · exact .inr ⟨e, List.mem_cons_self, hb, .inr h1⟩
      · exact .inl h1
    · exact .inr ⟨e', List.mem_cons_of_mem _ h1, h2⟩

/-- What a region must meet, of its text alone. -/
structure OkDraw (P : Program) (ops : Array Oper) (B : List Nat) : Prop where
  edge : ∀ i o, ops[i]? = some o → ∀ e ∈ o.after, Region.binds .any e = true → e.on < i
  ex : ∀ i o j, ops[i]? = some o → bit B i j = true → ∃ e ∈ o.after, Region.binds .any e = true ∧ (e.on = j ∨ bit B e.on j = true)
  out : ∀ i j, ops.size ≤ i → bit B i j = false
  tr : ∀ i j k, bit B i j = true → bit B j k = true → bit B i k = true
  reads : ∀ i o k ok d, ops[i]? = some o → ops[k]? = some ok → k ≠ i → ok.dst = some d → d ∈ o.looksAt ops → bit B i k = true ∨ bit B k i = true
  writes : ∀ i o k ok d, ops[i]? = some o → ops[k]? = some ok → k ≠ i → ok.dst = some d → o.dst = some d → bit B i k = true ∨ bit B k i = true
  louds : ∀ i o k ok, ops[i]? = some o → ops[k]? = some ok → k ≠ i → clsOf P o.op = .loud → clsOf P ok.op = .loud → bit B i k = true ∨ bit B k i = true

theorem OkDraw.lt {P : Program} {ops : Array Oper} {B : List Nat} (h : OkDraw P ops B) : ∀ (i j : Nat), bit B i j = true → j < i := by
  intro i
  induction i using Nat.strongRecOn with
  | _ i ih =>
    intro j hb
    have hi : i < ops.size := by
      rcases Nat.lt_or_ge i ops.size with k | k
      · exact k
      · rw [h.out i j k] at hb; cases hb
    have ho : ops[i]? = some ops[i] := Array.getElem?_eq_getElem hi
    obtain ⟨e, he, hbd, h1⟩ := h.ex i _ j ho hb
    have hlt := h.edge i _ ho e he hbd
    rcases h1 with rfl | h1
    · exact hlt
    · exact Nat.lt_trans (ih e.on hlt j h1) hlt
/-- Where all edges' ends of i have been done, so has been what surely stands before i. -/
theorem OkDraw.down {P : Program} {ops : Array Oper} {B : List Nat} (h : OkDraw P ops B) {D : Nat → Bool} (hD : ∀ i o, D i = true → ops[i]? = some o → ∀ e ∈ o.after, Region.binds .any e = true → D e.on = true) :
    ∀ (i : Nat) (o : Oper), ops[i]? = some o → (∀ e ∈ o.after, Region.binds .any e = true → D e.on = true) → ∀ j, bit B i j = true → D j = true := by
  intro i
  induction i using Nat.strongRecOn with
  | _ i ih =>
    intro o ho hall j hb
    obtain ⟨e, he, hbd, h1⟩ := h.ex i o j ho hb
    have hlt := h.edge i o ho e he hbd
    have hDe := hall e he hbd
    rcases h1 with rfl | h1
    · exact hDe
    · have hi : i < ops.size := (Array.getElem?_eq_some_iff.1 ho).1
      have ho2 : ops[e.on]? = some (ops[e.on]'(by omega)) := Array.getElem?_eq_getElem (by omega)
      exact ih e.on hlt _ ho2 (hD e.on _ hDe ho2) j h1

/-- What an operation does: as the evaluator says · as a known call · in any world the same. -/
def StepR (P : Program) (gl : List Nat) (ρ : Operand → Value) (id : Nat) (o : Oper) (σ : St) (v : Value) (σ' : St) : Prop :=
  evalOp P ρ id o σ = some (.val v σ') ∨ (∃ f args, evalOp P ρ id o σ = some (.enter f args) ∧ SimF P gl f args σ v σ') ∨
  (σ' = σ ∧ ∀ (g : Gam) (ρ' : Operand → Value) (w : World), (∀ x ∈ o.op.operands, VRel g (ρ x) (ρ' x)) → ∃ v', (execOp ρ' o).run P w = .ok (.value v') w ∧ VRel g v v') ∨
  (clsOf P o.op = .loud ∧ (σ.Wf → evalOp P ρ id o σ = some (.val v σ')))

theorem StepR.wp {P : Program} {gl : List Nat} {ρ : Operand → Value} {id : Nat} {o : Oper} {σ σ' : St} {v : Value} (h : StepR P gl ρ id o σ v σ')
    {g : Gam} {w : World} {a : Act} (hg : Glob gl g) (hr : Rel g σ w) (hid : σ.get id = none) (hlt : id < σ.next) (hρ : ∀ x ∈ o.op.operands, VRel g (ρ x) (a.eval x))
    {K : Act → World → Prop} {Q : Exit → Act → World → Prop} (k : ∀ v' w' g', VRel g' v v' → Rel g' σ' w' → Ext (fun A => A = id ∨ σ.next ≤ A) g g' σ σ' w w' → K (a.put o.dst v') w') : o.wp P a w K Q := by
  unfold Oper.wp
  rcases h with he | ⟨f, args, he, hc⟩ | ⟨rfl, hx⟩ | ⟨_, he⟩
  · obtain ⟨n, w', g', v', e, hn, hv, hr', hx⟩ := evalOp_ok he hr hid hlt hρ
    rw [e]
    have := k v' w' g' hv hr' (hx.mono fun _ h => .inl h)
    rcases hn with rfl | ⟨rfl, rfl⟩
    · exact this
    · exact this
  · obtain ⟨args', e, ha⟩ := evalOp_ok he hr hid hlt hρ
    rw [e]
    refine (hc g w args' hg hr ha).mono ?_
    rintro e w' ⟨v', g', rfl, hv, hr', hx⟩
    exact k v' w' g' hv hr' (hx.mono fun _ h => .inr h)
  · obtain ⟨v', e, hv⟩ := hx g a.eval w hρ
    rw [e]
    exact k v' w g hv hr (Ext.refl _ _ _ _)
  · obtain ⟨n, w', g', v', e, hn, hv, hr', hx⟩ := evalOp_ok (he hr.wf) hr hid hlt hρ
    rw [e]
    have := k v' w' g' hv hr' (hx.mono fun _ h => .inl h)
    rcases hn with rfl | ⟨rfl, rfl⟩
    · exact this
    · exact this

/-- What an operation that looks at no memory does in any world. -/
def PureW (P : Program) (ρ : Operand → Value) (o : Oper) (v : Value) : Prop :=
  ∀ (g : Gam) (ρ' : Operand → Value) (w : World), (∀ x ∈ o.op.operands, VRel g (ρ x) (ρ' x)) → ∃ v', (execOp ρ' o).run P w = .ok (.value v') w ∧ VRel g v v'

theorem PureW.congr {P : Program} {ρ ρ2 : Operand → Value} {o : Oper} {v : Value} (h : PureW P ρ o v) (he : ∀ x ∈ o.op.operands, ρ x = ρ2 x) : PureW P ρ2 o v :=
  fun g ρ' w hr => h g ρ' w fun x hx => by rw [he x hx]; exact hr x hx
/-- What an operation that makes one block does in any world. -/
def AllocW (P : Program) (ρ : Operand → Value) (o : Oper) (id : Nat) (v : Value) (ao : AObj) : Prop :=
  (∀ own ver F c, ao = .cells own ver F c → F = id) ∧
  ∀ (g : Gam) (ρ' : Operand → Value) (w : World), (∀ x ∈ o.op.operands, VRel g (ρ x) (ρ' x)) → ∃ (ob : Obj) (n : Nat) (v' : Value) (w1 : World), w1.heap = w.heap ∧ w1.os = w.os ∧ w1.output = w.output ∧ w1.tape = w.tape ∧
    (execOp ρ' o).run P w = .ok (.value v') (newW w1 ob) ∧ (∀ g' : Gam, Gam.le g g' → g' id = some ⟨w.heap.size, 0, n⟩ → VRel g' v v') ∧ NewSays g n ao ob
theorem AllocW.congr {P : Program} {ρ ρ2 : Operand → Value} {o : Oper} {id : Nat} {v : Value} {ao : AObj} (h : AllocW P ρ o id v ao) (he : ∀ x ∈ o.op.operands, ρ x = ρ2 x) : AllocW P ρ2 o id v ao :=
  ⟨h.1, fun g ρ' w hr => h.2 g ρ' w fun x hx => by rw [he x hx]; exact hr x hx⟩

/-! ## The trace in the text's order -/
/-- Has a block been installed before p? -/
def gone (lo : Nat → Bool) (B : List Nat) (p k : Nat) : Bool := (List.range p).any fun j => lo j && bit B j k
def instAt (lo al : Nat → Bool) (B : List Nat) (j : Nat) : List Nat := (List.range j).filter fun k => al k && bit B j k && !gone lo B j k
def pendAt (lo al : Nat → Bool) (B : List Nat) (p : Nat) : List Nat := (List.range p).filter fun k => al k && !gone lo B p k
def instL (base : Nat) (ao : Nat → AObj) (l : List Nat) (τ : St) : St := l.foldl (fun τ k => τ.set (base + k) (ao k)) τ

structure Trc (P : Program) (gl : List Nat) (ops : Array Oper) (base : Nat) (B : List Nat) (e : Nat → Env) (τ : Nat → St) (val : Nat → Value) (ao : Nat → AObj) (lo al : Nat → Bool) : Prop where
  env : ∀ i o, ops[i]? = some o → e (i + 1) = eputo (e i) o.dst (val i)
  step : ∀ i o, ops[i]? = some o →
    (wantedA ops (e i) o = false ∧ val i = undef ∧ lo i = false ∧ al i = false ∧ τ (i + 1) = τ i) ∨
    (wantedA ops (e i) o = true ∧ lo i = false ∧ al i = false ∧ τ (i + 1) = τ i ∧ PureW P (rho (e i)) o (val i)) ∨
    (wantedA ops (e i) o = true ∧ lo i = false ∧ al i = true ∧ τ (i + 1) = τ i ∧ AllocW P (rho (e i)) o (base + i) (val i) (ao i)) ∨
    (wantedA ops (e i) o = true ∧ lo i = false ∧ al i = false ∧ τ (i + 1) = τ i ∧ clsOf P o.op = .read ∧ evalOp P (rho (e i)) (base + i) o (τ i) = some (.val (val i) (τ i)) ∧
      ∀ j, j < ops.size → lo j = true → bit B i j = false → bit B j i = false → evalOp P (rho (e i)) (base + i) o (τ j) = some (.val (val i) (τ j)) ∧ evalOp P (rho (e i)) (base + i) o (τ (j + 1)) = some (.val (val i) (τ (j + 1)))) ∨
    (wantedA ops (e i) o = true ∧ lo i = true ∧ al i = false ∧ ∃ ρ, (∀ x ∈ o.op.operands, ρ x = rho (e i) x) ∧ StepR P gl ρ (base + i) o (instL base ao (instAt lo al B i) (τ i)) (val i) (τ (i + 1)))
  loud : ∀ i, lo i = true → ∃ o, ops[i]? = some o ∧ clsOf P o.op = .loud
  inn : ∀ i, al i = true → i < ops.size

theorem Trc.quiet {P : Program} {gl : List Nat} {ops : Array Oper} {base : Nat} {B : List Nat} {e : Nat → Env} {τ : Nat → St} {val : Nat → Value} {ao : Nat → AObj} {lo al : Nat → Bool} (h : Trc P gl ops base B e τ val ao lo al) {i : Nat} (hi : i < ops.size) (hl : lo i = false) : τ (i + 1) = τ i := by
  rcases h.step i _ (Array.getElem?_eq_getElem hi) with k | k | k | k | k
  · exact k.2.2.2.2
  · exact k.2.2.2.1
  · exact k.2.2.2.1
  · exact k.2.2.2.1
  · rw [hl] at k; cases k.2.1
theorem Trc.between {P : Program} {gl : List Nat} {ops : Array Oper} {base : Nat} {B : List Nat} {e : Nat → Env} {τ : Nat → St} {val : Nat → Value} {ao : Nat → AObj} {lo al : Nat → Bool} (h : Trc P gl ops base B e τ val ao lo al) (i : Nat) : ∀ (d : Nat), i + d ≤ ops.size → (∀ j, i ≤ j → j < i + d → lo j = false) → τ (i + d) = τ i
  | 0, _, _ => rfl
  | d + 1, hd, hn => by
    have h1 := h.between i d (by omega) (fun j a b => hn j a (by omega))
    have h2 := h.quiet (i := i + d) (by omega) (hn _ (by omega) (by omega))
    rw [← h1, ← h2]; rfl

/-! ## The relation in the midst of a region -/
def pdn (n : Nat) (D al lo : Nat → Bool) (B : List Nat) (p k : Nat) : Bool := decide (k < n) && D k && al k && !gone lo B p k
/-- The names of the state, and those of blocks that are made already and not installed, as far as S says. -/
def gp (base n : Nat) (PD : Nat → Bool) (H : Nat → CA) (g : Gam) (S : Nat → Bool) : Gam := fun A => if base ≤ A ∧ A < base + n ∧ PD (A - base) = true ∧ S (A - base) = true then some (H (A - base)) else g A

theorem gp_in {base n : Nat} {PD : Nat → Bool} {H : Nat → CA} {g : Gam} {S : Nat → Bool} {k : Nat} (hk : k < n) (hp : PD k = true) (hs : S k = true) : gp base n PD H g S (base + k) = some (H k) := by
  unfold gp
  have e : base + k - base = k := by omega
  rw [if_pos ⟨by omega, by omega, by rw [e]; exact hp, by rw [e]; exact hs⟩, e]
theorem gp_out {base n : Nat} {PD : Nat → Bool} {H : Nat → CA} {g : Gam} {S : Nat → Bool} {A : Nat} (h : ∀ k, k < n → PD k = true → S k = true → A ≠ base + k) : gp base n PD H g S A = g A := by
  unfold gp
  split
  · rename_i hc
    exact (h (A - base) (by omega) hc.2.2.1 hc.2.2.2 (by omega)).elim
  · rfl
theorem gp_cases {base n : Nat} {PD : Nat → Bool} {H : Nat → CA} {g : Gam} {S : Nat → Bool} {A : Nat} {x : CA} (h : gp base n PD H g S A = some x) : (∃ k, k < n ∧ PD k = true ∧ S k = true ∧ A = base + k ∧ x = H k) ∨ g A = some x := by
  unfold gp at h
  split at h
  · rename_i hc
    cases h
    exact .inl ⟨A - base, by omega, hc.2.2.1, hc.2.2.2, by omega, rfl⟩
  · exact .inr h
theorem gp_mono {base n : Nat} {PD : Nat → Bool} {H : Nat → CA} {g : Gam} {S S' : Nat → Bool} (hg : ∀ k, k < n → PD k = true → g (base + k) = none) (h : ∀ k, PD k = true → S k = true → S' k = true) : Gam.le (gp base n PD H g S) (gp base n PD H g S') := by
  intro A x e
  rcases gp_cases e with ⟨k, k1, k2, k3, rfl, rfl⟩ | e
  · exact gp_in k1 k2 (h k k2 k3)
  · rw [gp_out]
    · exact e
    · intro k k1 k2 _ eA
      subst eA
      rw [hg k k1 k2] at e; cases e
theorem gp_le {base n : Nat} {PD : Nat → Bool} {H : Nat → CA} {g : Gam} {S : Nat → Bool} (hg : ∀ k, k < n → PD k = true → g (base + k) = none) : Gam.le g (gp base n PD H g S) := by
  intro A x e
  rw [gp_out]
  · exact e
  · intro k k1 k2 _ eA
    subst eA
    rw [hg k k1 k2] at e; cases e

structure DInv (Ds : List Deferred) (P : Program) (gl : List Nat) (N : Nat) (ops : Array Oper) (base : Nat) (B : List Nat) (e : Nat → Env) (τ : Nat → St) (val : Nat → Value) (ao : Nat → AObj) (lo al : Nat → Bool) (g0 : Gam) (σ0 : St) (w0 : World)
    (D : Nat → Bool) (p : Nat) (g : Gam) (H : Nat → CA) (a : Act) (w : World) : Prop where
  pn : p ≤ ops.size
  below : ∀ j, j < p → lo j = true → D j = true
  above : ∀ j, p ≤ j → lo j = true → D j = false
  here : p = ops.size ∨ lo p = true
  rel : Rel g (τ p) w
  ext : Ext (fun A => base ≤ A) g0 g σ0 (τ p) w0 w
  free : ∀ k, k < ops.size → (lo k = true → p ≤ k) → (al k = true → gone lo B p k = false) → (τ p).get (base + k) = none
  next : base + ops.size ≤ (τ p).next
  pend : ∀ k, pdn ops.size D al lo B p k = true → ∃ ob, w.heap[(H k).block]? = some ob ∧ (H k).base = 0 ∧ NewSays (gp base ops.size (pdn ops.size D al lo B p) H g (bit B k)) (H k).size (ao k) ob ∧ (∀ A x, g A = some x → x.block ≠ (H k).block) ∧ w0.heap.size ≤ (H k).block
  dist : ∀ k k', pdn ops.size D al lo B p k = true → pdn ops.size D al lo B p k' = true → (H k).block = (H k').block → k = k'
  slot : ∀ t, (∃ i o, D i = true ∧ ops[i]? = some o ∧ o.dst = some t ∧ (∀ i' o', D i' = true → ops[i']? = some o' → o'.dst = some t → i' ≤ i) ∧ VRel (gp base ops.size (pdn ops.size D al lo B p) H g (fun k => k == i || bit B i k)) (val i) (a.tmps.getD t undef)) ∨
    ((∀ i o, D i = true → ops[i]? = some o → o.dst ≠ some t) ∧ VRel g (eget (e 0) t) (a.tmps.getD t undef))
  defers : a.defers = Ds
  size : a.tmps.size = N
  closed : ∀ i o, D i = true → ops[i]? = some o → ∀ ed ∈ o.after, Region.binds .any ed = true → D ed.on = true
  inn : ∀ i, D i = true → i < ops.size

section inv
variable {P : Program} {gl : List Nat} {N : Nat} {call : CallF} {ops : Array Oper} {base : Nat} {B : List Nat} {e : Nat → Env} {τ : Nat → St} {val : Nat → Value} {ao : Nat → AObj} {lo al : Nat → Bool} {g0 : Gam} {σ0 : St} {w0 : World}
  {D : Nat → Bool} {p : Nat} {g : Gam} {H : Nat → CA} {a : Act} {w : World}

theorem Trc.excl (h : Trc P gl ops base B e τ val ao lo al) {k : Nat} (ha : al k = true) : lo k = false := by
  rcases h.step k _ (Array.getElem?_eq_getElem (h.inn k ha)) with q | q | q | q | q
  · exact q.2.2.1
  · exact q.2.1
  · exact q.2.1
  · exact q.2.1
  · rw [q.2.2.1] at ha; cases ha

theorem pdn_spec {n : Nat} {k : Nat} : pdn n D al lo B p k = true ↔ k < n ∧ D k = true ∧ al k = true ∧ gone lo B p k = false := by
  simp [pdn, and_assoc]

theorem DInv.gnone (ht : Trc P gl ops base B e τ val ao lo al) (h : DInv Ds P gl N ops base B e τ val ao lo al g0 σ0 w0 D p g H a w) {k : Nat} (hk : k < ops.size) (hp : pdn ops.size D al lo B p k = true) : g (base + k) = none := by
  obtain ⟨_, _, ha, hg⟩ := pdn_spec.1 hp
  have := h.free k hk (fun hl => by rw [ht.excl ha] at hl; cases hl) (fun _ => hg)
  cases e2 : g (base + k) with
  | none => rfl
  | some x => obtain ⟨ob, hob, _⟩ := h.rel.obj _ x e2; rw [this] at hob; cases hob

/-- The last writer of a slot ahead of i, in the text's order. -/
theorem eget_last (ht : Trc P gl ops base B e τ val ao lo al) (t : Nat) : ∀ (i : Nat), i ≤ ops.size →
    (∃ k o, k < i ∧ ops[k]? = some o ∧ o.dst = some t ∧ (∀ k' o', k' < i → ops[k']? = some o' → o'.dst = some t → k' ≤ k) ∧ eget (e i) t = val k) ∨ ((∀ k o, k < i → ops[k]? = some o → o.dst ≠ some t) ∧ eget (e i) t = eget (e 0) t)
  | 0, _ => .inr ⟨fun k o h => by omega, rfl⟩
  | i + 1, hi => by
    have ho : ops[i]? = some (ops[i]'(by omega)) := Array.getElem?_eq_getElem (by omega)
    have he := ht.env i _ ho
    by_cases hd : (ops[i]'(by omega)).dst = some t
    · left
      refine ⟨i, _, Nat.lt_succ_self _, ho, hd, fun k' o' h1 _ _ => by omega, ?_⟩
      rw [he, hd]; simp [eputo, eget_eput]
    · have hsame : eget (e (i + 1)) t = eget (e i) t := by
        rw [he]
        cases hdd : (ops[i]'(by omega)).dst with
        | none => rfl
        | some d =>
          simp only [eputo, eget_eput]
          rw [if_neg (fun e2 => hd (by rw [hdd, e2]))]
      rcases eget_last ht t i (by omega) with ⟨k, o, h1, h2, h3, h4, h5⟩ | ⟨h1, h2⟩
      · left
        refine ⟨k, o, by omega, h2, h3, fun k' o' q1 q2 q3 => ?_, hsame.trans h5⟩
        by_cases hk : k' = i
        · subst hk; rw [ho] at q2; cases q2; exact (hd q3).elim
        · exact h4 k' o' (by omega) q2 q3
      · right
        refine ⟨fun k o q1 q2 => ?_, hsame.trans h2⟩
        by_cases hk : k = i
        · subst hk; rw [ho] at q2; cases q2; exact hd
        · exact h1 k o (by omega) q2

/-- A slot that a ready operation looks at holds what the text's order says. -/
theorem DInv.look (hs : OkDraw P ops B) (ht : Trc P gl ops base B e τ val ao lo al) (h : DInv Ds P gl N ops base B e τ val ao lo al g0 σ0 w0 D p g H a w) {i : Nat} {o : Oper} (ho : ops[i]? = some o) (hni : D i = false)
    (hr : ∀ ed ∈ o.after, Region.binds .any ed = true → D ed.on = true) {t : Nat} (hl : t ∈ o.looksAt ops) : VRel (gp base ops.size (pdn ops.size D al lo B p) H g (bit B i)) (eget (e i) t) (a.tmps.getD t undef) := by
  have hi : i < ops.size := (Array.getElem?_eq_some_iff.1 ho).1
  have hdown := hs.down h.closed i o ho hr
  have later : ∀ k ok, D k = true → ops[k]? = some ok → ok.dst = some t → k < i := by
    intro k ok hk hok hd
    rcases Nat.lt_trichotomy k i with q | q | q
    · exact q
    · subst q; rw [hni] at hk; cases hk
    · rcases hs.reads i o k ok t ho hok (by omega) hd hl with b | b
      · have := hs.lt i k b; omega
      · have := hs.down h.closed k ok hok (h.closed k ok hk hok) i b
        rw [hni] at this; cases this
  have hgn : ∀ k, k < ops.size → pdn ops.size D al lo B p k = true → g (base + k) = none := fun k hk hp => h.gnone ht hk hp
  rcases eget_last ht t i (by omega) with ⟨k, ok, h1, h2, h3, h4, h5⟩ | ⟨h1, h2⟩
  · have hb : bit B i k = true := by
      rcases hs.reads i o k ok t ho h2 (by omega) h3 hl with b | b
      · exact b
      · have := hs.lt k i b; omega
    have hDk := hdown k hb
    rcases h.slot t with ⟨j, oj, q1, q2, q3, q4, q5⟩ | ⟨q1, _⟩
    · have hkj := q4 k ok hDk h2 h3
      have hji := later j oj q1 q2 q3
      have hjk := h4 j oj hji q2 q3
      have : j = k := by omega
      subst this
      rw [h5]
      refine q5.mono (gp_mono hgn fun k' hk' hS => ?_)
      simp only [Bool.or_eq_true, beq_iff_eq] at hS
      rcases hS with rfl | hS
      · exact hb
      · exact hs.tr i j k' hb hS
    · exact (q1 k ok hDk h2 h3).elim
  · rcases h.slot t with ⟨j, oj, q1, q2, q3, _⟩ | ⟨_, q2⟩
    · exact (h1 j oj (later j oj q1 q2 q3) q2 q3).elim
    · rw [h2]; exact q2.mono (gp_le hgn)

theorem mem_looks_op {o : Oper} {t : Nat} (h : Operand.tmp t ∈ o.op.operands) : t ∈ o.looksAt ops := by
  unfold Oper.looksAt
  refine List.mem_append_left _ ?_
  rw [List.mem_filterMap]
  exact ⟨.tmp t, by simpa using h, rfl⟩

theorem DInv.opnds (hs : OkDraw P ops B) (ht : Trc P gl ops base B e τ val ao lo al) (h : DInv Ds P gl N ops base B e τ val ao lo al g0 σ0 w0 D p g H a w) (hg0 : Glob gl g0) {i : Nat} {o : Oper} (ho : ops[i]? = some o) (hni : D i = false)
    (hr : ∀ ed ∈ o.after, Region.binds .any ed = true → D ed.on = true) (hok : okOper gl N o = true) : ∀ x ∈ o.op.operands, VRel (gp base ops.size (pdn ops.size D al lo B p) H g (bit B i)) (rho (e i) x) (a.eval x) := by
  intro x hx
  simp only [okOper, Bool.and_eq_true, List.all_eq_true] at hok
  have hx2 := hok.1 x (by simpa using hx)
  have hgn : ∀ k, k < ops.size → pdn ops.size D al lo B p k = true → g (base + k) = none := fun k hk hp => h.gnone ht hk hp
  cases x with
  | tmp t => exact h.look hs ht ho hni hr (mem_looks_op hx)
  | const v => exact flatV_rel hx2
  | global b =>
    obtain ⟨n, e1⟩ := hg0 b hx2
    exact .ptr b 0 _ (gp_le hgn _ _ (h.ext.le _ _ e1))
  | func f => exact .func _ _ _ _ _ rfl (fun i h => by simp at h) rfl (fun i h => by simp at h)

theorem DInv.wanted (hs : OkDraw P ops B) (ht : Trc P gl ops base B e τ val ao lo al) (h : DInv Ds P gl N ops base B e τ val ao lo al g0 σ0 w0 D p g H a w) {i : Nat} {o : Oper} (ho : ops[i]? = some o) (hni : D i = false)
    (hr : ∀ ed ∈ o.after, Region.binds .any ed = true → D ed.on = true) (hok : okGuard ops N o = true) : Region.wanted o (yielded ops a.tmps) = wantedA ops (e i) o := by
  unfold Region.wanted wantedA
  unfold okGuard at hok
  cases hgd : o.guard with
  | none => rfl
  | some q =>
    obtain ⟨j, want⟩ := q
    rw [hgd] at hok
    simp only at hok ⊢
    have : yielded ops a.tmps j = yieldsA ops (e i) j := by
      unfold yielded yieldsA
      cases hd : (ops[j]?).bind (·.dst) with
      | none => rfl
      | some d =>
        rw [hd] at hok
        have hlt : d < a.tmps.size := by rw [h.size]; simpa using hok
        have hl : d ∈ o.looksAt ops := by
          unfold Oper.looksAt
          refine List.mem_append_right _ ?_
          rw [hgd]; simp only [hd]; simp
        have hv := h.look hs ht ho hni hr hl
        simp only [Option.bind_some, Array.getElem?_eq_getElem hlt]
        have e2 : a.tmps.getD d undef = a.tmps[d] := by simp [hlt]
        rw [e2] at hv
        generalize a.tmps[d] = v' at hv
        generalize eget (e i) d = v at hv
        cases hv <;> rfl
    rw [this]
end inv
end Go.Ev

namespace Go.Ev
open Go
set_option linter.unusedVariables false
set_option linter.unusedSimpArgs false
variable {Ds : List Deferred}

section inv
variable {P : Program} {gl : List Nat} {N : Nat} {call : CallF} {ops : Array Oper} {base : Nat} {B : List Nat} {e : Nat → Env} {τ : Nat → St} {val : Nat → Value} {ao : Nat → AObj} {lo al : Nat → Bool} {g0 : Gam} {σ0 : St} {w0 : World}
  {D : Nat → Bool} {p : Nat} {g : Gam} {H : Nat → CA} {a : Act} {w : World}

theorem instL_get (l : List Nat) : ∀ (τ0 : St) (A : Nat), (∀ k ∈ l, A ≠ base + k) → (instL base ao l τ0).get A = τ0.get A := by
  induction l with
  | nil => intro τ0 A _; rfl
  | cons k l ih =>
    intro τ0 A h
    simp only [instL, List.foldl_cons]
    have := ih (τ0.set (base + k) (ao k)) A (fun k' hk' => h k' (List.mem_cons_of_mem _ hk'))
    simp only [instL] at this
    rw [this]
    simp only [St.get_set]
    rw [if_neg (fun e => h k List.mem_cons_self e.symm)]
theorem instL_rest (l : List Nat) : ∀ (τ0 : St), (instL base ao l τ0).next = τ0.next ∧ ∀ F, (instL base ao l τ0).famO F = τ0.famO F := by
  induction l with
  | nil => intro τ0; exact ⟨rfl, fun _ => rfl⟩
  | cons k l ih =>
    intro τ0
    simp only [instL, List.foldl_cons]
    have := ih (τ0.set (base + k) (ao k))
    exact this
theorem instL_snoc (l : List Nat) (k : Nat) (τ0 : St) : instL base ao (l ++ [k]) τ0 = (instL base ao l τ0).set (base + k) (ao k) := by
  simp [instL, List.foldl_append]

theorem Trc.fam (ht : Trc P gl ops base B e τ val ao lo al) {k : Nat} (hk : al k = true) : ∀ own ver F c, ao k = .cells own ver F c → F = base + k := by
  rcases ht.step k _ (Array.getElem?_eq_getElem (ht.inn k hk)) with q | q | q | q | q
  · rw [q.2.2.2.1] at hk; cases hk
  · rw [q.2.2.1] at hk; cases hk
  · exact q.2.2.2.2.1
  · rw [q.2.2.1] at hk; cases hk
  · rw [q.2.2.1] at hk; cases hk

theorem DInv.install (hs : OkDraw P ops B) (ht : Trc P gl ops base B e τ val ao lo al) (h : DInv Ds P gl N ops base B e τ val ao lo al g0 σ0 w0 D p g H a w) (l : List Nat)
    (hl : ∀ k ∈ l, pdn ops.size D al lo B p k = true) (hsort : l.Pairwise (· < ·)) (hcl : ∀ k ∈ l, ∀ k', pdn ops.size D al lo B p k' = true → bit B k k' = true → k' ∈ l) :
    Rel (gp base ops.size (pdn ops.size D al lo B p) H g (fun k => decide (k ∈ l))) (instL base ao l (τ p)) w := by
  have key : ∀ m, m ≤ l.length → Rel (gp base ops.size (pdn ops.size D al lo B p) H g (fun k => decide (k ∈ l.take m))) (instL base ao (l.take m) (τ p)) w := by
    intro m
    induction m with
    | zero =>
      intro _
      have : gp base ops.size (pdn ops.size D al lo B p) H g (fun k => decide (k ∈ l.take 0)) = g := by
        funext A; exact gp_out fun k _ _ hk => by simp at hk
      rw [this]
      exact h.rel
    | succ m ih =>
      intro hm
      have ih := ih (by omega)
      have hlt : m < l.length := by omega
      have htk : l.take (m + 1) = l.take m ++ [l[m]] := by rw [List.take_succ_eq_append_getElem hlt]
      obtain ⟨k, hk⟩ : ∃ k, k = l[m] := ⟨_, rfl⟩
      rw [← hk] at htk
      have hkl : k ∈ l := by rw [hk]; exact List.getElem_mem hlt
      have hpd := hl k hkl
      obtain ⟨hkn, hD, ha, hg⟩ := pdn_spec.1 hpd
      have hnot : k ∉ l.take m := by
        intro hmem
        obtain ⟨j, hj, e1⟩ := List.getElem_of_mem hmem
        have hj' : j < m := by simp at hj; omega
        have hp := List.pairwise_iff_getElem.1 hsort j m (by omega) hlt hj'
        simp only [List.getElem_take] at e1
        rw [e1, ← hk] at hp
        omega
      obtain ⟨ob, o1, o2, o3, o4, o5⟩ := h.pend k hpd
      have hfree : (instL base ao (l.take m) (τ p)).get (base + k) = none := by
        rw [instL_get]
        · exact h.free k hkn (fun hl => by rw [ht.excl ha] at hl; cases hl) (fun _ => hg)
        · intro k' hk' e1
          have : k' = k := by omega
          subst this; exact hnot hk'
      have hgm := gp_mono (S := bit B k) (S' := fun k' => decide (k' ∈ l.take m)) (H := H) (fun k hk hp => h.gnone ht hk hp) (fun k' hk' hb => by
        have hmem := hcl k hkl k' hk' hb
        have hlt2 := hs.lt k k' hb
        obtain ⟨j, hj, e1⟩ := List.getElem_of_mem hmem
        have hjm : j < m := by
          rcases Nat.lt_trichotomy j m with q | q | q
          · exact q
          · subst q; rw [← hk] at e1; omega
          · have := List.pairwise_iff_getElem.1 hsort m j hlt hj q
            rw [e1, ← hk] at this; omega
        simp only [decide_eq_true_eq]
        rw [List.mem_take_iff_getElem]
        exact ⟨j, by omega, e1⟩)
      have := ih.install (id := base + k) (b := (H k).block) (n := (H k).size) (ao := ao k) (ob := ob) hfree (by rw [(instL_rest _ _).1]; have := h.next; omega) o1 (fun A x hA => by
          rcases gp_cases hA with ⟨k', k1, k2, k3, rfl, rfl⟩ | hA
          · intro e1
            have := h.dist k' k k2 hpd e1
            subst this
            simp at k3; exact hnot k3
          · exact o4 A x hA) (ht.fam ha) (o3.mono hgm)
      rw [htk, instL_snoc]
      have hgam : gp base ops.size (pdn ops.size D al lo B p) H g (fun k' => decide (k' ∈ l.take m ++ [k])) = (gp base ops.size (pdn ops.size D al lo B p) H g (fun k => decide (k ∈ l.take m))).add (base + k) ⟨(H k).block, 0, (H k).size⟩ := by
        funext A
        by_cases hA : A = base + k
        · subst hA
          rw [gp_in hkn hpd (by simp), Gam.add_self, ← o2]
        · have e1 : (gp base ops.size (pdn ops.size D al lo B p) H g (fun k => decide (k ∈ l.take m))).add (base + k) ⟨(H k).block, 0, (H k).size⟩ A = gp base ops.size (pdn ops.size D al lo B p) H g (fun k => decide (k ∈ l.take m)) A := by
            simp [Gam.add, hA]
          rw [e1]
          unfold gp
          by_cases hc : base ≤ A ∧ A < base + ops.size ∧ pdn ops.size D al lo B p (A - base) = true ∧ decide (A - base ∈ l.take m) = true
          · rw [if_pos hc, if_pos ⟨hc.1, hc.2.1, hc.2.2.1, by have := hc.2.2.2; simp at this ⊢; exact .inl this⟩]
          · rw [if_neg hc]
            by_cases hc2 : base ≤ A ∧ A < base + ops.size ∧ pdn ops.size D al lo B p (A - base) = true ∧ decide (A - base ∈ l.take m ++ [k]) = true
            · exfalso
              apply hc
              refine ⟨hc2.1, hc2.2.1, hc2.2.2.1, ?_⟩
              have := hc2.2.2.2
              simp only [decide_eq_true_eq, List.mem_append, List.mem_singleton] at this ⊢
              rcases this with q | q
              · exact q
              · exact (hA (by omega)).elim
            · rw [if_neg hc2]
      rw [hgam]
      exact this
  have := key l.length (Nat.le_refl _)
  rwa [List.take_length] at this

theorem DInv.instExt (hs : OkDraw P ops B) (ht : Trc P gl ops base B e τ val ao lo al) (h : DInv Ds P gl N ops base B e τ val ao lo al g0 σ0 w0 D p g H a w) (l : List Nat) (hl : ∀ k ∈ l, pdn ops.size D al lo B p k = true) :
    Ext (fun A => base ≤ A) g0 (gp base ops.size (pdn ops.size D al lo B p) H g (fun k => decide (k ∈ l))) σ0 (instL base ao l (τ p)) w0 w := by
  have hne : ∀ k ∈ l, (τ p).get (base + k) = none := fun k hk => by
    obtain ⟨hkn, hD, ha, hg⟩ := pdn_spec.1 (hl k hk)
    exact h.free k hkn (fun hl => by rw [ht.excl ha] at hl; cases hl) (fun _ => hg)
  refine ⟨Gam.le_trans h.ext.le (gp_le fun k hk hp => h.gnone ht hk hp), ?_, ?_, h.ext.size, h.ext.keep, ?_, ?_, by rw [(instL_rest _ _).1]; exact h.ext.next, h.ext.os, h.ext.out, h.ext.tape⟩
  · intro A x hA hA0
    rcases gp_cases hA with ⟨k, _, _, _, rfl, _⟩ | hA
    · exact Nat.le_add_right _ _
    · exact h.ext.new A x hA hA0
  · intro A x hA hA0
    rcases gp_cases hA with ⟨k, k1, k2, _, rfl, rfl⟩ | hA
    · exact .inl (h.pend k k2).choose_spec.2.2.2.2
    · exact h.ext.fresh A x hA hA0
  · intro A hA hn
    rw [instL_get]
    · exact h.ext.frame A hA hn
    · intro k _ e1; exact hn (by omega)
  · intro A hA
    obtain ⟨r1, r2⟩ := h.ext.ro A hA
    have hneA : ∀ k ∈ l, A ≠ base + k := fun k hk e1 => by
      subst e1
      obtain ⟨_, _, _, q, _⟩ := r2
      rw [hne k hk] at q; cases q
    refine ⟨by rw [instL_get _ _ _ hneA]; exact r1, ?_⟩
    obtain ⟨v, f, c, q1, q2⟩ := r2
    exact ⟨v, f, c, by rw [instL_get _ _ _ hneA]; exact q1, by rw [(instL_rest _ _).2]; exact q2⟩

/-- The slots behind an operation. -/
theorem DInv.putSlot (hs : OkDraw P ops B) (ht : Trc P gl ops base B e τ val ao lo al) (h : DInv Ds P gl N ops base B e τ val ao lo al g0 σ0 w0 D p g H a w) {i : Nat} {o : Oper} (ho : ops[i]? = some o) (hni : D i = false)
    (hd : ∀ d, o.dst = some d → d < N) {PD' : Nat → Bool} {g' : Gam} {H' : Nat → CA} (hle : ∀ S, Gam.le (gp base ops.size (pdn ops.size D al lo B p) H g S) (gp base ops.size PD' H' g' S)) (hlg : Gam.le g g')
    {v' : Value} (hv : VRel (gp base ops.size PD' H' g' (fun k => k == i || bit B i k)) (val i) v') (t : Nat) :
    (∃ j oj, (D j || j == i) = true ∧ ops[j]? = some oj ∧ oj.dst = some t ∧ (∀ i' o', (D i' || i' == i) = true → ops[i']? = some o' → o'.dst = some t → i' ≤ j) ∧ VRel (gp base ops.size PD' H' g' (fun k => k == j || bit B j k)) (val j) ((a.put o.dst v').tmps.getD t undef)) ∨
    ((∀ j oj, (D j || j == i) = true → ops[j]? = some oj → oj.dst ≠ some t) ∧ VRel g' (eget (e 0) t) ((a.put o.dst v').tmps.getD t undef)) := by
  by_cases hdt : o.dst = some t
  · left
    refine ⟨i, o, by simp, ho, hdt, fun i' o' h1 h2 h3 => ?_, ?_⟩
    · simp only [Bool.or_eq_true, beq_iff_eq] at h1
      rcases h1 with h1 | h1
      · by_cases hii : i' = i
        · omega
        · rcases hs.writes i o i' o' t ho h2 hii h3 hdt with b | b
          · have := hs.lt i i' b; omega
          · have := hs.down h.closed i' o' h2 (h.closed i' o' h1 h2) i b
            rw [hni] at this; cases this
      · omega
    · have hlt : t < a.tmps.size := by rw [h.size]; exact hd t hdt
      have e1 : (a.put o.dst v').tmps.getD t undef = v' := by rw [hdt]; simp [Act.put, hlt]
      rw [e1]; exact hv
  · have hsame : (a.put o.dst v').tmps.getD t undef = a.tmps.getD t undef := by
      cases hdd : o.dst with
      | none => rfl
      | some d =>
        have hne : d ≠ t := fun e1 => hdt (by rw [hdd, e1])
        simp only [Act.put, Array.getD_eq_getD_getElem?, Array.getElem?_setIfInBounds, if_neg hne]
    rw [hsame]
    rcases h.slot t with ⟨j, oj, q1, q2, q3, q4, q5⟩ | ⟨q1, q2⟩
    · left
      refine ⟨j, oj, by simp [q1], q2, q3, fun i' o' h1 h2 h3 => ?_, q5.mono (hle _)⟩
      simp only [Bool.or_eq_true, beq_iff_eq] at h1
      rcases h1 with h1 | rfl
      · exact q4 i' o' h1 h2 h3
      · rw [ho] at h2; cases h2; exact (hdt h3).elim
    · right
      refine ⟨fun j oj h1 h2 => ?_, q2.mono hlg⟩
      simp only [Bool.or_eq_true, beq_iff_eq] at h1
      rcases h1 with h1 | rfl
      · exact q1 j oj h1 h2
      · rw [ho] at h2; cases h2; exact hdt

/-- An operation that leaves the world and the stage as they are. -/
theorem DInv.quiet (hs : OkDraw P ops B) (ht : Trc P gl ops base B e τ val ao lo al) (h : DInv Ds P gl N ops base B e τ val ao lo al g0 σ0 w0 D p g H a w) {i : Nat} {o : Oper} (ho : ops[i]? = some o) (hni : D i = false)
    (hr : ∀ ed ∈ o.after, Region.binds .any ed = true → D ed.on = true) (hd : ∀ d, o.dst = some d → d < N) (hl : lo i = false) (ha : al i = false) {v' : Value} (hv : VRel (gp base ops.size (pdn ops.size D al lo B p) H g (bit B i)) (val i) v') :
    DInv Ds P gl N ops base B e τ val ao lo al g0 σ0 w0 (fun j => D j || j == i) p g H (a.put o.dst v') w := by
  have hpd : pdn ops.size (fun j => D j || j == i) al lo B p = pdn ops.size D al lo B p := by
    funext k
    simp only [pdn]
    by_cases hk : k = i
    · subst hk; simp [ha]
    · have : (k == i) = false := by simpa using hk
      simp [this]
  have hgn : ∀ k, k < ops.size → pdn ops.size D al lo B p k = true → g (base + k) = none := fun k hk hp => h.gnone ht hk hp
  refine ⟨h.pn, fun j h1 h2 => by simp [h.below j h1 h2], fun j h1 h2 => ?_, h.here, h.rel, h.ext, h.free, h.next, by rw [hpd]; exact h.pend, by rw [hpd]; exact h.dist, fun t => ?_, ?_, ?_, ?_, ?_⟩
  · have hne : j ≠ i := fun e1 => by subst e1; rw [hl] at h2; cases h2
    simp [h.above j h1 h2, hne]
  · rw [hpd]
    exact h.putSlot hs ht ho hni hd (fun S => Gam.le_refl _) (Gam.le_refl _) (hv.mono (gp_mono hgn fun k _ hb => by simp [hb])) t
  · cases o.dst <;> exact h.defers
  · cases hdd : o.dst with
    | none => exact h.size
    | some d => simp [Act.put, h.size]
  · intro j oj h1 h2 ed he hb
    simp only [Bool.or_eq_true, beq_iff_eq] at h1 ⊢
    rcases h1 with h1 | rfl
    · exact .inl (h.closed j oj h1 h2 ed he hb)
    · rw [ho] at h2; cases h2; exact .inl (hr ed he hb)
  · intro j h1
    simp only [Bool.or_eq_true, beq_iff_eq] at h1
    rcases h1 with h1 | rfl
    · exact h.inn j h1
    · exact (Array.getElem?_eq_some_iff.1 ho).1

theorem DInv.notGone (hs : OkDraw P ops B) (h : DInv Ds P gl N ops base B e τ val ao lo al g0 σ0 w0 D p g H a w) {i : Nat} (hni : D i = false) : gone lo B p i = false := by
  cases hg : gone lo B p i with
  | false => rfl
  | true =>
    simp only [gone, List.any_eq_true, List.mem_range, Bool.and_eq_true] at hg
    obtain ⟨j, h1, h2, h3⟩ := hg
    have hD := h.below j h1 h2
    have hj := h.inn j hD
    have := hs.down h.closed j _ (Array.getElem?_eq_getElem hj) (h.closed j _ hD (Array.getElem?_eq_getElem hj)) i h3
    rw [hni] at this; cases this

/-- An operation that makes a block. -/
theorem DInv.alloc (hs : OkDraw P ops B) (ht : Trc P gl ops base B e τ val ao lo al) (h : DInv Ds P gl N ops base B e τ val ao lo al g0 σ0 w0 D p g H a w) {i : Nat} {o : Oper} (ho : ops[i]? = some o) (hni : D i = false)
    (hr : ∀ ed ∈ o.after, Region.binds .any ed = true → D ed.on = true) (hd : ∀ d, o.dst = some d → d < N) (hl : lo i = false) (ha : al i = true) {w1 : World} {ob : Obj} {n : Nat} {v' : Value}
    (hw : w1.heap = w.heap) (h1 : w1.os = w.os) (h2 : w1.output = w.output) (h3 : w1.tape = w.tape)
    (hv : ∀ g' : Gam, Gam.le (gp base ops.size (pdn ops.size D al lo B p) H g (bit B i)) g' → g' (base + i) = some ⟨w.heap.size, 0, n⟩ → VRel g' (val i) v')
    (hn : NewSays (gp base ops.size (pdn ops.size D al lo B p) H g (bit B i)) n (ao i) ob) :
    DInv Ds P gl N ops base B e τ val ao lo al g0 σ0 w0 (fun j => D j || j == i) p g (fun k => if k = i then ⟨w.heap.size, 0, n⟩ else H k) (a.put o.dst v') (newW w1 ob) := by
  have hi : i < ops.size := (Array.getElem?_eq_some_iff.1 ho).1
  have hng := h.notGone hs hni
  have hpd : ∀ k, pdn ops.size (fun j => D j || j == i) al lo B p k = (pdn ops.size D al lo B p k || k == i) := by
    intro k
    simp only [pdn]
    by_cases hk : k = i
    · subst hk; simp [ha, hng, hi]
    · have : (k == i) = false := by simpa using hk
      simp [this]
  have hpi : pdn ops.size D al lo B p i = false := by simp [pdn, hni]
  have hgi : g (base + i) = none := by
    have := h.free i hi (fun q => by rw [hl] at q; cases q) (fun _ => hng)
    cases e2 : g (base + i) with
    | none => rfl
    | some x => obtain ⟨ob, hob, _⟩ := h.rel.obj _ x e2; rw [this] at hob; cases hob
  have hgn : ∀ k, k < ops.size → pdn ops.size D al lo B p k = true → g (base + k) = none := fun k hk hp => h.gnone ht hk hp
  have hle : ∀ S, Gam.le (gp base ops.size (pdn ops.size D al lo B p) H g S) (gp base ops.size (pdn ops.size (fun j => D j || j == i) al lo B p) (fun k => if k = i then ⟨w.heap.size, 0, n⟩ else H k) g S) := by
    intro S A x hA
    rcases gp_cases hA with ⟨k, k1, k2, k3, rfl, rfl⟩ | hA
    · have hki : k ≠ i := fun e1 => by subst e1; rw [hpi] at k2; cases k2
      rw [gp_in k1 (by rw [hpd]; simp [k2]) k3, if_neg hki]
    · rw [gp_out]
      · exact hA
      · intro k k1 k2 _ e1
        subst e1
        rw [hpd] at k2
        simp only [Bool.or_eq_true, beq_iff_eq] at k2
        rcases k2 with k2 | rfl
        · rw [hgn k k1 k2] at hA; cases hA
        · rw [hgi] at hA; cases hA
  have hold : ∀ b, b < w.heap.size → (newW w1 ob).heap[b]? = w.heap[b]? := fun b hb => by rw [newW_old w1 ob b (by rw [hw]; exact hb), hw]
  have hnew : (newW w1 ob).heap[w.heap.size]? = some ob := by have := newW_new w1 ob; rwa [hw] at this
  refine ⟨h.pn, fun j a b => by simp [h.below j a b], fun j a b => ?_, h.here, h.rel.more hw ob, h.ext.trans (Ext.more _ _ _ hw h1 h2 h3 ob), h.free, h.next, fun k hk => ?_, fun k k' hk hk' he => ?_, fun t => ?_, ?_, ?_, ?_, ?_⟩
  · have hne : j ≠ i := fun e1 => by subst e1; rw [hl] at b; cases b
    simp [h.above j a b, hne]
  · rw [hpd] at hk
    by_cases hki : k = i
    · subst hki
      rw [if_pos rfl]
      exact ⟨ob, hnew, rfl, hn.mono (hle _), fun A x hA => by have := h.rel.blk A x hA; simp only []; omega, h.ext.size⟩
    · have hk2 : pdn ops.size D al lo B p k = true := by
        simp only [Bool.or_eq_true, beq_iff_eq] at hk
        rcases hk with hk | hk
        · exact hk
        · exact (hki hk).elim
      simp only [if_neg hki]
      obtain ⟨ob2, o1, o2, o3, o4, o5⟩ := h.pend k hk2
      exact ⟨ob2, by rw [hold _ (Array.getElem?_eq_some_iff.1 o1).1]; exact o1, o2, o3.mono (hle _), o4, o5⟩
  · rw [hpd] at hk hk'
    have lt : ∀ k, pdn ops.size D al lo B p k = true → (H k).block < w.heap.size := fun k q => (Array.getElem?_eq_some_iff.1 (h.pend k q).choose_spec.1).1
    simp only [Bool.or_eq_true, beq_iff_eq] at hk hk'
    by_cases hki : k = i
    · by_cases hki' : k' = i
      · omega
      · rcases hk' with hk' | hk'
        · simp only [if_pos hki, if_neg hki'] at he
          have := lt k' hk'; omega
        · exact (hki' hk').elim
    · by_cases hki' : k' = i
      · rcases hk with hk | hk
        · simp only [if_neg hki, if_pos hki'] at he
          have := lt k hk; omega
        · exact (hki hk).elim
      · simp only [if_neg hki, if_neg hki'] at he
        rcases hk with hk | hk
        · rcases hk' with hk' | hk'
          · exact h.dist k k' hk hk' he
          · exact (hki' hk').elim
        · exact (hki hk).elim
  · refine h.putSlot hs ht ho hni hd hle (Gam.le_refl _) (hv _ ?_ ?_) t
    · refine Gam.le_trans (hle _) (gp_mono (fun k hk hp => ?_) fun k _ hb => by simp [hb])
      rw [hpd] at hp
      simp only [Bool.or_eq_true, beq_iff_eq] at hp
      rcases hp with hp | rfl
      · exact hgn k hk hp
      · exact hgi
    · rw [gp_in hi (by rw [hpd]; simp) (by simp), if_pos rfl]
  · cases o.dst <;> exact h.defers
  · cases hdd : o.dst with
    | none => exact h.size
    | some d => simp [Act.put, h.size]
  · intro j oj q1 q2 ed he hb
    simp only [Bool.or_eq_true, beq_iff_eq] at q1 ⊢
    rcases q1 with q1 | rfl
    · exact .inl (h.closed j oj q1 q2 ed he hb)
    · rw [ho] at q2; cases q2; exact .inl (hr ed he hb)
  · intro j q1
    simp only [Bool.or_eq_true, beq_iff_eq] at q1
    rcases q1 with q1 | rfl
    · exact h.inn j q1
    · exact hi
end inv
end Go.Ev

namespace Go.Ev
open Go
set_option linter.unusedVariables false
set_option linter.unusedSimpArgs false
variable {Ds : List Deferred}

theorem next_loud (lo : Nat → Bool) : ∀ (d q : Nat), ∃ p', q ≤ p' ∧ p' ≤ q + d ∧ (p' = q + d ∨ lo p' = true) ∧ ∀ j, q ≤ j → j < p' → lo j = false
  | 0, q => ⟨q, Nat.le_refl _, Nat.le_refl _, .inl rfl, fun j a b => by omega⟩
  | d + 1, q => by
    cases hq : lo q with
    | true => exact ⟨q, Nat.le_refl _, by omega, .inr hq, fun j a b => by omega⟩
    | false =>
      obtain ⟨p', h1, h2, h3, h4⟩ := next_loud lo d (q + 1)
      refine ⟨p', by omega, by omega, by rcases h3 with h3 | h3; exact .inl (by omega); exact .inr h3, fun j a b => ?_⟩
      by_cases hj : j = q
      · subst hj; exact hq
      · exact h4 j (by omega) b
theorem last_loud (lo : Nat → Bool) : ∀ (d q : Nat), (∀ j, q ≤ j → j < q + d → lo j = false) ∨ ∃ m, q ≤ m ∧ m < q + d ∧ lo m = true ∧ ∀ j, m < j → j < q + d → lo j = false
  | 0, q => .inl fun j a b => by omega
  | d + 1, q => by
    cases hq : lo (q + d) with
    | true => exact .inr ⟨q + d, by omega, by omega, hq, fun j a b => by omega⟩
    | false =>
      rcases last_loud lo d q with h | ⟨m, h1, h2, h3, h4⟩
      · left; intro j a b
        by_cases hj : j = q + d
        · subst hj; exact hq
        · exact h j a (by omega)
      · right
        refine ⟨m, h1, by omega, h3, fun j a b => ?_⟩
        by_cases hj : j = q + d
        · subst hj; exact hq
        · exact h4 j a (by omega)
theorem countP_lt {p q : Nat → Bool} (h : ∀ x, p x = true → q x = true) {i : Nat} (h1 : q i = true) (h2 : p i = false) : ∀ (l : List Nat), i ∈ l → l.countP p < l.countP q
  | [], hm => by cases hm
  | x :: l, hm => by
    simp only [List.countP_cons]
    by_cases hx : x = i
    · subst hx
      have := List.countP_mono_left (l := l) (p := p) (q := q) (fun x _ => h x)
      simp only [h1, h2, if_true]
      simp; omega
    · have hm2 : i ∈ l := by
        cases hm with
        | head => exact (hx rfl).elim
        | tail _ h => exact h
      have := countP_lt h h1 h2 l hm2
      have hle : (if p x = true then 1 else 0) ≤ (if q x = true then 1 else 0) := by
        by_cases hp : p x = true
        · rw [if_pos hp, if_pos (h x hp)]; exact Nat.le_refl _
        · rw [if_neg hp]; exact Nat.zero_le _
      omega

section inv
variable {P : Program} {gl : List Nat} {N : Nat} {call : CallF} {ops : Array Oper} {base : Nat} {B : List Nat} {e : Nat → Env} {τ : Nat → St} {val : Nat → Value} {ao : Nat → AObj} {lo al : Nat → Bool} {g0 : Gam} {σ0 : St} {w0 : World}
  {D : Nat → Bool} {p : Nat} {g : Gam} {H : Nat → CA} {a : Act} {w : World}

theorem gone_ex {q k : Nat} : gone lo B q k = true ↔ ∃ j, j < q ∧ lo j = true ∧ bit B j k = true := by
  simp only [gone, List.any_eq_true, List.mem_range, Bool.and_eq_true]
theorem gone_not {q k : Nat} : gone lo B q k = false ↔ ∀ j, j < q → lo j = true → bit B j k = false := by
  rw [← Bool.not_eq_true, gone_ex]
  constructor
  · intro h j h1 h2
    cases hb : bit B j k with
    | false => rfl
    | true => exact (h ⟨j, h1, h2, hb⟩).elim
  · rintro h ⟨j, h1, h2, h3⟩
    rw [h j h1 h2] at h3; cases h3
theorem Rel.none_of {g : Gam} {σ : St} {w : World} (h : Rel g σ w) {A : Nat} (hA : σ.get A = none) : g A = none := by
  cases e : g A with
  | none => rfl
  | some x => obtain ⟨ob, hob, _⟩ := h.obj _ x e; rw [hA] at hob; cases hob

/-- Behind the loud operation at the stage. -/
theorem DInv.loud (hs : OkDraw P ops B) (ht : Trc P gl ops base B e τ val ao lo al) (h : DInv Ds P gl N ops base B e τ val ao lo al g0 σ0 w0 D p g H a w) {o : Oper} (ho : ops[p]? = some o) (hni : D p = false)
    (hr : ∀ ed ∈ o.after, Region.binds .any ed = true → D ed.on = true) (hd : ∀ d, o.dst = some d → d < N) (hl : lo p = true) {v' : Value} {g' : Gam} {w' : World} (hv : VRel g' (val p) v') (hrel : Rel g' (τ (p + 1)) w')
    (hx : Ext (fun A => A = base + p ∨ (instL base ao (instAt lo al B p) (τ p)).next ≤ A) (gp base ops.size (pdn ops.size D al lo B p) H g (fun k => decide (k ∈ instAt lo al B p))) g' (instL base ao (instAt lo al B p) (τ p)) (τ (p + 1)) w w') :
    ∃ p', DInv Ds P gl N ops base B e τ val ao lo al g0 σ0 w0 (fun j => D j || j == p) p' g' H (a.put o.dst v') w' := by
  have hp : p < ops.size := (Array.getElem?_eq_some_iff.1 ho).1
  obtain ⟨p', h1, h2, h3, h4⟩ := next_loud lo (ops.size - (p + 1)) (p + 1)
  have hp' : p' ≤ ops.size := by omega
  have hτ : τ p' = τ (p + 1) := by
    have := ht.between (p + 1) (p' - (p + 1)) (by omega) (fun j a b => h4 j a (by omega))
    rwa [show p + 1 + (p' - (p + 1)) = p' by omega] at this
  have hap : al p = false := by
    cases ha : al p with
    | false => rfl
    | true => rw [ht.excl ha] at hl; cases hl
  have hgone : ∀ k, gone lo B p' k = (gone lo B p k || bit B p k) := by
    intro k
    rw [Bool.eq_iff_iff, Bool.or_eq_true, gone_ex, gone_ex]
    constructor
    · rintro ⟨j, q1, q2, q3⟩
      rcases Nat.lt_trichotomy j p with q | q | q
      · exact .inl ⟨j, q, q2, q3⟩
      · subst q; exact .inr q3
      · rw [h4 j (by omega) q1] at q2; cases q2
    · rintro (⟨j, q1, q2, q3⟩ | q)
      · exact ⟨j, by omega, q2, q3⟩
      · exact ⟨p, by omega, hl, q⟩
  have hdown := hs.down h.closed p o ho hr
  have hinst : ∀ k, k ∈ instAt lo al B p ↔ pdn ops.size D al lo B p k = true ∧ bit B p k = true := by
    intro k
    simp only [instAt, List.mem_filter, List.mem_range, Bool.and_eq_true, Bool.not_eq_true', pdn_spec]
    constructor
    · rintro ⟨q1, ⟨q2, q3⟩, q4⟩
      exact ⟨⟨by omega, hdown k q3, q2, q4⟩, q3⟩
    · rintro ⟨⟨q1, q2, q3, q4⟩, q5⟩
      exact ⟨hs.lt p k q5, ⟨q3, q5⟩, q4⟩
  have hpd : ∀ k, pdn ops.size (fun j => D j || j == p) al lo B p' k = true ↔ pdn ops.size D al lo B p k = true ∧ bit B p k = false := by
    intro k
    simp only [pdn_spec, hgone]
    constructor
    · rintro ⟨q1, q2, q3, q4⟩
      simp only [Bool.or_eq_false_iff] at q4
      have hk : k ≠ p := fun e1 => by subst e1; rw [hap] at q3; cases q3
      simp only [Bool.or_eq_true, beq_iff_eq] at q2
      rcases q2 with q2 | q2
      · exact ⟨⟨q1, q2, q3, q4.1⟩, q4.2⟩
      · exact (hk q2).elim
    · rintro ⟨⟨q1, q2, q3, q4⟩, q5⟩
      exact ⟨q1, by simp [q2], q3, by rw [q4, q5]; rfl⟩
  have hgn : ∀ k, k < ops.size → pdn ops.size D al lo B p k = true → g (base + k) = none := fun k hk hp => h.gnone ht hk hp
  have hlg1 := gp_le (S := fun k => decide (k ∈ instAt lo al B p)) (H := H) hgn
  have hlg : Gam.le g g' := Gam.le_trans hlg1 hx.le
  have hfree : ∀ k, k < ops.size → (lo k = true → p' ≤ k) → (al k = true → gone lo B p' k = false) → (τ p').get (base + k) = none := by
    intro k hk q1 q2
    have hkp : k ≠ p := fun e1 => by subst e1; have := q1 hl; omega
    have hold := h.free k hk (fun q => by have := q1 q; omega) (fun q => by have := q2 q; rw [hgone] at this; simp only [Bool.or_eq_false_iff] at this; exact this.1)
    have hni : ∀ k' ∈ instAt lo al B p, base + k ≠ base + k' := by
      intro k' hk' e1
      have : k = k' := by omega
      subst this
      obtain ⟨r1, r2⟩ := (hinst k).1 hk'
      have := q2 (pdn_spec.1 r1).2.2.1
      rw [hgone, r2] at this; simp at this
    rw [hτ, hx.frame]
    · rw [instL_get _ _ _ hni]; exact hold
    · rw [gp_out]
      · exact h.rel.none_of hold
      · intro k' r1 r2 r3
        exact hni k' (by simpa using r3)
    · rintro (q | q)
      · exact hkp (by omega)
      · rw [(instL_rest _ _).1] at q
        have := h.next; omega
  have hgn' : ∀ k, k < ops.size → pdn ops.size (fun j => D j || j == p) al lo B p' k = true → g' (base + k) = none := by
    intro k hk hpk
    have := hfree k hk (fun q => by rw [ht.excl (pdn_spec.1 hpk).2.2.1] at q; cases q) (fun _ => (pdn_spec.1 hpk).2.2.2)
    rw [hτ] at this
    exact hrel.none_of this
  have hle : ∀ S, Gam.le (gp base ops.size (pdn ops.size D al lo B p) H g S) (gp base ops.size (pdn ops.size (fun j => D j || j == p) al lo B p') H g' S) := by
    intro S A x hA
    rcases gp_cases hA with ⟨k, k1, k2, k3, rfl, rfl⟩ | hA
    · cases hb : bit B p k with
      | false => exact gp_in k1 ((hpd k).2 ⟨k2, hb⟩) k3
      | true =>
        rw [gp_out]
        · exact hx.le _ _ (gp_in k1 k2 (by simpa using (hinst k).2 ⟨k2, hb⟩))
        · intro k' _ r2 _ e1
          have : k = k' := by omega
          subst this
          rw [((hpd k).1 r2).2] at hb; cases hb
    · exact gp_le hgn' _ _ (hlg _ _ hA)
  have hsep1 : ∀ k, pdn ops.size (fun j => D j || j == p) al lo B p' k = true → ∀ A x, gp base ops.size (pdn ops.size D al lo B p) H g (fun k => decide (k ∈ instAt lo al B p)) A = some x → x.block ≠ (H k).block := by
    intro k hk A x hA e1
    obtain ⟨hk1, hk2⟩ := (hpd k).1 hk
    rcases gp_cases hA with ⟨k', k1, k2, k3, rfl, rfl⟩ | hA
    · have := h.dist k' k k2 hk1 e1
      subst this
      have := (hinst k').1 (by simpa using k3)
      rw [hk2] at this; cases this.2
    · obtain ⟨_, _, _, _, r, _⟩ := h.pend k hk1
      exact r A x hA e1
  have hpl : ∀ k ∈ instAt lo al B p, pdn ops.size D al lo B p k = true := fun k hk => ((hinst k).1 hk).1
  refine ⟨p', hp', fun j a b => ?_, fun j a b => ?_, by rcases h3 with h3 | h3; exact .inl (by omega); exact .inr h3, by rw [hτ]; exact hrel, ?_, hfree, ?_, fun k hk => ?_, fun k k' hk hk' he => h.dist k k' ((hpd k).1 hk).1 ((hpd k').1 hk').1 he, fun t => ?_, ?_, ?_, ?_, ?_⟩
  · rcases Nat.lt_trichotomy j p with q | q | q
    · simp [h.below j q b]
    · simp [q]
    · rw [h4 j (by omega) a] at b; cases b
  · have hne : j ≠ p := by omega
    simp [h.above j (by omega) b, hne]
  · rw [hτ]
    refine (h.instExt hs ht _ hpl).trans (hx.mono fun A hA => ?_)
    rw [(instL_rest _ _).1] at hA
    have := h.next
    rcases hA with hA | hA <;> omega
  · rw [hτ]
    refine Nat.le_trans ?_ hx.next
    rw [(instL_rest _ _).1]; exact h.next
  · obtain ⟨hk1, hk2⟩ := (hpd k).1 hk
    obtain ⟨ob, o1, o2, o3, o4, o5⟩ := h.pend k hk1
    have hlt := (Array.getElem?_eq_some_iff.1 o1).1
    refine ⟨ob, ?_, o2, o3.mono (hle _), fun A x hA e1 => ?_, o5⟩
    · rw [hx.keep _ hlt fun A x hA e1 => (hsep1 k hk A x hA e1).elim]; exact o1
    · cases hg1 : gp base ops.size (pdn ops.size D al lo B p) H g (fun k => decide (k ∈ instAt lo al B p)) A with
      | some y =>
        have : y = x := Option.some.inj ((hx.le _ _ hg1).symm.trans hA)
        subst this
        exact hsep1 k hk A y hg1 e1
      | none =>
        rcases hx.fresh A x hA hg1 with q | ⟨A0, x0, r1, r2, _⟩
        · omega
        · exact hsep1 k hk A0 x0 r1 (r2.trans e1)
  · exact h.putSlot hs ht ho hni hd hle hlg (hv.mono (gp_le hgn')) t
  · cases o.dst <;> exact h.defers
  · cases hdd : o.dst with
    | none => exact h.size
    | some d => simp [Act.put, h.size]
  · intro j oj q1 q2 ed he hb
    simp only [Bool.or_eq_true, beq_iff_eq] at q1 ⊢
    rcases q1 with q1 | rfl
    · exact .inl (h.closed j oj q1 q2 ed he hb)
    · rw [ho] at q2; cases q2; exact .inl (hr ed he hb)
  · intro j q1
    simp only [Bool.or_eq_true, beq_iff_eq] at q1
    rcases q1 with q1 | rfl
    · exact h.inn j q1
    · exact hp

/-- What a ready read finds at the stage is what it found in the text's order. -/
theorem DInv.readAt (hs : OkDraw P ops B) (ht : Trc P gl ops base B e τ val ao lo al) (h : DInv Ds P gl N ops base B e τ val ao lo al g0 σ0 w0 D p g H a w) {i : Nat} {o : Oper} (ho : ops[i]? = some o) (hni : D i = false)
    (hr : ∀ ed ∈ o.after, Region.binds .any ed = true → D ed.on = true) (hl : lo i = false) (h0 : evalOp P (rho (e i)) (base + i) o (τ i) = some (.val (val i) (τ i)))
    (hall : ∀ j, j < ops.size → lo j = true → bit B i j = false → bit B j i = false → evalOp P (rho (e i)) (base + i) o (τ j) = some (.val (val i) (τ j)) ∧ evalOp P (rho (e i)) (base + i) o (τ (j + 1)) = some (.val (val i) (τ (j + 1)))) :
    evalOp P (rho (e i)) (base + i) o (τ p) = some (.val (val i) (τ p)) := by
  have hi : i < ops.size := (Array.getElem?_eq_some_iff.1 ho).1
  have hdown := hs.down h.closed i o ho hr
  rcases Nat.lt_or_ge i p with hip | hip
  · rcases last_loud lo (p - i) i with q | ⟨m, m1, m2, m3, m4⟩
    · have := ht.between i (p - i) (by have := h.pn; omega) q
      rw [show i + (p - i) = p by omega] at this
      rw [this]; exact h0
    · have hmp : m < p := by omega
      have hD := h.below m hmp m3
      have hmn := h.inn m hD
      have hmi : m ≠ i := fun e1 => by subst e1; rw [hl] at m3; cases m3
      have hb1 : bit B m i = false := by
        cases hb : bit B m i with
        | false => rfl
        | true =>
          have := hs.down h.closed m _ (Array.getElem?_eq_getElem hmn) (h.closed m _ hD (Array.getElem?_eq_getElem hmn)) i hb
          rw [hni] at this; cases this
      have hb2 : bit B i m = false := by
        cases hb : bit B i m with
        | false => rfl
        | true => have := hs.lt i m hb; omega
      have h1 := (hall m hmn m3 hb2 hb1).2
      have := ht.between (m + 1) (p - (m + 1)) (by have := h.pn; omega) (fun j q1 q2 => m4 j (by omega) (by omega))
      rw [show m + 1 + (p - (m + 1)) = p by omega] at this
      rw [this]; exact h1
  · by_cases hpi : p = i
    · rw [hpi]; exact h0
    · have hlp : lo p = true := by
        rcases h.here with q | q
        · omega
        · exact q
      have hDp := h.above p (Nat.le_refl _) hlp
      have hb2 : bit B i p = false := by
        cases hb : bit B i p with
        | false => rfl
        | true => rw [hdown p hb] at hDp; cases hDp
      have hb1 : bit B p i = false := by
        cases hb : bit B p i with
        | false => rfl
        | true => have := hs.lt p i hb; omega
      exact (hall p (by omega) hlp hb2 hb1).1

/-- Where all is done: the state at the end, with what is made and not installed. -/
theorem DInv.done (hs : OkDraw P ops B) (ht : Trc P gl ops base B e τ val ao lo al) (h : DInv Ds P gl N ops base B e τ val ao lo al g0 σ0 w0 D p g H a w) (hall : ∀ i, i < ops.size → D i = true) :
    ∃ g', Rel g' (instL base ao (pendAt lo al B ops.size) (τ ops.size)) w ∧ EnvRel Ds g' N (e ops.size) a ∧ Ext (fun A => base ≤ A) g0 g' σ0 (instL base ao (pendAt lo al B ops.size) (τ ops.size)) w0 w := by
  have hp : p = ops.size := by
    rcases h.here with q | q
    · exact q
    · have h1 := h.above p (Nat.le_refl _) q
      rcases Nat.lt_or_ge p ops.size with h2 | h2
      · rw [hall p h2] at h1; cases h1
      · have := h.pn; omega
  subst hp
  have hmem : ∀ k, k ∈ pendAt lo al B ops.size ↔ pdn ops.size D al lo B ops.size k = true := by
    intro k
    simp only [pendAt, List.mem_filter, List.mem_range, Bool.and_eq_true, Bool.not_eq_true', pdn_spec]
    constructor
    · rintro ⟨q1, q2, q3⟩; exact ⟨q1, hall k q1, q2, q3⟩
    · rintro ⟨q1, q2, q3, q4⟩; exact ⟨q1, q3, q4⟩
  have hgn : ∀ k, k < ops.size → pdn ops.size D al lo B ops.size k = true → g (base + k) = none := fun k hk hp => h.gnone ht hk hp
  refine ⟨_, h.install hs ht _ (fun k hk => (hmem k).1 hk) ?_ (fun k _ k' hk' _ => (hmem k').2 hk'), ?_, h.instExt hs ht _ (fun k hk => (hmem k).1 hk)⟩
  · unfold pendAt
    exact List.Pairwise.filter _ List.pairwise_lt_range
  · refine ⟨h.defers, h.size, fun t => ?_⟩
    rcases eget_last ht t ops.size (Nat.le_refl _) with ⟨k, o, h1, h2, h3, h4, h5⟩ | ⟨h1, h2⟩
    · rcases h.slot t with ⟨j, oj, q1, q2, q3, q4, q5⟩ | ⟨q1, _⟩
      · have hkj := q4 k o (hall k h1) h2 h3
        have hjk := h4 j oj (h.inn j q1) q2 q3
        have : j = k := by omega
        subst this
        rw [h5]
        exact q5.mono (gp_mono hgn fun k hk _ => by simpa using (hmem k).2 hk)
      · exact (q1 k o (hall k h1) h2 h3).elim
    · rcases h.slot t with ⟨j, oj, q1, q2, q3, _⟩ | ⟨_, q2⟩
      · exact (h1 j oj (h.inn j q1) q2 q3).elim
      · rw [h2]; exact q2.mono (gp_le hgn)

theorem DInv.congr {D' : Nat → Bool} (h : DInv Ds P gl N ops base B e τ val ao lo al g0 σ0 w0 D p g H a w) (hD : ∀ i, D i = D' i) : DInv Ds P gl N ops base B e τ val ao lo al g0 σ0 w0 D' p g H a w := by
  have : D = D' := funext hD
  rwa [← this]

theorem okDst {gl : List Nat} {N : Nat} {o : Oper} (h : okOper gl N o = true) : ∀ d, o.dst = some d → d < N := by
  intro d hd
  simp only [okOper, Bool.and_eq_true] at h
  rw [hd] at h
  simpa using h.2

theorem draw_any (hs : OkDraw P ops B) (ht : Trc P gl ops base B e τ val ao lo al) (hg0 : Glob gl g0) (hok : ∀ o ∈ ops.toList, okOper gl N o = true ∧ okGuard ops N o = true) {Q : Exit → Act → World → Prop}
    (k : ∀ a w g', Rel g' (instL base ao (pendAt lo al B ops.size) (τ ops.size)) w → EnvRel Ds g' N (e ops.size) a → Ext (fun A => base ≤ A) g0 g' σ0 (instL base ao (pendAt lo al B ops.size) (τ ops.size)) w0 w → Q .normal a w) :
    ∀ (fuel : Nat) (listed : Array Bool) (p : Nat) (g : Gam) (H : Nat → CA) (a : Act) (w : World), listed.size = ops.size → (List.range ops.size).countP (fun i => !listed.getD i false) ≤ fuel →
      DInv Ds P gl N ops base B e τ val ao lo al g0 σ0 w0 (fun i => listed.getD i false) p g H a w → wpAny P .any ops Q fuel listed a w := by
  have hfin : ∀ (listed : Array Bool) (p : Nat) (g : Gam) (H : Nat → CA) (a : Act) (w : World), listed.size = ops.size → (∀ i, i < ops.size → listed.getD i false = true) →
      DInv Ds P gl N ops base B e τ val ao lo al g0 σ0 w0 (fun i => listed.getD i false) p g H a w → Q .normal a w := by
    intro listed p g H a w hsz hall h
    obtain ⟨g', r1, r2, r3⟩ := h.done hs ht hall
    exact k a w g' r1 r2 r3
  have hready : ∀ (listed : Array Bool), listed.size = ops.size → Region.ready .any ops listed = [] → ∀ i, i < ops.size → listed.getD i false = true := by
    intro listed hsz hre i
    induction i using Nat.strongRecOn with
    | _ i ih =>
      intro hi
      cases hli : listed.getD i false with
      | true => rfl
      | false =>
        have : i ∈ Region.ready .any ops listed := by
          refine mem_ready.2 ⟨?_, ops[i], Array.getElem?_eq_getElem hi, fun ed he hb => ?_⟩
          · have : i < listed.size := by omega
            simp [this] at hli ⊢; exact hli
          · have := hs.edge i _ (Array.getElem?_eq_getElem hi) ed he hb
            exact ih _ this (by omega)
        rw [hre] at this; cases this
  intro fuel
  induction fuel with
  | zero =>
    intro listed p g H a w hsz hm h
    have hall : ∀ i, i < ops.size → listed.getD i false = true := by
      intro i hi
      have h0 : (List.range ops.size).countP (fun i => !listed.getD i false) = 0 := by omega
      rw [List.countP_eq_zero] at h0
      have := h0 i (List.mem_range.2 hi)
      simpa using this
    refine ⟨?_, hfin listed p g H a w hsz hall h⟩
    cases hre : Region.ready .any ops listed with
    | nil => rfl
    | cons i r =>
      have : i ∈ Region.ready .any ops listed := by rw [hre]; exact List.mem_cons_self
      obtain ⟨h1, o, h2, _⟩ := mem_ready.1 this
      have hi : i < ops.size := (Array.getElem?_eq_some_iff.1 h2).1
      have h3 := hall i hi
      have : i < listed.size := by omega
      simp [this] at h1 h3
      rw [h1] at h3; cases h3
  | succ fuel ih =>
    intro listed p g H a w hsz hm h
    refine ⟨fun hre => hfin listed p g H a w hsz (hready listed hsz hre) h, fun i hi => ?_⟩
    obtain ⟨h1, o, ho, hr⟩ := mem_ready.1 hi
    have hin : i < ops.size := (Array.getElem?_eq_some_iff.1 ho).1
    have hlt : i < listed.size := by omega
    have hni : (fun i => listed.getD i false) i = false := by simp [hlt] at h1 ⊢; exact h1
    have hD' : ∀ j, ((fun i => listed.getD i false) j || j == i) = (listed.setIfInBounds i true).getD j false := by
      intro j
      by_cases hj : i = j
      · subst hj; simp [hlt]
      · rw [getD_set_ne false hj]; simp; exact fun e1 => (hj e1.symm).elim
    have hsz' : (listed.setIfInBounds i true).size = ops.size := by simp [hsz]
    have hm' : (List.range ops.size).countP (fun j => !(listed.setIfInBounds i true).getD j false) ≤ fuel := by
      have := countP_lt (p := fun j => !(listed.setIfInBounds i true).getD j false) (q := fun j => !listed.getD j false) (fun x hx => by
        have := hD' x
        simp only [Bool.not_eq_true'] at hx ⊢
        rw [hx] at this
        simp only [Bool.or_eq_false_iff] at this
        exact this.1) (i := i) (by simpa using hni) (by have := hD' i; rw [← this]; simp) (List.range ops.size) (List.mem_range.2 hin)
      omega
    have next : ∀ p g H a w, DInv Ds P gl N ops base B e τ val ao lo al g0 σ0 w0 (fun j => (fun i => listed.getD i false) j || j == i) p g H a w → wpAny P .any ops Q fuel (listed.setIfInBounds i true) a w :=
      fun p g H a w hh => ih _ p g H a w hsz' hm' (hh.congr hD')
    obtain ⟨hok1, hok2⟩ := hok o (by rw [Array.mem_toList_iff]; exact Array.mem_of_getElem? ho)
    have hd := okDst hok1
    have hwt := h.wanted hs ht ho hni hr hok2
    have hgn : ∀ k, k < ops.size → pdn ops.size (fun i => listed.getD i false) al lo B p k = true → g (base + k) = none := fun k hk hp => h.gnone ht hk hp
    have hρ := h.opnds hs ht hg0 ho hni hr hok1
    unfold wpOp
    rw [ho]
    simp only [hwt]
    rcases ht.step i o ho with ⟨s1, s2, s3, s4, s5⟩ | ⟨s1, s2, s3, s4, s5⟩ | ⟨s1, s2, s3, s4, s5⟩ | ⟨s1, s2, s3, s4, s5, s6, s7⟩ | ⟨s1, s2, s3, ρ, hρe, s4⟩
    · rw [s1]
      refine next _ _ _ _ _ (h.quiet hs ht ho hni hr hd s3 s4 ?_)
      rw [s2]; exact .tuple _ _ rfl fun i h => by simp at h
    · rw [s1, if_pos rfl]
      left
      obtain ⟨v', e1, hv⟩ := s5 _ a.eval w hρ
      unfold Oper.wp
      rw [e1]
      exact next _ _ _ _ _ (h.quiet hs ht ho hni hr hd s2 s3 hv)
    · rw [s1, if_pos rfl]
      left
      obtain ⟨ob, n, v', w1, q1, q2, q3, q4, e1, hv, hn⟩ := s5.2 _ a.eval w hρ
      unfold Oper.wp
      rw [e1]
      exact next _ _ _ _ _ (h.alloc hs ht ho hni hr hd s2 s3 q1 q2 q3 q4 hv hn)
    · rw [s1, if_pos rfl]
      left
      have hat := h.readAt hs ht ho hni hr s2 s6 s7
      obtain ⟨v, q1, q2⟩ := evalOp_read s5 hat
      cases q1
      obtain ⟨v', e1, hv⟩ := q2 g _ a.eval w h.rel (fun A x hA hne => by
        rcases gp_cases hA with ⟨k, k1, k2, k3, rfl, rfl⟩ | hA
        · obtain ⟨_, r2, r3, r4⟩ := pdn_spec.1 k2
          exact (hne (h.free k k1 (fun hl => by rw [ht.excl r3] at hl; cases hl) (fun _ => r4))).elim
        · exact hA) hρ
      unfold Oper.wp
      rw [e1]
      exact next _ _ _ _ _ (h.quiet hs ht ho hni hr hd s2 s3 (hv.mono (gp_le hgn)))
    · rw [s1, if_pos rfl]
      left
      have hip : i = p := by
        have hge : p ≤ i := by
          rcases Nat.lt_or_ge i p with q | q
          · exact absurd (h.below i q s2) (by simp only [hni]; simp)
          · exact q
        rcases Nat.lt_or_ge p i with q | q
        · have hlp : lo p = true := by
            rcases h.here with r | r
            · omega
            · exact r
          have hDp := h.above p (Nat.le_refl _) hlp
          obtain ⟨o2, r1, r2⟩ := ht.loud p hlp
          obtain ⟨o3, r3, r4⟩ := ht.loud i s2
          rcases hs.louds i o3 p o2 r3 r1 (by omega) r4 r2 with b | b
          · have := hs.down h.closed i o ho hr p b
            rw [hDp] at this; cases this
          · have := hs.lt p i b; omega
        · omega
      subst hip
      have hdown := hs.down h.closed i o ho hr
      have hinst : ∀ k, k ∈ instAt lo al B i ↔ pdn ops.size (fun i => listed.getD i false) al lo B i k = true ∧ bit B i k = true := by
        intro k
        simp only [instAt, List.mem_filter, List.mem_range, Bool.and_eq_true, Bool.not_eq_true', pdn_spec]
        constructor
        · rintro ⟨q1, ⟨q2, q3⟩, q4⟩
          exact ⟨⟨by omega, hdown k q3, q2, q4⟩, q3⟩
        · rintro ⟨⟨q1, q2, q3, q4⟩, q5⟩
          exact ⟨hs.lt i k q5, ⟨q3, q5⟩, q4⟩
      have hpl := fun k hk => ((hinst k).1 hk).1
      have hrel := h.install hs ht (instAt lo al B i) hpl (by unfold instAt; exact List.Pairwise.filter _ List.pairwise_lt_range) (fun k hk k' hk' hb => (hinst k').2 ⟨hk', hs.tr i k k' ((hinst k).1 hk).2 hb⟩)
      have hex := h.instExt hs ht (instAt lo al B i) hpl
      have hal : al i = false := s3
      refine s4.wp (hg0.mono hex.le) hrel ?_ ?_ (fun x hx => by rw [hρe x hx]; exact (hρ x hx).mono (gp_mono hgn fun k hk hb => by simpa using (hinst k).2 ⟨hk, hb⟩)) fun v' w' g' r1 r2 r3 => ?_
      · rw [instL_get]
        · exact h.free i hin (fun _ => Nat.le_refl _) (fun q => by rw [hal] at q; cases q)
        · intro k hk e1
          have := hs.lt i k ((hinst k).1 hk).2
          omega
      · rw [(instL_rest _ _).1]; have := h.next; omega
      · obtain ⟨p', hp'⟩ := h.loud hs ht ho hni hr hd s2 r1 r2 r3
        exact next _ _ _ _ _ hp'
end inv

/-- A region that draws its order, from its trace. -/
theorem simC_draw {P : Program} {gl : List Nat} {N : Nat} (hm : P.follows .mixedOrders = true) {id : Nat} {ops : Array Oper} {B : List Nat} {e : Nat → Env} {τ : Nat → St} {val : Nat → Value} {ao : Nat → AObj} {lo al : Nat → Bool} {env : Env} {σ : St}
    (hs : OkDraw P ops B) (ht : Trc P gl ops σ.next B e τ val ao lo al) (h0 : e 0 = env) (hτ : τ 0 = σ.bump ops.size) (hok : ∀ o ∈ ops.toList, okOper gl N o = true ∧ okGuard ops N o = true) :
    SimC P gl N (.region id ops true) env σ .normal (e ops.size) (instL σ.next ao (pendAt lo al B ops.size) (τ ops.size)) := by
  intro Ds g w a hg hr he
  refine wp_region_any hm ?_
  obtain ⟨p, h1, h2, h3, h4⟩ := next_loud lo ops.size 0
  have hτp : τ p = σ.bump ops.size := by
    have := ht.between 0 p (by omega) (fun j a b => h4 j a (by omega))
    rw [Nat.zero_add] at this
    rw [this, hτ]
  have hF : ∀ i, (Array.replicate ops.size false).getD i false = false := by
    intro i
    simp only [Array.getD_eq_getD_getElem?, Array.getElem?_replicate]
    split <;> rfl
  have hpd : ∀ k, pdn ops.size (fun i => (Array.replicate ops.size false).getD i false) al lo B p k = false := by
    intro k; simp only [pdn, hF]; simp
  refine draw_any (g0 := g) (σ0 := σ) (w0 := w) hs ht hg hok (fun a' w' g' r1 r2 r3 => ⟨rfl, g', r1, r2, r3⟩) ops.size (Array.replicate ops.size false) p g (fun _ => ⟨0, 0, 0⟩) a _ (by simp) ?_ ?_
  · exact Nat.le_trans List.countP_le_length (by simp)
  · refine ⟨by omega, fun j q1 q2 => (by rw [h4 j (by omega) q1] at q2; cases q2), fun j _ _ => hF j, (by rcases h3 with h3 | h3; exact .inl (by omega); exact .inr h3), ?_, ?_, fun k _ _ _ => ?_, ?_, fun k hk => (by rw [hpd] at hk; cases hk), fun k k' hk => (by rw [hpd] at hk; cases hk), fun t => .inr ⟨fun i o hi => (by simp only [hF] at hi; cases hi), ?_⟩, he.defers, he.size, fun i o hi => (by simp only [hF] at hi; cases hi), fun i hi => (by simp only [hF] at hi; cases hi)⟩
    · rw [hτp]; exact (hr.bump _).heap rfl
    · rw [hτp]; exact (Ext.bump g σ w _).trans (Ext.heap rfl rfl rfl rfl)
    · rw [hτp]
      cases e1 : (σ.bump ops.size).get (σ.next + k) with
      | none => rfl
      | some ob => have := hr.wf.lt _ ob e1; omega
    · rw [hτp]; exact Nat.le_refl _
    · rw [h0]; exact he.slot t
end Go.Ev

namespace Go.Ev
open Go
set_option linter.unusedVariables false
set_option linter.unusedSimpArgs false

/-! ## What is looked at in the text alone -/
def beforesGo : List Oper → List Nat → List Nat
  | [], B => B
  | o :: l, B => beforesGo l (B ++ [edgeBits B o.after.toList])
def befores (ops : Array Oper) : List Nat := beforesGo ops.toList []

def okEdges (o : Oper) (i : Nat) (B : List Nat) : Bool := o.after.toList.all (fun e => !Region.binds .any e || decide (e.on < i)) && B.getD i 0 == edgeBits B o.after.toList
def okPair (P : Program) (ops : Array Oper) (B : List Nat) (i : Nat) (o : Oper) (k : Nat) (ok : Oper) : Bool :=
  k == i || bit B i k || bit B k i || !((match ok.dst with | some d => (o.looksAt ops).contains d || o.dst == some d | none => false) || (decide (clsOf P o.op = .loud) && decide (clsOf P ok.op = .loud)))
def okDraw (P : Program) (ops : Array Oper) (B : List Nat) : Bool :=
  B.length == ops.size && ops.toList.zipIdx.all (fun x => okEdges x.1 x.2 B && ops.toList.zipIdx.all (fun y => okPair P ops B x.2 x.1 y.2 y.1))

theorem edgeBits_in (B : List Nat) (j : Nat) : ∀ (l : List Edge) (s : Nat), (s.testBit j = true ∨ ∃ e ∈ l, Region.binds .any e = true ∧ (e.on = j ∨ bit B e.on j = true)) →
    (l.foldl (fun s e => if Region.binds .any e then s ||| 2 ^ e.on ||| B.getD e.on 0 else s) s).testBit j = true
  | [], s, h => by
    rcases h with h | ⟨e, h, _⟩
    · exact h
    · cases h
  | e :: l, s, h => by
    rw [List.foldl_cons]
    refine edgeBits_in B j l _ ?_
    rcases h with h | ⟨e', h1, h2, h3⟩
    · left
      split
      · rw [Nat.testBit_or, Nat.testBit_or, h]; rfl
      · exact h
    · cases h1 with
      | head =>
        left
        rw [if_pos h2, Nat.testBit_or, Nat.testBit_or, Nat.testBit_two_pow]
        rcases h3 with h3 | h3
        · simp [h3]
        · simp only [bit] at h3; rw [h3]; simp
      | tail _ h1 => exact .inr ⟨e', h1, h2, h3⟩

theorem okDraw_ok {P : Program} {ops : Array Oper} {B : List Nat} (h : okDraw P ops B = true) : OkDraw P ops B := by
  simp only [okDraw, Bool.and_eq_true, List.all_eq_true, beq_iff_eq] at h
  obtain ⟨hlen, hall⟩ := h
  have mem : ∀ (i : Nat) (o : Oper), ops[i]? = some o → (o, i) ∈ ops.toList.zipIdx := by
    intro i o ho
    rw [List.mem_zipIdx_iff_getElem?]
    simpa using ho
  have hE := fun i o (ho : ops[i]? = some o) => (hall _ (mem i o ho)).1
  have hP := fun i o k ok (ho : ops[i]? = some o) (hk : ops[k]? = some ok) => (hall _ (mem i o ho)).2 _ (mem k ok hk)
  simp only [okEdges, Bool.and_eq_true, List.all_eq_true, Bool.or_eq_true, Bool.not_eq_true', decide_eq_true_eq, beq_iff_eq] at hE
  have edge : ∀ i o, ops[i]? = some o → ∀ e ∈ o.after, Region.binds .any e = true → e.on < i := by
    intro i o ho e he hb
    rcases (hE i o ho).1 e (by simpa using he) with q | q
    · rw [hb] at q; cases q
    · exact q
  have ex : ∀ i o j, ops[i]? = some o → bit B i j = true → ∃ e ∈ o.after, Region.binds .any e = true ∧ (e.on = j ∨ bit B e.on j = true) := by
    intro i o j ho hb
    unfold bit at hb
    rw [(hE i o ho).2] at hb
    rcases edgeBits_ex B j _ _ hb with q | ⟨e, q1, q2⟩
    · simp at q
    · exact ⟨e, by simpa using q1, q2⟩
  have inn : ∀ i o j, ops[i]? = some o → (∃ e ∈ o.after, Region.binds .any e = true ∧ (e.on = j ∨ bit B e.on j = true)) → bit B i j = true := by
    rintro i o j ho ⟨e, q1, q2⟩
    unfold bit
    rw [(hE i o ho).2]
    exact edgeBits_in B j _ _ (.inr ⟨e, by simpa using q1, q2⟩)
  have out : ∀ i j, ops.size ≤ i → bit B i j = false := by
    intro i j hi
    unfold bit
    have : B.getD i 0 = 0 := by rw [List.getD_eq_getElem?_getD, List.getElem?_eq_none (by omega)]; rfl
    rw [this]; simp
  refine ⟨edge, ex, out, ?_, fun i o k ok d ho hk hne hd hl => ?_, fun i o k ok d ho hk hne hd hl => ?_, fun i o k ok ho hk hne h1 h2 => ?_⟩
  · intro i
    induction i using Nat.strongRecOn with
    | _ i ih =>
      intro j k h1 h2
      have hi : i < ops.size := by
        rcases Nat.lt_or_ge i ops.size with q | q
        · exact q
        · rw [out i j q] at h1; cases h1
      have ho : ops[i]? = some ops[i] := Array.getElem?_eq_getElem hi
      obtain ⟨e, he, hb, h3⟩ := ex i _ j ho h1
      refine inn i _ k ho ⟨e, he, hb, .inr ?_⟩
      rcases h3 with rfl | h3
      · exact h2
      · exact ih e.on (edge i _ ho e he hb) j k h3 h2
  · have := hP i o k ok ho hk
    simp only [okPair, hd, Bool.or_eq_true, beq_iff_eq, Bool.not_eq_true', Bool.or_eq_false_iff] at this
    rcases this with ((q | q) | q) | q
    · exact (hne q).elim
    · exact .inl q
    · exact .inr q
    · have := q.1.1
      rw [List.contains_eq_mem] at this
      simp at this
      exact (this hl).elim
  · have := hP i o k ok ho hk
    simp only [okPair, hd, Bool.or_eq_true, beq_iff_eq, Bool.not_eq_true', Bool.or_eq_false_iff] at this
    rcases this with ((q | q) | q) | q
    · exact (hne q).elim
    · exact .inl q
    · exact .inr q
    · have := q.1.2
      rw [hl] at this
      simp at this
  · have := hP i o k ok ho hk
    simp only [okPair, Bool.or_eq_true, beq_iff_eq, Bool.not_eq_true', Bool.or_eq_false_iff, h1, h2] at this
    rcases this with ((q | q) | q) | q
    · exact (hne q).elim
    · exact .inl q
    · exact .inr q
    · have := q.2; simp at this

/-! ## The run in the text's order -/
structure TRow where
  v : Value
  k : Nat
  ao : AObj
  env : Env
  st : St

def rlo (R : List TRow) (i : Nat) : Bool := match R[i]? with | some r => r.k == 4 | none => false
def ral (R : List TRow) (i : Nat) : Bool := match R[i]? with | some r => r.k == 2 | none => false
def rval (R : List TRow) (i : Nat) : Value := match R[i]? with | some r => r.v | none => undef
def rao (R : List TRow) (i : Nat) : AObj := match R[i]? with | some r => r.ao | none => .iter .empty 0
def renv (R : List TRow) (env : Env) (i : Nat) : Env := match R[i]? with | some r => r.env | none => env
def rst (R : List TRow) (σ : St) (i : Nat) : St := match R[i]? with | some r => r.st | none => σ

def drawRow (P : Program) (call : CallF) (ops : Array Oper) (base : Nat) (B : List Nat) (R : List TRow) (i : Nat) (env : Env) (σ : St) (o : Oper) : Option (TRow × St) :=
  if wantedA ops env o then
    match clsOf P o.op with
    | .pure => match evalOp P (rho env) (base + i) o σ with
      | some (.val v _) => some (⟨v, 1, .iter .empty 0, env, σ⟩, σ)
      | _ => none
    | .alloc => match evalOp P (rho env) (base + i) o σ with
      | some (.val v σ') => match σ'.get (base + i) with
        | some ao => some (⟨v, 2, ao, env, σ⟩, σ)
        | none => none
      | _ => none
    | .read => match evalOp P (rho env) (base + i) o σ with
      | some (.val v _) => some (⟨v, 3, .iter .empty 0, env, σ⟩, σ)
      | _ => none
    | .loud => match stepOp P call env (base + i) o (instL base (rao R) (instAt (rlo R) (ral R) B i) σ) with
      | some (v, σ') => some (⟨v, 4, .iter .empty 0, env, σ⟩, σ')
      | none => none
  else some (⟨undef, 0, .iter .empty 0, env, σ⟩, σ)
def goDraw (P : Program) (call : CallF) (ops : Array Oper) (base : Nat) (B : List Nat) : List Oper → Nat → Env → St → List TRow → Option (List TRow × Env × St)
  | [], _, env, σ, R => some (R, env, σ)
  | o :: l, i, env, σ, R => match drawRow P call ops base B R i env σ o with
    | some (r, σ') => goDraw P call ops base B l (i + 1) (eputo env o.dst r.v) σ' (R ++ [r])
    | none => none

def veq0 : Value → Value → Bool
  | .bool a, .bool b => a == b
  | .int k a, .int k' b => decide (k = k') && decide (a = b)
  | .float k a, .float k' b => decide (k = k') && decide (a = b)
  | .pointer a, .pointer b => decide (a = b)
  | .slice a n c, .slice b m d => decide (a = b) && n == m && c == d
  | .string a, .string b => decide (a = b)
  | .map a, .map b => decide (a = b)
  | .nilIface, .nilIface => true
  | .nilFunc, .nilFunc => true
  | _, _ => false
def veqs : List Value → List Value → Bool
  | [], [] => true
  | a :: l, b :: m => veq0 a b && veqs l m
  | _, _ => false
def veq : Value → Value → Bool
  | .agg a, .agg b => veqs a.toList b.toList
  | .iface t a, .iface u b => t == u && veq0 a b
  | a, b => veq0 a b
theorem veq0_eq {a b : Value} (h : veq0 a b = true) : a = b := by
  unfold veq0 at h
  split at h <;> simp_all
theorem veqs_eq : ∀ {l m : List Value}, veqs l m = true → l = m
  | [], [], _ => rfl
  | [], _ :: _, h => by simp [veqs] at h
  | _ :: _, [], h => by simp [veqs] at h
  | a :: l, b :: m, h => by
    simp only [veqs, Bool.and_eq_true] at h
    rw [veq0_eq h.1, veqs_eq h.2]
theorem veq_eq {a b : Value} (h : veq a b = true) : a = b := by
  unfold veq at h
  split at h
  · rename_i x y
    have := veqs_eq h
    rw [← Array.toArray_toList (xs := x), this, Array.toArray_toList]
  · simp only [Bool.and_eq_true, beq_iff_eq] at h
    rw [h.1, veq0_eq h.2]
  · exact veq0_eq h

/-- A read comes to v in this state too. -/
def sameRead (P : Program) (ρ : Operand → Value) (id : Nat) (o : Oper) (v : Value) (σ : St) : Bool :=
  match evalOp P ρ id o σ with
  | some (.val v' _) => veq v' v
  | _ => false
def chkReads (P : Program) (ops : Array Oper) (base : Nat) (B : List Nat) (R : List TRow) (env : Env) (σ : St) : Bool :=
  ops.toList.zipIdx.all fun x => match R[x.2]? with
    | some r => !(r.k == 3) || (List.range ops.size).all fun j => !rlo R j || bit B x.2 j || bit B j x.2 || (sameRead P (rho r.env) (base + x.2) x.1 r.v (rst R σ j) && sameRead P (rho r.env) (base + x.2) x.1 r.v (rst R σ (j + 1)))
    | none => true

def evalDraw (P : Program) (call : CallF) (ops : Array Oper) (env : Env) (σ : St) : Option (Env × St) :=
  let B := befores ops
  if okDraw P ops B then
    match goDraw P call ops σ.next B ops.toList 0 env (σ.bump ops.size) [] with
    | some (R, env', σ') => if chkReads P ops σ.next B R env' σ' then some (env', instL σ.next (rao R) (pendAt (rlo R) (ral R) B ops.size) σ') else none
    | none => none
  else none

theorem gone_congr {lo lo' : Nat → Bool} {B : List Nat} {p : Nat} (h : ∀ j, j < p → lo j = lo' j) (k : Nat) : gone lo B p k = gone lo' B p k := by
  rw [Bool.eq_iff_iff, gone_ex, gone_ex]
  constructor
  · rintro ⟨j, a, b, c⟩; exact ⟨j, a, by rw [← h j a]; exact b, c⟩
  · rintro ⟨j, a, b, c⟩; exact ⟨j, a, by rw [h j a]; exact b, c⟩
theorem instAt_congr {lo lo' al al' : Nat → Bool} {B : List Nat} {p : Nat} (h : ∀ j, j < p → lo j = lo' j) (h2 : ∀ j, j < p → al j = al' j) : instAt lo al B p = instAt lo' al' B p := by
  unfold instAt
  refine List.filter_congr fun k hk => ?_
  rw [h2 k (List.mem_range.1 hk), gone_congr h]
theorem instL_congr {base : Nat} {ao ao' : Nat → AObj} : ∀ (l : List Nat) (σ : St), (∀ k ∈ l, ao k = ao' k) → instL base ao l σ = instL base ao' l σ
  | [], σ, h => rfl
  | k :: l, σ, h => by
    have := instL_congr (base := base) (ao := ao) (ao' := ao') l (σ.set (base + k) (ao k)) (fun k' hk' => h k' (List.mem_cons_of_mem _ hk'))
    simp only [instL, List.foldl_cons] at this ⊢
    rw [this, h k List.mem_cons_self]
theorem instAt_lt {lo al : Nat → Bool} {B : List Nat} {p k : Nat} (h : k ∈ instAt lo al B p) : k < p := by
  simp only [instAt, List.mem_filter, List.mem_range] at h; exact h.1

/-- What a row says of its operation. -/
def RowOk (P : Program) (call : CallF) (ops : Array Oper) (base : Nat) (B : List Nat) (e : Nat → Env) (τ : Nat → St) (val : Nat → Value) (ao : Nat → AObj) (lo al : Nat → Bool) (rd : Nat → Bool) (i : Nat) (o : Oper) : Prop :=
  (wantedA ops (e i) o = false ∧ val i = undef ∧ lo i = false ∧ al i = false ∧ τ (i + 1) = τ i) ∨
  (wantedA ops (e i) o = true ∧ lo i = false ∧ al i = false ∧ τ (i + 1) = τ i ∧ PureOk P (rho (e i)) o (val i)) ∨
  (wantedA ops (e i) o = true ∧ lo i = false ∧ al i = true ∧ τ (i + 1) = τ i ∧ AllocOk P (rho (e i)) o (base + i) (val i) (ao i)) ∨
  (wantedA ops (e i) o = true ∧ lo i = false ∧ al i = false ∧ τ (i + 1) = τ i ∧ clsOf P o.op = .read ∧ evalOp P (rho (e i)) (base + i) o (τ i) = some (.val (val i) (τ i)) ∧ rd i = true) ∨
  (wantedA ops (e i) o = true ∧ lo i = true ∧ al i = false ∧ clsOf P o.op = .loud ∧ stepOp P call (e i) (base + i) o (instL base ao (instAt lo al B i) (τ i)) = some (val i, τ (i + 1)))

def rrd (R : List TRow) (i : Nat) : Bool := match R[i]? with | some r => r.k == 3 | none => false

theorem get_app {R S : List TRow} {r : TRow} : (R ++ r :: S)[R.length]? = some r := by simp
theorem get_app1 {R S : List TRow} {r s : TRow} : (R ++ r :: s :: S)[R.length + 1]? = some s := by simp [List.getElem?_append_right]

theorem goDraw_spec {P : Program} {call : CallF} {ops : Array Oper} {base : Nat} {B : List Nat} {env' : Env} {σ' : St} {R' : List TRow} : ∀ (l : List Oper) (env : Env) (σ : St) (R : List TRow),
    goDraw P call ops base B l R.length env σ R = some (R', env', σ') → (∃ S, R' = R ++ S ∧ S.length = l.length) ∧ renv R' env' R.length = env ∧ rst R' σ' R.length = σ ∧
      ∀ j o, l[j]? = some o → renv R' env' (R.length + j + 1) = eputo (renv R' env' (R.length + j)) o.dst (rval R' (R.length + j)) ∧ RowOk P call ops base B (renv R' env') (rst R' σ') (rval R') (rao R') (rlo R') (ral R') (rrd R') (R.length + j) o
  | [], env, σ, R, h => by
    simp only [goDraw, Option.some.injEq, Prod.mk.injEq] at h
    obtain ⟨rfl, rfl, rfl⟩ := h
    refine ⟨⟨[], by simp⟩, ?_, ?_, fun j o hj => by simp at hj⟩
    · unfold renv; rw [List.getElem?_eq_none (Nat.le_refl _)]
    · unfold rst; rw [List.getElem?_eq_none (Nat.le_refl _)]
  | o :: l, env, σ, R, h => by
    simp only [goDraw] at h
    split at h
    · rename_i r σ1 hrow
      have hlen : (R ++ [r]).length = R.length + 1 := by simp
      rw [← hlen] at h
      obtain ⟨⟨S, hS1, hS2⟩, he, hs, hrest⟩ := goDraw_spec l _ _ _ h
      have hR' : R' = R ++ r :: S := by rw [hS1]; simp
      have hget : R'[R.length]? = some r := by rw [hR']; exact get_app
      have hold : ∀ j, j < R.length → R'[j]? = R[j]? := fun j hj => by rw [hR', List.getElem?_append_left hj]
      have hre : r.env = env ∧ r.st = σ := by
        unfold drawRow at hrow
        split at hrow
        · split at hrow
          · split at hrow <;> first | (cases hrow; exact ⟨rfl, rfl⟩) | cases hrow
          · split at hrow
            · split at hrow <;> first | (cases hrow; exact ⟨rfl, rfl⟩) | cases hrow
            · cases hrow
          · split at hrow <;> first | (cases hrow; exact ⟨rfl, rfl⟩) | cases hrow
          · split at hrow <;> first | (cases hrow; exact ⟨rfl, rfl⟩) | cases hrow
        · cases hrow; exact ⟨rfl, rfl⟩
      have e1 : renv R' env' R.length = env := by unfold renv; rw [hget]; exact hre.1
      have e2 : rst R' σ' R.length = σ := by unfold rst; rw [hget]; exact hre.2
      have e3 : rval R' R.length = r.v := by unfold rval; rw [hget]
      have e4 : rlo R' R.length = (r.k == 4) := by unfold rlo; rw [hget]
      have e5 : ral R' R.length = (r.k == 2) := by unfold ral; rw [hget]
      have e6 : rao R' R.length = r.ao := by unfold rao; rw [hget]
      have e7 : rrd R' R.length = (r.k == 3) := by unfold rrd; rw [hget]
      have e8 : renv R' env' (R.length + 1) = eputo env o.dst r.v := by rw [← hlen]; exact he
      have e9 : rst R' σ' (R.length + 1) = σ1 := by rw [← hlen]; exact hs
      refine ⟨⟨r :: S, hR', by simp [hS2]⟩, e1, e2, fun j o' hj => ?_⟩
      cases j with
      | succ j =>
        have := hrest j o' (by simpa using hj)
        rw [hlen] at this
        rw [show R.length + (j + 1) = R.length + 1 + j by omega]
        exact this
      | zero =>
        simp only [List.getElem?_cons_zero, Option.some.injEq] at hj
        subst hj
        simp only [Nat.add_zero]
        refine ⟨by rw [e8, e1, e3], ?_⟩
        unfold RowOk
        rw [e1, e2, e3, e4, e5, e6, e7, e9]
        unfold drawRow at hrow
        split at hrow
        · rename_i hw
          split at hrow
          · rename_i hcl
            split at hrow
            · rename_i v σ2 hev
              cases hrow
              obtain ⟨v2, q1, q2⟩ := evalOp_pure hcl hev
              cases q1
              exact .inr (.inl ⟨hw, rfl, rfl, rfl, q2⟩)
            · cases hrow
          · rename_i hcl
            split at hrow
            · rename_i v σ2 hev
              split at hrow
              · rename_i ao hao
                cases hrow
                obtain ⟨v2, ao2, q1, q2⟩ := evalOp_alloc hcl hev
                cases q1
                rw [St.get_set, if_pos rfl] at hao
                cases hao
                exact .inr (.inr (.inl ⟨hw, rfl, rfl, rfl, q2⟩))
              · cases hrow
            · cases hrow
          · rename_i hcl
            split at hrow
            · rename_i v σ2 hev
              cases hrow
              obtain ⟨v2, q1, q2⟩ := evalOp_read hcl hev
              cases q1
              exact .inr (.inr (.inr (.inl ⟨hw, rfl, rfl, rfl, hcl, hev, rfl⟩)))
            · cases hrow
          · rename_i hcl
            split at hrow
            · rename_i v σ2 hev
              cases hrow
              refine .inr (.inr (.inr (.inr ⟨hw, rfl, rfl, hcl, ?_⟩)))
              have h1 : ∀ j, j < R.length → rlo R' j = rlo R j := fun j hj => by unfold rlo; rw [hold j hj]
              have h2 : ∀ j, j < R.length → ral R' j = ral R j := fun j hj => by unfold ral; rw [hold j hj]
              rw [instAt_congr h1 h2, instL_congr (ao' := rao R)]
              · exact hev
              · intro k hk
                have := instAt_lt hk
                unfold rao; rw [hold k this]
            · cases hrow
        · rename_i hw
          cases hrow
          exact .inl ⟨by simpa using hw, rfl, rfl, rfl, rfl⟩
    · cases h

theorem sameRead_ok {P : Program} {ρ : Operand → Value} {id : Nat} {o : Oper} {v : Value} {σ : St} (hcl : clsOf P o.op = .read) (h : sameRead P ρ id o v σ = true) : evalOp P ρ id o σ = some (.val v σ) := by
  unfold sameRead at h
  split at h
  · rename_i v' σ' hev
    obtain ⟨v2, q1, _⟩ := evalOp_read hcl hev
    cases q1
    rw [hev, veq_eq h]
  · cases h

theorem stepOp_stepR {P : Program} {gl : List Nat} {call : CallF} (hc : call.ok P gl) {env : Env} {id : Nat} {o : Oper} {σ σ' : St} {v : Value} (h : stepOp P call env id o σ = some (v, σ')) : StepR P gl (rho env) id o σ v σ' := by
  unfold stepOp at h
  split at h
  · rename_i v2 σ2 he
    cases h
    exact .inl he
  · rename_i f args he
    exact .inr (.inl ⟨f, args, he, hc _ _ _ _ _ h⟩)
  · cases h
theorem evalDraw_ok {P : Program} {gl : List Nat} {call : CallF} (hc : call.ok P gl) (hm : P.follows .mixedOrders = true) (N : Nat) : DrawOk P gl N (evalDraw P call) := by
  intro id ops env σ env' σ' h hok
  unfold evalDraw at h
  simp only at h
  split at h
  · rename_i hdr
    split at h
    · rename_i R e1 s1 hgo
      split at h
      · rename_i hch
        simp only [Option.some.injEq, Prod.mk.injEq] at h
        obtain ⟨rfl, rfl⟩ := h
        obtain ⟨⟨S, hS1, hS2⟩, q1, q2, q3⟩ := goDraw_spec (R := []) ops.toList env _ hgo
        simp only [List.nil_append] at hS1
        subst hS1
        simp only [Array.length_toList] at hS2
        simp only [List.length_nil, Nat.zero_add] at q1 q2 q3
        have hlast1 : renv R e1 ops.size = e1 := by unfold renv; rw [List.getElem?_eq_none (by omega)]
        have hlast2 : rst R s1 ops.size = s1 := by unfold rst; rw [List.getElem?_eq_none (by omega)]
        have ht : Trc P gl ops σ.next (befores ops) (renv R e1) (rst R s1) (rval R) (rao R) (rlo R) (ral R) := by
          refine ⟨fun i o ho => (q3 i o (by simpa using ho)).1, fun i o ho => ?_, fun i hi => ?_, fun i hi => ?_⟩
          · rcases (q3 i o (by simpa using ho)).2 with k | k | k | k | k
            · exact .inl k
            · exact .inr (.inl ⟨k.1, k.2.1, k.2.2.1, k.2.2.2.1, k.2.2.2.2.2⟩)
            · exact .inr (.inr (.inl ⟨k.1, k.2.1, k.2.2.1, k.2.2.2.1, k.2.2.2.2.2⟩))
            · obtain ⟨k1, k2, k3, k4, k5, k6, k7⟩ := k
              refine .inr (.inr (.inr (.inl ⟨k1, k2, k3, k4, k5, k6, fun j hj hl b1 b2 => ?_⟩)))
              simp only [chkReads, List.all_eq_true] at hch
              have hx := hch (o, i) (by rw [List.mem_zipIdx_iff_getElem?]; simpa using ho)
              simp only at hx
              unfold rrd at k7
              cases hr : R[i]? with
              | none => rw [hr] at k7; cases k7
              | some r =>
                rw [hr] at hx k7
                have hre : renv R e1 i = r.env := by unfold renv; rw [hr]
                have hrv : rval R i = r.v := by unfold rval; rw [hr]
                have k7 : (r.k == 3) = true := k7
                simp only [k7, Bool.not_true, Bool.false_or, List.all_eq_true, List.mem_range] at hx
                have := hx j hj
                rw [hl, b1, b2] at this
                simp only [Bool.not_true, Bool.false_or, Bool.and_eq_true] at this
                rw [hre, hrv]
                exact ⟨sameRead_ok k5 this.1, sameRead_ok k5 this.2⟩
            · obtain ⟨k1, k2, k3, k4, k5⟩ := k
              exact .inr (.inr (.inr (.inr ⟨k1, k2, k3, _, fun _ _ => rfl, stepOp_stepR hc k5⟩)))
          · have hin : i < ops.size := by
              rcases Nat.lt_or_ge i ops.size with q | q
              · exact q
              · unfold rlo at hi; rw [List.getElem?_eq_none (by omega)] at hi; cases hi
            refine ⟨ops[i], Array.getElem?_eq_getElem hin, ?_⟩
            rcases (q3 i ops[i] (by simp [hin])).2 with k | k | k | k | k
            · rw [hi] at k; cases k.2.2.1
            · rw [hi] at k; cases k.2.1
            · rw [hi] at k; cases k.2.1
            · rw [hi] at k; cases k.2.1
            · exact k.2.2.2.1
          · rcases Nat.lt_or_ge i ops.size with q | q
            · exact q
            · unfold ral at hi; rw [List.getElem?_eq_none (by omega)] at hi; cases hi
        have := simC_draw (id := id) hm (okDraw_ok hdr) ht q1 q2 hok
        rw [hlast1, hlast2] at this
        exact this
      · cases h
    · cases h
  · cases h
end Go.Ev

namespace Go.Ev
open Go
set_option linter.unusedVariables false
set_option linter.unusedSimpArgs false

def orElseF (a b : CallF) : CallF := fun f args σ => match a f args σ with
  | some r => some r
  | none => b f args σ
theorem orElseF_ok {P : Program} {gl : List Nat} {a b : CallF} (ha : a.ok P gl) (hb : b.ok P gl) : (orElseF a b).ok P gl := by
  intro f args σ v σ' h
  unfold orElseF at h
  split at h
  · rename_i r hr; cases h; exact ha _ _ _ _ _ hr
  · exact hb _ _ _ _ _ h
def noF : CallF := fun _ _ _ => none
theorem noF_ok {P : Program} {gl : List Nat} : noF.ok P gl := fun _ _ _ _ _ h => by cases h

def evF (P : Program) (gl : List Nat) (ext : CallF) (lf : Nat) : Nat → CallF
  | 0 => ext
  | n + 1 => orElseF ext (evalFn P gl (evF P gl ext lf n) (fun _ => evalDraw P (evF P gl ext lf n)) lf)
theorem evF_ok {P : Program} {gl : List Nat} {ext : CallF} (he : ext.ok P gl) (hm : P.follows .mixedOrders = true) (lf : Nat) : ∀ n, (evF P gl ext lf n).ok P gl
  | 0 => he
  | n + 1 => orElseF_ok he (evalFn_ok (evF_ok he hm lf n) (fun N => evalDraw_ok (evF_ok he hm lf n) hm N) lf)
end Go.Ev

namespace Go.Ev
open Go
set_option linter.unusedVariables false
set_option linter.unusedSimpArgs false

/-! ## A datum's cells -/
mutual
def untrod (P : Program) : Nat → TypeId → DataW Unit → Option (List Value)
  | 0, _, _ => none
  | f + 1, t, d => match P.underlying t, d with
    | some .bool, .lit (.bool b) => some [.bool b]
    | some (.int k), .lit (.int k' n) => if k' = k then some [.int k n] else none
    | some .string, .lit (.string s) => some [.string ⟨s.toArray⟩]
    | some (.struct fs), .agg ds => untrodFs P f fs.toList ds 0 (P.cellsOf t)
    | some (.array n e), .agg ds => if ds.length = n ∧ P.cellsOf t = n * P.cellsOf e then untrodAr P f e (P.cellsOf e) ds else none
    | _, _ => none
def untrodFs (P : Program) : Nat → List Field → List (DataW Unit) → Nat → Nat → Option (List Value)
  | 0, _, _, _, _ => none
  | f + 1, [], [], off, tot => if off = tot then some [] else none
  | f + 1, x :: fs, d :: ds, off, tot => if x.offset = off then match untrod P f x.type d, untrodFs P f fs ds (off + P.cellsOf x.type) tot with
      | some c, some r => if c.length = P.cellsOf x.type then some (c ++ r) else none
      | _, _ => none
    else none
  | _, _, _, _, _ => none
def untrodAr (P : Program) : Nat → TypeId → Nat → List (DataW Unit) → Option (List Value)
  | 0, _, _, _ => none
  | f + 1, e, s, [] => some []
  | f + 1, e, s, d :: ds => match untrod P f e d, untrodAr P f e s ds with
    | some c, some r => if c.length = s then some (c ++ r) else none
    | _, _ => none
end

theorem mapM_cons_some {α β : Type} {f : α → Option β} {a : α} {l : List α} {xs : List β} (h : (a :: l).mapM f = some xs) : ∃ y ys, xs = y :: ys ∧ f a = some y ∧ l.mapM f = some ys := by
  simp only [List.mapM_cons] at h
  cases hy : f a with
  | none => rw [hy] at h; cases h
  | some y =>
    rw [hy] at h
    cases hl : l.mapM f with
    | none => rw [hl] at h; cases h
    | some ys => rw [hl] at h; cases h; exact ⟨y, ys, rfl, rfl, rfl⟩

theorem untrod_eq {P : Program} {w : World} {sp : Nat → Bool} {held : Bool} : ∀ (f : Nat),
    (∀ (t : TypeId) (d : DataW Unit) (cs' cs : List Value) (fuel : Nat) (p : List MemPlace), untrod P f t d = some cs' → DataW.trod (fun _ => ()) P w 0 sp held fuel t cs = some (d, p) → cs = cs') ∧
    (∀ (fs : List Field) (ds : List (DataW Unit)) (off tot : Nat) (r cs : List Value) (fuel : Nat) (xs : List (DataW Unit × List MemPlace)), untrodFs P f fs ds off tot = some r → cs.length = tot → off ≤ tot →
      (fs.mapM fun g => DataW.trod (fun _ => ()) P w 0 sp held fuel g.type ((cs.drop g.offset).take (P.cellsOf g.type))) = some xs → xs.map (·.1) = ds → cs.drop off = r) ∧
    (∀ (e : TypeId) (s : Nat) (ds : List (DataW Unit)) (k : Nat) (r cs : List Value) (fuel : Nat) (xs : List (DataW Unit × List MemPlace)), untrodAr P f e s ds = some r → cs.length = (k + ds.length) * s →
      ((List.range' k ds.length).mapM fun i => DataW.trod (fun _ => ()) P w 0 sp held fuel e ((cs.drop (i * s)).take s)) = some xs → xs.map (·.1) = ds → cs.drop (k * s) = r)
  | 0 => ⟨fun _ _ _ _ _ _ h => by simp [untrod] at h, fun _ _ _ _ _ _ _ _ h => by simp [untrodFs] at h, fun _ _ _ _ _ _ _ _ h => by simp [untrodAr] at h⟩
  | f + 1 => by
    obtain ⟨ih1, ih2, ih3⟩ := untrod_eq (P := P) (w := w) (sp := sp) (held := held) f
    refine ⟨fun t d cs' cs fuel p h1 h2 => ?_, fun fs ds off tot r cs fuel xs h1 hlen hle h2 h3 => ?_, fun e s ds k r cs fuel xs h1 hlen h2 h3 => ?_⟩
    · cases fuel with
      | zero => simp [DataW.trod] at h2
      | succ fuel =>
        unfold untrod at h1
        unfold DataW.trod at h2
        split at h1
        · rename_i b hu
          rw [hu] at h2
          split at h2 <;> simp_all
        · rename_i k k' n hu
          rw [hu] at h2
          split at h1
          · cases h1
            split at h2 <;> simp_all
          · cases h1
        · rename_i s hu
          rw [hu] at h2
          split at h2 <;> simp_all
          obtain ⟨_, e1, _⟩ := h2
          subst e1
          first
            | exact h1
            | (rw [← h1]; done)
            | (rw [← h1]; simp)
        · rename_i fs ds hu
          rw [hu] at h2
          simp only at h2
          split at h2
          · rename_i hl
            simp only [Option.map_eq_some_iff, Prod.mk.injEq] at h2
            obtain ⟨xs, hx, e1, _⟩ := h2
            have := ih2 _ _ _ _ _ cs fuel xs h1 hl (Nat.zero_le _) hx (by injection e1)
            simpa using this
          · cases h2
        · rename_i n e ds hu
          rw [hu] at h2
          simp only at h2
          split at h1
          · rename_i hc
            split at h2
            · rename_i hl
              simp only [Option.map_eq_some_iff, Prod.mk.injEq] at h2
              obtain ⟨xs, hx, e1, _⟩ := h2
              rw [List.range_eq_range', ← hc.1] at hx
              have := ih3 e (P.cellsOf e) ds 0 _ cs fuel xs h1 (by rw [hl, hc.2, hc.1, Nat.zero_add]) hx (by injection e1)
              simpa using this
            · cases h2
          · cases h1
        · cases h1
    · cases fs with
      | nil =>
        cases ds with
        | nil =>
          simp only [untrodFs] at h1
          split at h1
          · rename_i e1; cases h1; subst e1; rw [List.drop_eq_nil_of_le (by omega)]
          · cases h1
        | cons d ds => simp [untrodFs] at h1
      | cons x fs =>
        cases ds with
        | nil => simp [untrodFs] at h1
        | cons d ds =>
          simp only [untrodFs] at h1
          split at h1
          · rename_i hoff
            split at h1
            · rename_i c r' hc hr
              split at h1
              · rename_i hcl
                cases h1
                obtain ⟨y, ys, e1, e2, e3⟩ := mapM_cons_some h2
                subst e1
                simp only [List.map_cons, List.cons.injEq] at h3
                obtain ⟨y1, y2⟩ := y
                obtain ⟨rfl, h3⟩ := h3
                have q1 := ih1 _ _ _ _ _ _ hc e2
                rw [hoff] at q1
                have hlen2 : (List.take (P.cellsOf x.type) (List.drop off cs)).length = P.cellsOf x.type := by rw [q1]; exact hcl
                simp only [List.length_take, List.length_drop] at hlen2
                have q2 := ih2 fs ds (off + P.cellsOf x.type) tot _ cs fuel ys hr hlen (by omega) e3 h3
                rw [← q1, ← q2, ← List.drop_drop, List.take_append_drop]
              · cases h1
            · cases h1
          · cases h1
    · cases ds with
      | nil =>
        simp only [untrodAr] at h1
        cases h1
        rw [List.drop_eq_nil_of_le (by simp at hlen; omega)]
      | cons d ds =>
        simp only [untrodAr] at h1
        split at h1
        · rename_i c r' hc hr
          split at h1
          · rename_i hcl
            cases h1
            simp only [List.length_cons, List.range'_succ] at h2
            obtain ⟨y, ys, e1, e2, e3⟩ := mapM_cons_some h2
            subst e1
            simp only [List.map_cons, List.cons.injEq] at h3
            obtain ⟨y1, y2⟩ := y
            obtain ⟨rfl, h3⟩ := h3
            have q1 := ih1 _ _ _ _ _ _ hc e2
            have q2 := ih3 e s ds (k + 1) _ cs fuel ys hr (by rw [hlen]; simp [Nat.add_assoc, Nat.add_comm 1]) e3 h3
            rw [← q1, ← q2, Nat.add_mul, Nat.one_mul, ← List.drop_drop, List.take_append_drop]
          · cases h1
        · cases h1

theorem flat_untrod {P : Program} : ∀ (f : Nat),
    (∀ (t : TypeId) (d : DataW Unit) (cs : List Value), untrod P f t d = some cs → ∀ v ∈ cs, flatV v = true) ∧
    (∀ (fs : List Field) (ds : List (DataW Unit)) (off tot : Nat) (cs : List Value), untrodFs P f fs ds off tot = some cs → ∀ v ∈ cs, flatV v = true) ∧
    (∀ (e : TypeId) (s : Nat) (ds : List (DataW Unit)) (cs : List Value), untrodAr P f e s ds = some cs → ∀ v ∈ cs, flatV v = true)
  | 0 => ⟨fun _ _ _ h => by simp [untrod] at h, fun _ _ _ _ _ h => by simp [untrodFs] at h, fun _ _ _ _ h => by simp [untrodAr] at h⟩
  | f + 1 => by
    obtain ⟨ih1, ih2, ih3⟩ := flat_untrod (P := P) f
    refine ⟨fun t d cs h v hv => ?_, fun fs ds off tot cs h v hv => ?_, fun e s ds cs h v hv => ?_⟩
    · unfold untrod at h
      split at h
      · cases h; simp at hv; subst hv; rfl
      · split at h
        · cases h; simp at hv; subst hv; rfl
        · cases h
      · cases h; simp at hv; subst hv; rfl
      · exact ih2 _ _ _ _ _ h v hv
      · split at h
        · exact ih3 _ _ _ _ h v hv
        · cases h
      · cases h
    · cases fs with
      | nil =>
        cases ds with
        | nil => simp only [untrodFs] at h; split at h <;> cases h; cases hv
        | cons d ds => simp [untrodFs] at h
      | cons x fs =>
        cases ds with
        | nil => simp [untrodFs] at h
        | cons d ds =>
          simp only [untrodFs] at h
          split at h
          · split at h
            · rename_i c r hc hr
              split at h
              · cases h
                rcases List.mem_append.1 hv with q | q
                · exact ih1 _ _ _ hc v q
                · exact ih2 _ _ _ _ _ hr v q
              · cases h
            · cases h
          · cases h
    · cases ds with
      | nil => simp only [untrodAr] at h; cases h; cases hv
      | cons d ds =>
        simp only [untrodAr] at h
        split at h
        · rename_i c r hc hr
          split at h
          · cases h
            rcases List.mem_append.1 hv with q | q
            · exact ih1 _ _ _ hc v q
            · exact ih3 _ _ _ _ hr v q
          · cases h
        · cases h

/-! ## The listed variables, as blocks -/
def globOf (P : Program) (f : Nat) (x : String × DataW Unit) : Option (Nat × List Value) :=
  match P.globalNamed x.1 with
  | some g => match (P.globals[g]?).map (·.type) with
    | some t => (untrod P f t x.2).map fun cs => (g, cs)
    | none => none
  | none => none
def globList (P : Program) (f : Nat) (l : List (String × DataW Unit)) : List (Nat × List Value) := l.filterMap (globOf P f)

theorem laid_cells {P : Program} {w : World} : ∀ {l : List (String × DataW Unit)} {ps : List MemPlace}, DataW.LaidVars P w l ps → ∀ x ∈ l, ∃ g t cs fuel p, P.globalNamed x.1 = some g ∧ (P.globals[g]?).map (·.type) = some t ∧ w.var? P x.1 = some cs ∧
    DataW.trod (fun _ => ()) P w 0 (fun _ => true) false fuel t cs.toList = some (x.2, p)
  | [], _, _, x, hx => by cases hx
  | (n, d) :: r, ps, h, x, hx => by
    obtain ⟨g, t, cs, fuel, p, q, h1, h2, h3, h4, h5, _⟩ := h
    cases hx with
    | head => exact ⟨g, t, cs, fuel, p, h1, h2, h3, h4⟩
    | tail _ hx => exact laid_cells h5 x hx

theorem globList_holds {P : Program} {w : World} {f : Nat} {l : List (String × DataW Unit)} (h : laidMet P l w) : ∀ x ∈ globList P f l, (∃ t fr, w.heap[x.1]? = some (.cells x.2.toArray t fr)) ∧ ∀ v ∈ x.2, flatV v = true := by
  intro x hx
  obtain ⟨ps, hv, _⟩ := h
  simp only [globList, List.mem_filterMap] at hx
  obtain ⟨y, hy, e⟩ := hx
  obtain ⟨g, t, cs, fuel, p, h1, h2, h3, h4⟩ := laid_cells hv y hy
  unfold globOf at e
  rw [h1] at e
  simp only [h2] at e
  cases hu : untrod P f t y.2 with
  | none => rw [hu] at e; cases e
  | some c =>
    rw [hu] at e
    simp only [Option.map_some, Option.some.injEq] at e
    subst e
    have := (untrod_eq f).1 _ _ _ _ _ _ hu h4
    refine ⟨?_, (flat_untrod f).1 _ _ _ hu⟩
    unfold World.var? at h3
    rw [h1] at h3
    simp only [Option.bind_some] at h3
    split at h3
    · rename_i cs' ty fr hh
      cases h3
      exact ⟨ty, fr, by rw [hh, ← this]⟩
    · cases h3

def globHeap : List (Nat × List Value) → Tr AObj
  | [] => .nil
  | x :: r => (globHeap r).set (path x.1) (.cells false 0 x.1 x.2)
def globSt (l : List (Nat × List Value)) (next : Nat) : St := { heap := globHeap l, fams := .nil, next := next }
def globGam (l : List (Nat × List Value)) : Gam := fun A => (l.find? (fun x => x.1 == A)).map fun x => ⟨A, 0, x.2.length⟩

theorem globHeap_get (l : List (Nat × List Value)) (A : Nat) : (globHeap l).get (path A) = (l.find? (fun x => x.1 == A)).map fun x => .cells false 0 A x.2 := by
  induction l with
  | nil => rfl
  | cons x r ih =>
    simp only [globHeap, Tr.get_set, List.find?_cons]
    by_cases h : x.1 = A
    · simp [h]
    · rw [if_neg (fun e => h (path_inj e)), ih]
      have : (x.1 == A) = false := by simpa using h
      rw [this]
theorem globSt_get (l : List (Nat × List Value)) (next A : Nat) : (globSt l next).get A = (l.find? (fun x => x.1 == A)).map fun x => .cells false 0 A x.2 := globHeap_get l A
theorem globSt_famO (l : List (Nat × List Value)) (next F : Nat) : (globSt l next).famO F = none := by
  simp only [globSt, St.famO]
  cases path F <;> rfl

theorem globRel {l : List (Nat × List Value)} {next : Nat} {w : World} (hl : ∀ x ∈ l, (∃ t fr, w.heap[x.1]? = some (.cells x.2.toArray t fr)) ∧ ∀ v ∈ x.2, flatV v = true) (hn : ∀ x ∈ l, x.1 < next) :
    Rel (globGam l) (globSt l next) w ∧ Glob (l.map (·.1)) (globGam l) ∧ ∀ A x, globGam l A = some x → (globSt l next).ro A := by
  have sp : ∀ A x, globGam l A = some x → ∃ c, (A, c) ∈ l ∧ x = ⟨A, 0, c.length⟩ ∧ (globSt l next).get A = some (.cells false 0 A c) := by
    intro A x h
    unfold globGam at h
    rw [globSt_get]
    cases hf : l.find? (fun x => x.1 == A) with
    | none => rw [hf] at h; cases h
    | some y =>
      rw [hf] at h
      cases h
      have h1 := List.mem_of_find?_eq_some hf
      have h2 := List.find?_some hf
      obtain ⟨a, c⟩ := y
      have : a = A := by simpa using h2
      subst this
      exact ⟨c, h1, rfl, rfl⟩
  have sp2 : ∀ A o, (globSt l next).get A = some o → ∃ c, (A, c) ∈ l ∧ o = .cells false 0 A c := by
    intro A o h
    rw [globSt_get] at h
    cases hf : l.find? (fun x => x.1 == A) with
    | none => rw [hf] at h; cases h
    | some y =>
      rw [hf] at h
      cases h
      have h1 := List.mem_of_find?_eq_some hf
      have h2 := List.find?_some hf
      obtain ⟨a, c⟩ := y
      have : a = A := by simpa using h2
      subst this
      exact ⟨c, h1, rfl⟩
  refine ⟨⟨⟨fun A o h => ?_, fun A own v F c h => ?_, fun A v F c h => ?_, fun F O h => ?_, fun F O X own v c own' v' c' h => ?_, fun A n h => ?_⟩, fun A x h => ?_, fun A x h => ?_, fun A x A' x' h h' e => ?_, fun X x O y F v c own c' _ _ _ _ hF => ?_⟩, fun b hb => ?_, fun A x h => ?_⟩
  · obtain ⟨c, h1, _⟩ := sp2 A o h; exact hn _ h1
  · obtain ⟨c', h1, h2⟩ := sp2 A _ h; cases h2; exact ⟨_, h⟩
  · obtain ⟨c', h1, h2⟩ := sp2 A _ h; cases h2
  · rw [globSt_famO] at h; cases h
  · rw [globSt_famO] at h; cases h
  · unfold globSt St.hintO at h; cases hp : path A <;> rw [hp] at h <;> cases h
  · obtain ⟨c, h1, rfl, _⟩ := sp A x h
    obtain ⟨⟨t, fr, h2⟩, _⟩ := hl _ h1
    exact (Array.getElem?_eq_some_iff.1 h2).1
  · obtain ⟨c, h1, rfl, h3⟩ := sp A x h
    obtain ⟨⟨t, fr, h2⟩, hf⟩ := hl _ h1
    refine ⟨_, h3, c.toArray, t, fr, h2, by simp, fun _ i hi => ⟨c[i], by simp [hi], flatV_rel (hf _ (List.getElem_mem hi))⟩, fun h => by cases h⟩
  · obtain ⟨c, _, rfl, _⟩ := sp A x h
    obtain ⟨c', _, rfl, _⟩ := sp A' x' h'
    exact .inl e
  · rw [globSt_famO] at hF; cases hF
  · have hb2 : b ∈ l.map (·.1) := by simpa using hb
    rw [List.mem_map] at hb2
    obtain ⟨y, hy, rfl⟩ := hb2
    unfold globGam
    cases hf : l.find? (fun x => x.1 == y.1) with
    | none =>
      have := List.find?_eq_none.1 hf y hy
      simp at this
    | some z => exact ⟨_, rfl⟩
  · obtain ⟨c, _, _, h3⟩ := sp A x h
    exact ⟨0, A, c, h3, globSt_famO l next A⟩

/-- What a law without arguments does, from what the evaluator says of it. -/
theorem closed_calls {P : Program} {f : FuncId} {l : List (Nat × List Value)} {next : Nat} {v : Value} {σ' : St} (hs : SimF P (l.map (·.1)) f #[] (globSt l next) v σ') {w : World}
    (hl : ∀ x ∈ l, (∃ t fr, w.heap[x.1]? = some (.cells x.2.toArray t fr)) ∧ ∀ v ∈ x.2, flatV v = true) (hn : ∀ x ∈ l, x.1 < next) : Calls P f #[] w fun e w' => ∃ v' g, e = .returned v' ∧ VRel g v v' ∧ Go.RowKit.Below w.heap.size w w' := by
  obtain ⟨h1, h2, h3⟩ := globRel (w := w) hl hn
  refine (hs _ w #[] h2 h1 ⟨rfl, fun i h => by simp at h⟩).mono ?_
  rintro e w' ⟨v', g', rfl, hv, hr, hx⟩
  exact ⟨v', g', rfl, hv, ⟨hx.os, hx.tape, hx.out, hx.size, fun k hk => hx.keep k hk fun A x hA _ => h3 A x hA⟩⟩

theorem laidMet_of_noHandle {P : Program} {l : List (String × DataW Unit)} {w : World} (hno : (l.filter fun x => x.2.handleName?.isSome) = []) (h : laidMetH P l w) : laidMet P l w := by
  unfold laidMetH at h
  rw [hno] at h
  exact h
theorem laidMetH_of_noHandle {P : Program} {l : List (String × DataW Unit)} {w : World} (hno : (l.filter fun x => x.2.handleName?.isSome) = []) (h : laidMet P l w) : laidMetH P l w := by
  unfold laidMetH
  rw [hno]
  exact h

open Go.ChangeShapes Go.WideShapes Go.ChangeAt Go.RowKit in
/-- The row's contract, for a law without arguments that tells a bool. -/
theorem closed_contract {C : Checked} {f : FuncId} {fn : Func} {s : ChangeSpec} {tb : TypeId} {os : Os} {H : Type} {enc : TypeId × Value → H} {laid : List (String × DataW Unit)} {l : List (Nat × List Value)} {k next : Nat} {σ' : St}
    (own : ownKnob C.prog.godebug = none) (started : os.Started) (noInit : C.prog.inits.idxOf? f = none) (hfn : C.prog.funcs[f]? = some fn)
    (hp : fn.params = #[]) (hr : fn.resultTypes = #[tb]) (hb : C.prog.underlying tb = some .bool) (hvars : s.vars = []) (hspec : s.fn H [] = { results := [.lit (.bool true)], args := [] })
    (hno : (laid.filter fun x => x.2.handleName?.isSome) = []) (hglob : globList C.prog k laid = l) (hn : ∀ x ∈ l, x.1 < next) (hsim : SimF C.prog (l.map (·.1)) f #[] (globSt l next) (.bool true) σ')
    (witness : ∃ (w : World) (tape : Tape) (i : Input), w.os = os ∧ (w.forCall tape i).Shaped C.prog ∧ i.vars = [] ∧ Input.okWide C.prog (w.forCall tape i) .any w.heap.size f i ∧
      ((s.pre enc C.prog fn [] false (w.forCall tape i).memory i.args ∧ laidMetH C.prog laid (w.forCall tape i).memory) ∧ sizedMet enc C.prog fn (OpenSpec.ofChange s) false (w.forCall tape i).memory i.args) ∧ ({} : Assume).holds C.prog (lone (Frame.enter C.prog f i.args .normal) [] (w.forCall tape i))) :
    ReturnsInHanded {} C os f .any (fun w args => (s.pre enc C.prog fn [] false w args ∧ laidMetH C.prog laid w) ∧ sizedMet enc C.prog fn (OpenSpec.ofChange s) false w args) (s.post enc C.prog fn false true false false) := by
  refine returnsInHanded_of_change_and (X := fun w _ => laidMetH C.prog laid w) (fun _ _ _ hh h => h.of_heap hh) own started noInit hfn witness ?_
  intro W base args ds gs before hval hW _ _ hL _
  have hW' := hW
  obtain ⟨p, q, hA, hV, rfl, hfz, hnd⟩ := hW
  rw [hp] at hA
  rw [hvars] at hV
  have hA2 : DataW.TrodAll enc C.prog W 0 (fun _ => true) true [] args.toList ds p := hA
  have e1 : args.toList = [] ∧ ds = [] := by
    revert hA2
    generalize args.toList = L
    intro hA2
    cases L with
    | nil => cases ds with
      | nil => exact ⟨rfl, rfl⟩
      | cons _ _ => exact hA2.elim
    | cons _ _ => exact hA2.elim
  obtain ⟨e1, rfl⟩ := e1
  obtain rfl : args = #[] := by cases args; simp_all
  have e2 : gs = [] := by
    cases gs with
    | nil => rfl
    | cons _ _ => exact hV.elim
  subst e2
  have hm := laidMet_of_noHandle hno hL
  have hcells : ∀ x ∈ l, (∃ t fr, W.heap[x.1]? = some (.cells x.2.toArray t fr)) ∧ ∀ v ∈ x.2, flatV v = true := by rw [← hglob]; exact globList_holds hm
  refine (closed_calls hsim hcells hn).mono ?_
  rintro e W' ⟨v', g, rfl, hv, bel⟩
  cases hv
  refine ⟨_, rfl, [], [], _, [], [], [], hW', ?_, ?_, ?_, bel.frame _, fun h => by cases h⟩
  · rw [hr]
    have : (s.fn H ([] ++ [])).results = [.lit (.bool true)] := by rw [List.append_nil, hspec]
    rw [this]
    exact trodAll_mk1 (shut_bool hb true)
  · rw [hp]
    have : (s.fn H ([] ++ [])).args = [] := by rw [List.append_nil, hspec]
    rw [this]
    rfl
  · have : (s.fn H ([] ++ [])).vars = [] := by rw [List.append_nil, hspec]
    rw [this, hvars]
    rfl

/-- A world whose listed variables hold what they hold. -/
noncomputable def laidWorld (P : Program) (l : List (Nat × List Value)) (os : Os) : World :=
  let w0 := World.holding P os ⟨#[], #[], []⟩
  { w0 with heap := l.foldl (fun h x => h.modify x.1 fun
      | .cells _ t frozen => .cells x.2.toArray t frozen
      | o => o) w0.heap }
end Go.Ev

namespace Go.Ev
open Go
set_option linter.unusedVariables false
set_option linter.unusedSimpArgs false

theorem condN {α : Type} {b : Bool} {a r : Option α} (h : cond b a none = r) {x : α} (hx : r = some x) : b = true ∧ a = some x := by
  cases b with
  | true => exact ⟨rfl, h.trans hx⟩
  | false => subst h; cases hx
theorem fold_set {off : Nat} : ∀ (c : List Value) (j : Nat) (B Z : List Value), B.length = off + j → c.length ≤ Z.length →
    (c.zipIdx j).foldl (fun (cs : Array Value) (x : Value × Nat) => cs.setIfInBounds (off + x.2) x.1) (B ++ Z).toArray = (B ++ c ++ Z.drop c.length).toArray
  | [], j, B, Z, _, _ => by simp
  | a :: c, j, B, Z, hB, hl => by
    cases Z with
    | nil => simp at hl
    | cons z Z =>
      rw [List.zipIdx_cons, List.foldl_cons]
      have e : (B ++ z :: Z).toArray.setIfInBounds (off + j) a = ((B ++ [a]) ++ Z).toArray := by
        rw [List.setIfInBounds_toArray, ← hB, List.set_append_right _ _ (Nat.le_refl _), Nat.sub_self]
        simp
      rw [e, fold_set c (j + 1) (B ++ [a]) Z (by simp; omega) (by simpa using hl)]
      simp
theorem fill_consec {n : Nat} : ∀ (parts : List (Nat × Value)) (i : Nat) (A Z : List Value), A.length = i * n → Z.length = parts.length * n → (∀ k p, parts[k]? = some p → p.1 = i + k ∧ p.2.cells.size = n) →
    Instr.fill (fun i => some (i * n, n)) (A ++ Z).toArray parts = some (A ++ parts.flatMap (·.2.cells.toList)).toArray
  | [], i, A, Z, hA, hZ, h => by
    have : Z = [] := List.eq_nil_of_length_eq_zero (by simpa using hZ)
    subst this
    simp [Instr.fill]
  | (i', v) :: rest, i, A, Z, hA, hZ, h => by
    obtain ⟨h1, h2⟩ := h 0 (i', v) rfl
    simp only [Nat.add_zero] at h1 h2
    subst h1
    have hZ2 : Z.length = rest.length * n + n := by rw [hZ, List.length_cons, Nat.add_mul, Nat.one_mul]
    unfold Instr.fill
    simp only
    have hc : ¬ (v.cells.size ≠ n ∨ i' * n + v.cells.size > (A ++ Z).toArray.size) := by
      rintro (q | q)
      · exact q h2
      · simp at q; omega
    rw [if_neg (by simpa using hc)]
    have hz : v.cells.zipIdx.foldl (fun (cs : Array Value) (x : Value × Nat) => cs.setIfInBounds (i' * n + x.2) x.1) (A ++ Z).toArray = (A ++ v.cells.toList ++ Z.drop n).toArray := by
      rw [← Array.foldl_toList, Array.toList_zipIdx, fold_set v.cells.toList 0 A Z (by simpa using hA) (by simp; omega)]
      simp [h2]
    have hz' : v.cells.zipIdx.foldl (fun (cs : Array Value) (x : Value × Nat) => match x with | (c, j) => cs.setIfInBounds (i' * n + j) c) (A ++ Z).toArray = (A ++ v.cells.toList ++ Z.drop n).toArray := hz
    rw [hz', fill_consec rest (i' + 1) (A ++ v.cells.toList) (Z.drop n) (by simp [hA, h2, Nat.add_mul]) (by simp; omega) (fun k p hk => by
      have := h (k + 1) p (by simpa using hk)
      exact ⟨by omega, this.2⟩)]
    simp
/-- The cells of parts 0, 1, 2 .., each of n cells. -/
noncomputable def partsQ (n : Nat) (l : List (Nat × Value)) : Nat → Option (List Value × Nat) := List.rec (motive := fun _ => Nat → Option (List Value × Nat)) (fun i => some ([], i)) (fun x _ ih i => cond (Nat.beq x.1 i) (cond (Nat.beq x.2.cells.toList.length n) (match ih (Nat.succ i) with
  | some (c, m) => some (x.2.cells.toList ++ c, m)
  | none => none) none) none) l
theorem partsQ_ok {n : Nat} : ∀ (l : List (Nat × Value)) (i : Nat) (c : List Value) (m : Nat), partsQ n l i = some (c, m) → c = l.flatMap (·.2.cells.toList) ∧ m = i + l.length ∧ ∀ k p, l[k]? = some p → p.1 = i + k ∧ p.2.cells.size = n
  | [], i, c, m, h => by cases h; exact ⟨rfl, rfl, fun k p h => by simp at h⟩
  | x :: l, i, c, m, h => by
    have h : cond (Nat.beq x.1 i) (cond (Nat.beq x.2.cells.toList.length n) (match partsQ n l (Nat.succ i) with
  | some (c, m) => some (x.2.cells.toList ++ c, m)
  | none => none) none) none = some (c, m) := h
    obtain ⟨h1, h⟩ := condN h rfl
    obtain ⟨h2, h⟩ := condN h rfl
    split at h
    · rename_i c' m' he
      cases h
      obtain ⟨e1, e2, e3⟩ := partsQ_ok l _ _ _ he
      refine ⟨by rw [e1]; rfl, by rw [e2]; simp; omega, fun k p hk => ?_⟩
      cases k with
      | zero =>
        simp at hk; subst hk
        exact ⟨by simpa using h1, by simpa using h2⟩
      | succ k =>
        obtain ⟨q1, q2⟩ := e3 k p (by simpa using hk)
        exact ⟨by omega, q2⟩
    · cases h
noncomputable def buildSliceQ (P : Program) (t : TypeId) (len id : Nat) (parts : Array (Nat × Value)) (σ : St) : Option ARes :=
  match P.underlying t with
  | some (.slice elem) => match sz? P elem with
    | some n => cond (Nat.ble (Nat.mul len n) 16777216 && Nat.blt 0 (Nat.mul len n)) (match zcells? P elem n with
      | some z => cond (Nat.blt 0 z.toList.length) (match partsQ n parts.toList 0 with
        | some (c, m) => cond (Nat.beq m len) (some (.val (sliceTo id len n) (opNew id c.toArray σ))) none
        | none => none) none
      | none => none) none
    | none => none
  | _ => none
theorem buildSliceQ_ok {P : Program} {t : TypeId} {len id : Nat} {parts : Array (Nat × Value)} {σ : St} {r : ARes} (h : buildSliceQ P t len id parts σ = some r) : opBuildSlice P t len id parts σ = some r := by
  unfold buildSliceQ at h
  unfold opBuildSlice
  split at h
  · rename_i elem hu
    rw [hu]
    simp only
    split at h
    · rename_i n hs
      rw [hs]
      simp only
      obtain ⟨h1, h⟩ := condN h rfl
      simp only [Bool.and_eq_true] at h1
      have h2 : len * n ≤ 16777216 := by simpa using h1.1
      have h3 : ¬ (len * n = 0) := by have := Nat.le_of_ble_eq_true h1.2; simp at this; omega
      rw [if_pos h2, if_neg h3]
      split at h
      · rename_i z hz
        rw [hz]
        simp only
        obtain ⟨hz0, h⟩ := condN h rfl
        split at h
        · rename_i c m hp
          obtain ⟨hm, h⟩ := condN h rfl
          obtain ⟨e1, e2, e3⟩ := partsQ_ok _ _ _ _ hp
          have hm2 : m = len := by simpa using hm
          have hlen : parts.toList.length = len := by omega
          have hrow : zrow z (len * n) = ([] ++ (zrow z (len * n)).toList).toArray := by simp
          have hf := fill_consec (n := n) parts.toList 0 [] (zrow z (len * n)).toList (by simp) (by rw [hlen]; simp [zrow]) e3
          rw [← hrow, List.nil_append, ← e1] at hf
          rw [hf]
          simp only
          have hsz : c.toArray.size = len * n := by
            rw [e1]
            have : ∀ (l : List (Nat × Value)), (∀ (k : Nat) (p : Nat × Value), l[k]? = some p → p.2.cells.size = n) → (l.flatMap (·.2.cells.toList)).length = l.length * n := by
              intro l
              induction l with
              | nil => intro _; simp
              | cons a l ih =>
                intro h
                have h0 := h 0 a rfl
                rw [List.flatMap_cons, List.length_append, ih (fun k p hk => h (k + 1) p (by simpa using hk)), List.length_cons, Nat.add_mul]
                simp [h0]; omega
            simp [this _ (fun k p hk => (e3 k p hk).2), ← hlen]
          rw [if_pos hsz]
          exact h
        · cases h
      · cases h
    · cases h
  · cases h
/-- Parts laid over cells. -/
noncomputable def fillQ (pl : Nat → Option (Nat × Nat)) (N : Nat) (l : List (Nat × Value)) : List Value → Option (List Value) := List.rec (motive := fun _ => List Value → Option (List Value)) (fun cells => some cells) (fun x _ ih cells => match pl x.1 with
  | some (off, size) => cond (Nat.beq x.2.cells.toList.length size) (cond (Nat.ble (Nat.add off size) N) (ih (List.take off cells ++ (x.2.cells.toList ++ List.drop (Nat.add off size) cells))) none) none
  | none => none) l
theorem fillQ_ok {pl : Nat → Option (Nat × Nat)} {N : Nat} : ∀ (l : List (Nat × Value)) (cells c : List Value), cells.length = N → fillQ pl N l cells = some c → Instr.fill pl cells.toArray l = some c.toArray
  | [], cells, c, _, h => by cases h; rfl
  | (i, v) :: l, cells, c, hN, h => by
    have h : (match pl i with
      | some (off, size) => cond (Nat.beq v.cells.toList.length size) (cond (Nat.ble (Nat.add off size) N) (fillQ pl N l (List.take off cells ++ (v.cells.toList ++ List.drop (Nat.add off size) cells))) none) none
      | none => none) = some c := h
    unfold Instr.fill
    split at h
    · rename_i off size hp
      rw [hp]
      simp only
      obtain ⟨h1, h⟩ := condN h rfl
      obtain ⟨h2, h⟩ := condN h rfl
      have h1 : v.cells.size = size := by simpa using h1
      have h2 : off + size ≤ N := by simpa using h2
      have hc : ¬ (v.cells.size ≠ size ∨ off + v.cells.size > cells.toArray.size) := by
        rintro (q | q)
        · exact q h1
        · simp at q; omega
      rw [if_neg (by simpa using hc)]
      have hz : v.cells.zipIdx.foldl (fun (cs : Array Value) (x : Value × Nat) => cs.setIfInBounds (off + x.2) x.1) (List.take off cells ++ List.drop off cells).toArray = (List.take off cells ++ v.cells.toList ++ (List.drop off cells).drop v.cells.toList.length).toArray := by
        rw [← Array.foldl_toList, Array.toList_zipIdx, fold_set v.cells.toList 0 (List.take off cells) (List.drop off cells) (by simp; omega) (by simp; omega)]
      have hz' : v.cells.zipIdx.foldl (fun (cs : Array Value) (x : Value × Nat) => match x with | (c, j) => cs.setIfInBounds (off + j) c) cells.toArray = (List.take off cells ++ (v.cells.toList ++ List.drop (off + size) cells)).toArray := by
        rw [List.take_append_drop] at hz
        have hz : v.cells.zipIdx.foldl (fun (cs : Array Value) (x : Value × Nat) => match x with | (c, j) => cs.setIfInBounds (off + j) c) cells.toArray = _ := hz
        rw [hz, List.drop_drop, List.append_assoc]
        simp [h1]
      rw [hz']
      exact fillQ_ok l _ c (by simp [h1]; omega) h
    · cases h
noncomputable def buildQ (P : Program) (t : TypeId) (parts : Array (Nat × Value)) : Option Value := match zero? P t, places? P t with
  | some z, some pl => match fillQ pl z.cells.toList.length parts.toList z.cells.toList with
    | some c => some (.agg c.toArray)
    | none => none
  | _, _ => none
theorem buildQ_ok {P : Program} {t : TypeId} {parts : Array (Nat × Value)} {v : Value} (h : buildQ P t parts = some v) : opBuild P t parts = some v := by
  unfold buildQ at h
  unfold opBuild
  split at h
  · rename_i z pl hz hp
    rw [hz, hp]
    simp only
    split at h
    · rename_i c hc
      have := fillQ_ok _ _ _ rfl hc
      simp only [Array.toArray_toList] at this
      rw [this]
      exact h
    · cases h
  · cases h
noncomputable def evalOpQ (P : Program) (ρ : Operand → Value) (id : Nat) (o : Oper) (σ : St) : Option ARes := match o.op with
  | .buildSlice t len parts => match buildSliceQ P t len id (parts.map fun (i, x) => (i, ρ x)) σ with
    | some r => some r
    | none => evalOp P ρ id o σ
  | .build t parts => match buildQ P t (parts.map fun (i, x) => (i, ρ x)) with
    | some v => some (.val v σ)
    | none => evalOp P ρ id o σ
  | _ => evalOp P ρ id o σ
theorem evalOpQ_eq {P : Program} {ρ : Operand → Value} {id : Nat} {o : Oper} {σ : St} : evalOpQ P ρ id o σ = evalOp P ρ id o σ := by
  unfold evalOpQ
  split
  · rename_i t len parts ho
    split
    · rename_i r hr
      have := buildSliceQ_ok hr
      obtain ⟨d, op, ty, pos, af, gd⟩ := o
      simp only at ho
      subst ho
      exact this.symm
    · rfl
  · rename_i t parts ho
    split
    · rename_i v hr
      have := buildQ_ok hr
      obtain ⟨d, op, ty, pos, af, gd⟩ := o
      simp only at ho
      subst ho
      have e : evalOp P ρ id { dst := d, op := .build t parts, type := ty, pos := pos, after := af, guard := gd } σ = valOf σ (opBuild P t (parts.map fun (i, x) => (i, ρ x))) := rfl
      rw [e, this]; rfl
    · rfl
  · rfl
end Go.Ev

namespace Go.Ev
open Go
set_option linter.unusedVariables false
set_option linter.unusedSimpArgs false

noncomputable section
/-! ## Values at hand -/
def kindOf : Nat → IntKind
  | 0 => .i64 | 1 => .u8 | 2 => .i32 | 3 => .u32 | 4 => .u64 | 5 => .u16 | 6 => .i16 | _ => .i8
def codeOf : IntKind → Nat
  | .i64 => 0 | .u8 => 1 | .i32 => 2 | .u32 => 3 | .u64 => 4 | .u16 => 5 | .i16 => 6 | .i8 => 7
theorem kindOf_codeOf (k : IntKind) : kindOf (codeOf k) = k := by cases k <;> rfl
/-- Above all a kind's numbers that are not negative. -/
def limN (c : Nat) : Nat := Nat.casesOn c 9223372036854775808 (fun c => Nat.casesOn c 256 (fun c => Nat.casesOn c 2147483648 (fun c => Nat.casesOn c 4294967296 (fun c => Nat.casesOn c 18446744073709551616 (fun c => Nat.casesOn c 65536 (fun c => Nat.casesOn c 32768 (fun _ => 128)))))))
/-- A number that is not negative · a bool · what a text's iterator tells · another value. -/
inductive XV where
  | nat (k n : Nat)
  | bool (b : Bool)
  | nxt (pos c : Nat)
  | oth (v : Value)
def XV.out : XV → Value
  | .nat k n => .int (kindOf k) (.ofNat n)
  | .bool b => .bool b
  | .nxt pos c => .tuple #[.bool true, .int .i64 (.ofNat pos), .int .i32 (.ofNat c)]
  | .oth v => v
abbrev XEnv := Tr XV

/-! ## Code made ready -/
inductive XArg where
  | loc (i : Nat)
  | var (p : List Bool)
  | val (v : XV)
inductive XIns where
  | mov (a : XArg)
  | bin (op : BinOp) (a b : XArg)
  | notB (a : XArg)
  | ext (i : Nat) (a : XArg)
  | lenS (str : Bool) (a : XArg)
  | pick (c a b : XArg)
  | next (a : XArg)
  | conv (k : Nat) (a : XArg)
  | idxS (a b : XArg)
  | shf (left : Bool) (a b : XArg)
  | bits (op : BinOp) (a b : XArg)
  | subS (a : XArg) (lo hi : Option XArg)
  | nilC (a : XArg)
  | load1 (a : XArg)
  | loadN (n : Nat) (a : XArg)
  | store (n : Nat) (a v : XArg)
  | faddr (off : Nat) (a : XArg)
  | iaddr (n : Nat) (len : Option Nat) (a i : XArg)
  | callF (f : FuncId) (args : List XArg)
  | app (xT : TypeId) (i : TypeInfo) (z : Array Value) (n : Nat) (s x : XArg)
  | mk (i : TypeInfo) (z : Array Value) (n : Nat) (l c : XArg)
  | gen (o : Oper) (m : List (Nat × XArg)) (i : Nat)
inductive XI where
  | plain (i : XIns)
  | put (p : List Bool) (i : XIns)
  | guarded (g : XArg) (want : Bool) (p : Option (List Bool)) (i : XIns)
/-- An operation of a row that draws its order: plain · makes a block · any other. -/
inductive DI where
  | ins (i : XIns)
  | al (o : Oper) (m : List (Nat × XArg)) (i : Nat)
  | gen (o : Oper) (m : List (Nat × XArg)) (i : Nat)
structure DQ where
  loud : Bool
  guard : Option (XArg × Bool)
  p : Option (List Bool)
  di : DI
inductive XCode where
  | skip
  | ret
  | exit (id : Nat)
  | ops (l : List XI) (n : Nat)
  | draw (ops : Array Oper) (keep : List Nat)
  | drawq (l : List DQ) (n : Nat)
  | seq (a b : XCode)
  | cond (c : XArg) (a b : XCode)
  | block (id : Nat) (c : XCode)
  | loop (c : XCode)
structure XFn where
  code : XCode
  params : List (Option (List Bool))
  res : List (ResultVar × List Bool)

abbrev R := Option (Value × St)
abbrev KF := FuncId → List XV → St → (XV → St → R) → R

/-! ## Laying bare -/
def forceN (n : Nat) (k : Nat → R) : R := Nat.casesOn n (k 0) (fun m => k (Nat.succ m))
theorem forceN_eq (n : Nat) (k : Nat → R) : forceN n k = k n := by cases n <;> rfl
def forceX (v : XV) (k : XV → R) : R := XV.casesOn v (fun c n => k (.nat c n)) (fun b => k (.bool b)) (fun p c => k (.nxt p c)) (fun v => k (.oth v))
theorem forceX_eq (v : XV) (k : XV → R) : forceX v k = k v := by cases v <;> rfl
def forceB (b : Bool) (k : XV → R) : R := Bool.casesOn b (k (.bool false)) (k (.bool true))
theorem forceB_eq (b : Bool) (k : XV → R) : forceB b k = k (.bool b) := by cases b <;> rfl
def retN (c n : Nat) (k : XV → R) : R := Nat.casesOn n (k (.nat c 0)) (fun m => k (.nat c (Nat.succ m)))
theorem retN_eq (c n : Nat) (k : XV → R) : retN c n k = k (.nat c n) := by cases n <;> rfl
def retI (kd : IntKind) (n : Int) (k : XV → R) : R := Int.casesOn n (fun n => retN (codeOf kd) n k) (fun n => forceN n fun n => k (.oth (.int kd (.negSucc n))))
/-- A value, taken at hand. -/
def take (v : Value) (k : XV → R) : R := match v with
  | .int kd n => retI kd n k
  | .bool b => forceB b k
  | .pointer a => k (.oth (.pointer a))
  | .slice a n c => forceN n fun n => k (.oth (.slice a n c))
  | .string s => k (.oth (.string s))
  | v => k (.oth v)

/-! ## Trees, by their recursors -/
def getR {α : Type} (p : List Bool) : Tr α → Option α :=
  List.rec (motive := fun _ => Tr α → Option α) (fun t => Tr.casesOn t none (fun v _ _ => v)) (fun b _ ih t => Tr.casesOn t none (fun _ l r => Bool.casesOn b (ih r) (ih l))) p
def setK {α : Type} (p : List Bool) : α → Tr α → (Tr α → R) → R :=
  List.rec (motive := fun _ => α → Tr α → (Tr α → R) → R)
    (fun x t k => Tr.casesOn t (k (.node (some x) .nil .nil)) (fun _ l r => k (.node (some x) l r)))
    (fun b _ ih x t k => Tr.casesOn t (Bool.casesOn b (ih x .nil fun r => k (.node none .nil r)) (ih x .nil fun l => k (.node none l .nil)))
      (fun v l r => Bool.casesOn b (ih x r fun r => k (.node v l r)) (ih x l fun l => k (.node v l r)))) p
/-- The same, by a number. -/
def getN {α : Type} (n : Nat) (t : Tr α) : Option α :=
  Nat.rec (motive := fun _ => Nat → Tr α → Option α) (fun _ t => Tr.casesOn t none (fun v _ _ => v))
    (fun _ ih n t => Nat.casesOn n (Tr.casesOn t none (fun v _ _ => v)) (fun m => Tr.casesOn t none (fun _ l r => Bool.casesOn (Nat.beq (Nat.mod m 2) 1) (ih (Nat.div m 2) r) (ih (Nat.div m 2) l)))) n n t
def setN {α : Type} (n : Nat) : α → Tr α → (Tr α → R) → R :=
  Nat.rec (motive := fun _ => Nat → α → Tr α → (Tr α → R) → R) (fun _ x t k => Tr.casesOn t (k (.node (some x) .nil .nil)) (fun _ l r => k (.node (some x) l r)))
    (fun _ ih n x t k => Nat.casesOn n (Tr.casesOn t (k (.node (some x) .nil .nil)) (fun _ l r => k (.node (some x) l r)))
      (fun m => Tr.casesOn t (Bool.casesOn (Nat.beq (Nat.mod m 2) 1) (ih (Nat.div m 2) x .nil fun r => k (.node none .nil r)) (ih (Nat.div m 2) x .nil fun l => k (.node none l .nil)))
        (fun v l r => Bool.casesOn (Nat.beq (Nat.mod m 2) 1) (ih (Nat.div m 2) x r fun r => k (.node v l r)) (ih (Nat.div m 2) x l fun l => k (.node v l r))))) n n

def nth (L : List XV) : Nat → XV :=
  List.rec (motive := fun _ => Nat → XV) (fun _ => .oth undef) (fun v _ ih i => Nat.casesOn i v ih) L
def orUndef (o : Option XV) : XV := Option.casesOn o (.oth undef) (fun v => v)
def XArg.get (a : XArg) (env : XEnv) (L : List XV) : XV := XArg.casesOn a (fun i => nth L i) (fun p => orUndef (getR p env)) (fun v => v)

/-! ## Numbers -/
def binI (op : BinOp) (k : IntKind) (a b : Int) (c : XV → R) : R := match op with
  | .add => retI k (k.wrap (a + b)) c
  | .sub => retI k (k.wrap (a - b)) c
  | .mul => retI k (k.wrap (a * b)) c
  | .eql => forceB (decide (a = b)) c
  | .neq => forceB (!decide (a = b)) c
  | .lss => forceB (decide (a < b)) c
  | .leq => forceB (decide (a ≤ b)) c
  | .gtr => forceB (decide (a > b)) c
  | .geq => forceB (decide (a ≥ b)) c
  | _ => none
def binV (op : BinOp) (a b : Value) (c : XV → R) : R := match a, b with
  | .int k m, .int k' n => if k = k' then binI op k m n c else none
  | _, _ => none
/-- Two numbers that are not negative; 'slow': where the answer is none, or too large. -/
def binN (op : BinOp) (k m n : Nat) (slow : R) (c : XV → R) : R := match op with
  | .add => cond (Nat.blt (Nat.add m n) (limN k)) (retN k (Nat.add m n) c) slow
  | .sub => cond (Nat.ble n m) (cond (Nat.blt m (limN k)) (retN k (Nat.sub m n) c) slow) slow
  | .mul => cond (Nat.blt (Nat.mul m n) (limN k)) (retN k (Nat.mul m n) c) slow
  | .eql => forceB (Nat.beq m n) c
  | .neq => forceB (Bool.casesOn (Nat.beq m n) true false) c
  | .lss => forceB (Nat.blt m n) c
  | .leq => forceB (Nat.ble m n) c
  | .gtr => forceB (Nat.blt n m) c
  | .geq => forceB (Nat.ble n m) c
  | _ => slow

/-! ## Instructions -/
def rgen (m : List (Nat × XArg)) (env : XEnv) (L : List XV) : Operand → Value
  | .tmp t => List.rec (motive := fun _ => Value) undef (fun x _ ih => cond (Nat.beq x.1 t) (x.2.get env L).out ih) m
  | .const v => v
  | .global g => .pointer (some ⟨g, 0, none⟩)
  | .func f => .func (.func f) #[] #[]
def argsK (l : List XArg) (env : XEnv) (L : List XV) : (List XV → R) → R :=
  List.rec (motive := fun _ => (List XV → R) → R) (fun k => k []) (fun a _ ih k => forceX (a.get env L) fun v => ih fun vs => k (v :: vs)) l

abbrev SK := XEnv → List XV → Nat → St → (XV → St → R) → R
def iMov (a : XArg) : SK := fun env L _ σ k => forceX (a.get env L) fun v => k v σ
def iBin (op : BinOp) (a b : XArg) : SK := fun env L _ σ k =>
  XV.casesOn (a.get env L)
    (fun ka m => XV.casesOn (b.get env L) (fun kb n => cond (Nat.beq ka kb) (binN op ka m n (binV op (.int (kindOf ka) (.ofNat m)) (.int (kindOf kb) (.ofNat n)) fun v => k v σ) fun v => k v σ) none) (fun _ => none) (fun _ _ => none)
      (fun w => binV op (.int (kindOf ka) (.ofNat m)) w fun v => k v σ))
    (fun _ => none) (fun _ _ => none) (fun v => binV op v (b.get env L).out fun v => k v σ)
def iNot (a : XArg) : SK := fun env L _ σ k => XV.casesOn (a.get env L) (fun _ _ => none) (fun b => Bool.casesOn b (k (.bool true) σ) (k (.bool false) σ)) (fun _ _ => none) (fun _ => none)
def iExt (i : Nat) (a : XArg) : SK := fun env L _ σ k => match a.get env L with
  | .nxt p c => Nat.casesOn i (k (.bool true) σ) (fun i => Nat.casesOn i (k (.nat 0 p) σ) (fun i => Nat.casesOn i (k (.nat 2 c) σ) (fun _ => none)))
  | .oth (.tuple vs) => match vs[i]? with
    | some v => take v fun v => k v σ
    | none => none
  | _ => none
def lenK (l : List UInt8) : Nat → (Nat → R) → R :=
  List.rec (motive := fun _ => Nat → (Nat → R) → R) (fun acc k => k acc) (fun _ _ ih acc k => forceN (Nat.add acc 1) fun acc => ih acc k) l
def iLen (str : Bool) (a : XArg) : SK := fun env L _ σ k => match str, a.get env L with
  | true, .oth (.string s) => lenK s.data.toList 0 fun n => k (.nat 0 n) σ
  | false, .oth (.slice _ n _) => k (.nat 0 n) σ
  | _, _ => none
def iPick (c a b : XArg) : SK := fun env L _ σ k => XV.casesOn (c.get env L) (fun _ _ => none) (fun t => Bool.casesOn t (forceX (b.get env L) fun v => k v σ) (forceX (a.get env L) fun v => k v σ)) (fun _ _ => none) (fun _ => none)
def byteN (s : ByteArray) (i : Nat) : Nat :=
  ByteArray.casesOn s fun a => Array.casesOn a fun l => List.rec (motive := fun _ => Nat → Nat) (fun _ => 0) (fun b _ ih i => Nat.casesOn i (UInt8.toNat b) ih) l i
def blk (A : Nat) (σ : St) : Option AObj := getN A σ.heap
def setBlk (A : Nat) (o : AObj) (σ : St) (k : St → R) : R := St.casesOn σ fun heap fams next hint => setN A o heap fun heap => k ⟨heap, fams, next, hint⟩
def iNext (a : XArg) : SK := fun env L _ σ k => match a.get env L with
  | .oth (.pointer (some ⟨A, 0, none⟩)) => match blk A σ with
    | some (.iter s pos) => cond (Nat.blt pos s.size)
        (forceN (byteN s pos) fun b => cond (Nat.blt b 128)
          (forceN (Nat.succ pos) fun p1 => setBlk A (.iter s p1) σ fun σ => k (.nxt pos b) σ)
          (forceN (Utf8.decode s pos).1 fun c => forceN (pos + (Utf8.decode s pos).2) fun p1 => setBlk A (.iter s p1) σ fun σ => k (.nxt pos c) σ))
        (k (.oth (.tuple #[.bool false])) σ)
    | _ => none
  | _ => none
def iConv (c : Nat) (a : XArg) : SK := fun env L _ σ k => match a.get env L with
  | .nat _ n => cond (Nat.blt n (limN c)) (k (.nat c n) σ) (retI (kindOf c) ((kindOf c).wrap (.ofNat n)) fun v => k v σ)
  | .oth (.int _ n) => retI (kindOf c) ((kindOf c).wrap n) fun v => k v σ
  | _ => none
def iIdxS (a b : XArg) : SK := fun env L _ σ k => match a.get env L, b.get env L with
  | .oth (.string s), .nat _ i => cond (Nat.blt i s.size) (retN 1 (byteN s i) fun v => k v σ) none
  | _, _ => none
def bitsN (c : Nat) : Nat := Nat.casesOn c 64 (fun c => Nat.casesOn c 8 (fun c => Nat.casesOn c 32 (fun c => Nat.casesOn c 32 (fun c => Nat.casesOn c 64 (fun c => Nat.casesOn c 16 (fun c => Nat.casesOn c 16 (fun _ => 8)))))))
def iShf (left : Bool) (a b : XArg) : SK := fun env L _ σ k => match a.get env L, b.get env L with
  | .nat c m, .nat _ n => cond (Nat.ble n (bitsN c)) (Bool.casesOn left (cond (Nat.blt m (limN c)) (retN c (Nat.div m (Nat.pow 2 n)) fun v => k v σ) none)
      (cond (Nat.blt (Nat.mul m (Nat.pow 2 n)) (limN c)) (retN c (Nat.mul m (Nat.pow 2 n)) fun v => k v σ) (retI (kindOf c) ((kindOf c).wrap (.ofNat (Nat.mul m (Nat.pow 2 n)))) fun v => k v σ))) none
  | .oth (.int kd m), .nat _ n => cond (Nat.ble n kd.bits) (Bool.casesOn left (retI kd (m.fdiv (2 ^ n)) fun v => k v σ) (retI kd (kd.wrap (m * 2 ^ n)) fun v => k v σ)) none
  | _, _ => none
def iBits (op : BinOp) (a b : XArg) : SK := fun env L _ σ k => match a.get env L, b.get env L with
  | .nat c m, .nat c' n => cond (Nat.beq c c' && Nat.blt m (limN c) && Nat.blt n (limN c)) (match op with
      | .and => retN c (Nat.land m n) fun v => k v σ
      | .or => retN c (Nat.lor m n) fun v => k v σ
      | .xor => retN c (Nat.xor m n) fun v => k v σ
      | _ => none) none
  | _, _ => none
def bound (d : Nat) (o : Option XArg) (env : XEnv) (L : List XV) (k : Nat → R) : R := match o with
  | none => k d
  | some a => match a.get env L with
    | .nat _ n => k n
    | _ => none
/-- The bytes from l to h. -/
def cut (s : ByteArray) (l h : Nat) : ByteArray := ⟨⟨(s.data.toList.drop l).take (h - l)⟩⟩
def iSubS (a : XArg) (lo hi : Option XArg) : SK := fun env L _ σ k => match a.get env L with
  | .oth (.string s) => bound 0 lo env L fun l => bound s.size hi env L fun h => cond (Nat.ble l h && Nat.ble h s.size) (k (.oth (.string (cut s l h))) σ) none
  | _ => none
def iNil (a : XArg) : SK := fun env L _ σ k => match a.get env L with
  | .oth (.pointer (some a)) => k (.oth (.pointer (some a))) σ
  | .oth (.iface t v) => k (.oth (.iface t v)) σ
  | .oth (.func (.func f) a c) => k (.oth (.func (.func f) a c)) σ
  | _ => none
def nthO (c : List Value) : Nat → Option Value :=
  List.rec (motive := fun _ => Nat → Option Value) (fun _ => none) (fun v _ ih i => Nat.casesOn i (some v) ih) c
def dropR (o : Nat) : List Value → Option (List Value) :=
  Nat.rec (motive := fun _ => List Value → Option (List Value)) (fun c => some c) (fun _ ih c => List.casesOn c none (fun _ c => ih c)) o
def takeR (n : Nat) : List Value → Option (List Value) :=
  Nat.rec (motive := fun _ => List Value → Option (List Value)) (fun _ => some []) (fun _ ih c => List.casesOn c none (fun v c => Option.casesOn (ih c) none (fun l => some (v :: l)))) n
def subR (c : List Value) (o n : Nat) : Option (List Value) := Option.casesOn (dropR o c) none (fun c => takeR n c)
def overK (vs : List Value) : List Value → (List Value → R) → R :=
  List.rec (motive := fun _ => List Value → (List Value → R) → R) (fun c k => k c) (fun v _ ih c k => List.casesOn c none (fun _ c => ih c fun l => k (v :: l))) vs
def layK (vs : List Value) (o : Nat) : List Value → (List Value → R) → R :=
  Nat.rec (motive := fun _ => List Value → (List Value → R) → R) (fun c k => overK vs c k) (fun _ ih c k => List.casesOn c none (fun a c => ih c fun l => k (a :: l))) o
def iLoad1 (a : XArg) : SK := fun env L _ σ k => match a.get env L with
  | .oth (.pointer (some ⟨A, o, none⟩)) => match blk A σ with
    | some (.cells own ver fam c) => cond (own || σ.rd own ver fam) (match nthO c o with
      | some v => take v fun v => k v σ
      | none => none) none
    | _ => none
  | _ => none
def iLoadN (n : Nat) (a : XArg) : SK := fun env L _ σ k => match a.get env L with
  | .oth (.pointer (some ⟨A, o, none⟩)) => match blk A σ with
    | some (.cells own ver fam c) => cond (own || σ.rd own ver fam) (match subR c o n with
      | some l => k (.oth (.agg l.toArray)) σ
      | none => none) none
    | _ => none
  | _ => none
def forceL (l : List Value) : (List Value → R) → R := List.rec (motive := fun _ => (List Value → R) → R) (fun k => k []) (fun a _ ih k => ih fun l => k (a :: l)) l
def appL (l m : List Value) : (List Value → R) → R := List.rec (motive := fun _ => (List Value → R) → R) (fun k => k m) (fun a _ ih k => ih fun l => k (a :: l)) l
def lenV (l : List Value) : Nat → (Nat → R) → R := List.rec (motive := fun _ => Nat → (Nat → R) → R) (fun acc k => k acc) (fun _ _ ih acc k => forceN (Nat.add acc 1) fun acc => ih acc k) l
def hintK (A : Nat) (σ : St) (c : List Value) (k : Nat → R) : R := match getN A σ.hint with
  | some n => forceN n k
  | none => lenV c 0 k
def appFin (A id ver F : Nat) (c c' : List Value) (L M : Nat) (σ : St) (k : St → R) : R := St.casesOn σ fun heap fams next hint =>
  setN A (.cells false ver F c) heap fun heap => setN id (.cells true ver F c') heap fun heap => setN F id fams fun fams => setN A L hint fun hint => setN id M hint fun hint => k ⟨heap, fams, next, hint⟩
/-- An append at a block's very end; great blocks are not laid bare. -/
def appK (A id ver F : Nat) (c nc : List Value) (L : Nat) (σ : St) (k : St → R) : R := lenV nc 0 fun m => forceN (Nat.add L m) fun M =>
  cond (Nat.ble L 96) (appL c nc fun c' => appFin A id ver F c c' L M σ k) (appFin A id ver F c (c ++ nc) L M σ k)
def iApp (P : Program) (xT : TypeId) (i : TypeInfo) (z : Array Value) (n : Nat) (a b : XArg) : SK := fun env L base σ k => match appSrc P xT i z (b.get env L).out σ with
  | some (m, nc) => forceN m fun m => match a.get env L with
    | .oth (.slice bs len kk) => cond (Nat.beq m 0) (k (.oth (.slice bs len kk)) σ)
      (cond (Nat.ble (Nat.add len m) 9223372036854775807 && Nat.ble (Nat.mul (Nat.add (Nat.mul 2 (Nat.add len m)) 1000) i.bytes) 281474976710656)
        (forceN (Nat.add base n) fun id => match kk with
          | 0 => cond (Nat.beq len 0) (forceL nc fun nc => setBlk id (.cells true 0 id nc) σ fun σ => forceN (Nat.succ i.size) fun s1 => k (.oth (.slice (some ⟨id, 0, none⟩) m s1)) σ) none
          | k' + 1 => match bs with
            | some ⟨A, o, none⟩ => cond (Nat.beq k' i.size && nc.all (·.oneCell')) (match blk A σ with
              | some (.cells true ver F c) => hintK A σ c fun Lc => forceN (Nat.add o (Nat.mul len i.size)) fun q => forceN (Nat.add len m) fun len' =>
                cond (Nat.beq o 0 && Nat.beq q Lc) (appK A id ver F c nc Lc σ fun σ => k (.oth (.slice (some ⟨id, 0, none⟩) len' (k' + 1))) σ)
                  (cond (Nat.ble q Lc) (k (.oth (.slice (some ⟨id, 0, none⟩) len' (k' + 1))) (appSt σ A id ver F c o q nc)) none)
              | _ => none) none
            | _ => none)
        none)
    | _ => none
  | none => none
/-- n cells, from c on and then z over and over. -/
def cycR (z : List Value) (n : Nat) : List Value → List Value :=
  Nat.rec (motive := fun _ => List Value → List Value) (fun _ => []) (fun _ ih c => List.casesOn c (List.casesOn z [] (fun v r => v :: ih r)) (fun v r => v :: ih r)) n
def iMake (ti : TypeInfo) (z : Array Value) (n : Nat) (l c : XArg) : SK := fun env L base σ k => match l.get env L, c.get env L with
  | .nat _ a, .nat _ m => cond (Nat.ble a m && Nat.ble m 9223372036854775807 && Nat.ble (Nat.mul ti.bytes m) 281474976710656)
    (forceN (Nat.add base n) fun id => forceL (cycR z.toList (Nat.mul m ti.size) z.toList) fun cs => setBlk id (.cells true 0 id cs) σ fun σ => forceN (Nat.succ ti.size) fun s1 => k (.oth (.slice (some ⟨id, 0, none⟩) a s1)) σ) none
  | _, _ => none
def iStore (n : Nat) (a v : XArg) : SK := fun env L _ σ k => match a.get env L with
  | .oth (.pointer (some ⟨A, o, none⟩)) => forceX (v.get env L) fun v => cond (Nat.beq v.out.cells.size n) (match blk A σ with
      | some (.cells true ver F c) => cond (v.out.cells.toList.all (·.oneCell')) (layK v.out.cells.toList o c fun l => forceN (Nat.succ ver) fun ver => setBlk A (.cells true ver F l) σ fun σ => k (.oth undef) σ) none
      | _ => none) none
  | _ => none
def iFaddr (off : Nat) (a : XArg) : SK := fun env L _ σ k => match a.get env L with
  | .oth (.pointer (some ⟨A, o, none⟩)) => forceN (Nat.add o off) fun o => k (.oth (.pointer (some ⟨A, o, none⟩))) σ
  | _ => none
def iIaddr (n : Nat) (len : Option Nat) (a i : XArg) : SK := fun env L _ σ k => match i.get env L with
  | .nat _ i => match len, a.get env L with
    | none, .oth (.slice (some ⟨A, o, none⟩) len _) => cond (Nat.blt i len) (forceN (Nat.add o (Nat.mul i n)) fun o => k (.oth (.pointer (some ⟨A, o, none⟩))) σ) none
    | some len, .oth (.pointer (some ⟨A, o, none⟩)) => cond (Nat.blt i len) (forceN (Nat.add o (Nat.mul i n)) fun o => k (.oth (.pointer (some ⟨A, o, none⟩))) σ) none
    | _, _ => none
  | _ => none
def iCall (call : KF) (f : FuncId) (args : List XArg) : SK := fun env L _ σ k => argsK args env L fun vs => call f vs σ k
def takes (l : List Value) : (List XV → R) → R := List.rec (motive := fun _ => (List XV → R) → R) (fun k => k []) (fun v _ ih k => take v fun v => ih fun vs => k (v :: vs)) l
/-- A block's cells laid bare. -/
def normK (o : Option Nat) (σ : St) (k : St → R) : R := match o with
  | some A => match blk A σ with
    | some (.cells own ver F c) => forceL c fun c => setBlk A (.cells own ver F c) σ k
    | _ => k σ
  | none => k σ
/-- The block that a copy writes to. -/
def copied (o : Oper) (ρ : Operand → Value) : Option Nat := match o.op with
  | .call c => match c.callee with
    | .builtin .copy => match c.args.toList with
      | x :: _ => match ρ x with
        | .slice (some ⟨A, _, _⟩) _ _ => some A
        | _ => none
      | _ => none
    | _ => none
  | _ => none
def iGen (P : Program) (call : KF) (o : Oper) (m : List (Nat × XArg)) (i : Nat) : SK := fun env L base σ k => match evalOpQ P (rgen m env L) (Nat.add base i) o σ with
  | some (.val v σ') => normK (copied o (rgen m env L)) σ' fun σ' => take v fun v => k v σ'
  | some (.enter f args) => takes args.toList fun vs => call f vs σ k
  | none => none
def xins (P : Program) (call : KF) (i : XIns) : SK := XIns.casesOn i iMov iBin iNot iExt iLen iPick iNext iConv iIdxS iShf iBits iSubS iNil iLoad1 iLoadN iStore iFaddr iIaddr (iCall call) (iApp P) iMake (iGen P call)

/-- A row of instructions; 'base': the name of the row's first. -/
def xops (P : Program) (call : KF) (l : List XI) : XEnv → List XV → Nat → St → (XEnv → St → R) → R :=
  List.rec (motive := fun _ => XEnv → List XV → Nat → St → (XEnv → St → R) → R) (fun env _ _ σ k => k env σ)
    (fun x _ ih => XI.casesOn x
      (fun i env L base σ k => xins P call i env L base σ fun v σ => ih env (v :: L) base σ k)
      (fun p i env L base σ k => xins P call i env L base σ fun v σ => setK p v env fun env => ih env (v :: L) base σ k)
      (fun g want p i env L base σ k => XV.casesOn (g.get env L)
        (fun _ _ => Option.casesOn p (ih env (.oth undef :: L) base σ k) (fun p => setK p (.oth undef) env fun env => ih env (.oth undef :: L) base σ k))
        (fun b => cond (b == want) (xins P call i env L base σ fun v σ => Option.casesOn p (ih env (v :: L) base σ k) (fun p => setK p v env fun env => ih env (v :: L) base σ k))
            (Option.casesOn p (ih env (.oth undef :: L) base σ k) (fun p => setK p (.oth undef) env fun env => ih env (.oth undef :: L) base σ k)))
        (fun _ _ => Option.casesOn p (ih env (.oth undef :: L) base σ k) (fun p => setK p (.oth undef) env fun env => ih env (.oth undef :: L) base σ k))
        (fun v => match v with
          | .bool _ => none
          | _ => Option.casesOn p (ih env (.oth undef :: L) base σ k) (fun p => setK p (.oth undef) env fun env => ih env (.oth undef :: L) base σ k)))) l

/-! ## Rows that draw their order, where the order is of no matter by sight -/
def dcall (call : KF) (f : FuncId) (vs : List XV) (σ : St) (k : XV → St → R) : R := match call f vs σ (fun v σ' => some (v.out, σ')) with
  | some (v, σ') => take v fun v => k v σ'
  | none => none
def xdi (P : Program) (call : KF) (d : DI) (env : XEnv) (base : Nat) (σ : St) (k : XV → Option (Nat × AObj) → St → R) : R := match d with
  | .ins i => xins P call i env [] base σ fun v σ => k v none σ
  | .al o m i => match evalOpQ P (rgen m env []) (Nat.add base i) o σ with
    | some (.val v σ') => match blk (Nat.add base i) σ' with
      | some ao => take v fun v => k v (some (Nat.add base i, ao)) σ
      | none => none
    | _ => none
  | .gen o m i => match evalOpQ P (rgen m env []) (Nat.add base i) o σ with
    | some (.val v σ') => normK (copied o (rgen m env [])) σ' fun σ' => take v fun v => k v none σ'
    | some (.enter f args) => takes args.toList fun vs => dcall call f vs σ fun v σ' => k v none σ'
    | none => none
def pushP (ao : Option (Nat × AObj)) (pend : List (Nat × AObj)) : List (Nat × AObj) := match ao with
  | some x => pend ++ [x]
  | none => pend
def instK (l : List (Nat × AObj)) : St → (St → R) → R := List.rec (motive := fun _ => St → (St → R) → R) (fun σ k => k σ) (fun x _ ih σ k => setBlk x.1 x.2 σ fun σ => ih σ k) l
def putK (p : Option (List Bool)) (v : XV) (env : XEnv) (k : XEnv → R) : R := Option.casesOn p (k env) (fun p => setK p v env k)
def xdrun (P : Program) (call : KF) (d : DQ) (env : XEnv) (base : Nat) (τ : St) (pend : List (Nat × AObj)) (k : XV → St → List (Nat × AObj) → R) : R :=
  Bool.casesOn d.loud (xdi P call d.di env base τ fun v ao τ' => k v τ' (pushP ao pend)) (instK pend τ fun σ => xdi P call d.di env base σ fun v _ τ' => k v τ' [])
def xdq (P : Program) (call : KF) (l : List DQ) : XEnv → Nat → St → List (Nat × AObj) → (XEnv → St → R) → R :=
  List.rec (motive := fun _ => XEnv → Nat → St → List (Nat × AObj) → (XEnv → St → R) → R) (fun env base τ pend k => instK pend τ fun σ => k env σ)
    (fun d _ ih env base τ pend k => Option.casesOn d.guard (xdrun P call d env base τ pend fun v τ pend => putK d.p v env fun env => ih env base τ pend k)
      (fun gw => XV.casesOn (gw.1.get env []) (fun _ _ => putK d.p (.oth undef) env fun env => ih env base τ pend k)
        (fun b => cond (b == gw.2) (xdrun P call d env base τ pend fun v τ pend => putK d.p v env fun env => ih env base τ pend k) (putK d.p (.oth undef) env fun env => ih env base τ pend k))
        (fun _ _ => putK d.p (.oth undef) env fun env => ih env base τ pend k)
        (fun v => match v with
          | .bool _ => none
          | _ => putK d.p (.oth undef) env fun env => ih env base τ pend k))) l

/-! ## Code -/
def xloop (body : XEnv → St → (Ex → XEnv → St → R) → R) (n : Nat) : XEnv → St → (Ex → XEnv → St → R) → R :=
  Nat.rec (motive := fun _ => XEnv → St → (Ex → XEnv → St → R) → R) (fun _ _ _ => none)
    (fun _ ih env σ k => body env σ fun ex env σ => Ex.casesOn ex (ih env σ k) (fun id => k (.exit id) env σ) (k .ret env σ)) n
def xcode (P : Program) (call : KF) (draw : Array Oper → List Nat → XEnv → St → (XEnv → St → R) → R) (lf : Nat) (c : XCode) : XEnv → St → (Ex → XEnv → St → R) → R :=
  XCode.rec (motive := fun _ => XEnv → St → (Ex → XEnv → St → R) → R)
    (fun env σ k => k .normal env σ)
    (fun env σ k => k .ret env σ)
    (fun id env σ k => k (.exit id) env σ)
    (fun l n env σ k => St.casesOn σ fun heap fams next hint => forceN next fun next => forceN (Nat.add next n) fun next' => xops P call l env [] next ⟨heap, fams, next', hint⟩ fun env σ => k .normal env σ)
    (fun ops keep env σ k => draw ops keep env σ fun env σ => k .normal env σ)
    (fun l n env σ k => St.casesOn σ fun heap fams next hint => forceN next fun next => forceN (Nat.add next n) fun next' => xdq P call l env next ⟨heap, fams, next', hint⟩ [] fun env σ => k .normal env σ)
    (fun _ _ iha ihb env σ k => iha env σ fun ex env σ => Ex.casesOn ex (ihb env σ k) (fun id => k (.exit id) env σ) (k .ret env σ))
    (fun c _ _ iha ihb env σ k => XV.casesOn (c.get env []) (fun _ _ => none) (fun b => Bool.casesOn b (ihb env σ k) (iha env σ k)) (fun _ _ => none) (fun _ => none))
    (fun id _ ih env σ k => ih env σ fun ex env σ => Ex.casesOn ex (k .normal env σ) (fun id' => cond (Nat.beq id' id) (k .normal env σ) (k (.exit id') env σ)) (k .ret env σ))
    (fun _ ih env σ k => xloop ih lf env σ k) c

def initK (ps : List (Option (List Bool))) : List XV → XEnv → (XEnv → R) → R :=
  List.rec (motive := fun _ => List XV → XEnv → (XEnv → R) → R) (fun vs env k => List.casesOn vs (k env) (fun _ _ => none))
    (fun p _ ih vs env k => List.casesOn vs (k env) (fun v vs => Option.casesOn p (ih vs env k) (fun p => setK p v env fun env => ih vs env k))) ps
def xres (P : Program) (env : XEnv) (σ : St) : List (ResultVar × List Bool) → Option (List Value)
  | [] => some []
  | (.tmp _, p) :: r => match xres P env σ r with
    | some l => some ((orUndef (getR p env)).out :: l)
    | none => none
  | (.cell _ t, p) :: r => match opLoad P t (orUndef (getR p env)).out σ, xres P env σ r with
    | some v, some l => some (v :: l)
    | _, _ => none
def xret (P : Program) (res : List (ResultVar × List Bool)) (env : XEnv) (σ : St) (k : XV → St → R) : R := match xres P env σ res with
  | some l => take (packed l) fun v => k v σ
  | none => none
def xfn (P : Program) (call : KF) (draw : Array Oper → List Nat → XEnv → St → (XEnv → St → R) → R) (lf : Nat) (f : XFn) (args : List XV) (σ : St) (k : XV → St → R) : R :=
  initK f.params args .nil fun env => xcode P call draw lf f.code env σ fun ex env σ => Ex.casesOn ex (xret P f.res env σ k) (fun _ => none) (xret P f.res env σ k)

/-- Calls, to a depth; 'tab': functions made ready; 'ext': known calls. -/
def xF (P : Program) (tab : FuncId → Option XFn) (ext : FuncId → Option CallF) (draw : KF → Array Oper → List Nat → XEnv → St → (XEnv → St → R) → R) (lf : Nat) (n : Nat) : KF :=
  Nat.rec (motive := fun _ => KF) (fun _ _ _ _ => none)
    (fun _ ih f args σ k => match ext f with
      | some g => match g f (args.map XV.out).toArray σ with
        | some (v, σ') => take v fun v => k v σ'
        | none => match tab f with
          | some xf => xfn P ih (draw ih) lf xf args σ k
          | none => none
      | none => match tab f with
        | some xf => xfn P ih (draw ih) lf xf args σ k
        | none => none) n

/-! ## Making ready -/
def xvOf : Value → XV
  | .int k (.ofNat n) => .nat (codeOf k) n
  | .bool b => .bool b
  | v => .oth v
/-- Where a slot's value is: the j-th pushed · the same as another argument. -/
inductive Src where
  | at (j : Nat)
  | arg (a : XArg)
def look (W : List (Nat × Src)) (t : Nat) : Option Src := match W with
  | [] => none
  | (a, j) :: r => if Nat.beq a t then some j else look r t
def rank : List Nat → Nat → Nat → Option Nat
  | [], _, _ => none
  | a :: l, t, i => if Nat.beq a t then some i else rank l t (i + 1)
def varOf (K : List Nat) (t : Nat) : Option (List Bool) := (rank K t 0).map path
/-- An operand, where i values have been pushed. K: the slots that are kept between rows. -/
def resolve (W : List (Nat × Src)) (K : List Nat) (i : Nat) : Operand → Option XArg
  | .tmp t => match look W t with
    | some (.at j) => some (.loc (i - 1 - j))
    | some (.arg a) => some a
    | none => (varOf K t).map .var
  | .const v => some (.val (xvOf v))
  | .global g => some (.val (.oth (.pointer (some ⟨g, 0, none⟩))))
  | .func f => some (.val (.oth (.func (.func f) #[] #[])))
def resolveO (W : List (Nat × Src)) (K : List Nat) (i : Nat) : Option Operand → Option (Option XArg)
  | none => some none
  | some x => (resolve W K i x).map some
def resolveL (W : List (Nat × Src)) (K : List Nat) (i : Nat) : List Operand → Option (List XArg)
  | [] => some []
  | x :: l => match resolve W K i x, resolveL W K i l with
    | some a, some r => some (a :: r)
    | _, _ => none
def resolveT (W : List (Nat × Src)) (K : List Nat) (i : Nat) : List Operand → Option (List (Nat × XArg))
  | [] => some []
  | .tmp t :: l => match resolve W K i (.tmp t), resolveT W K i l with
    | some a, some r => some ((t, a) :: r)
    | _, _ => none
  | _ :: l => resolveT W K i l
def isInt (P : Program) (t : TypeId) : Bool := match P.underlying t with
  | some (.int _) => true
  | _ => false
def fastBin : BinOp → Bool
  | .add | .sub | .mul | .eql | .neq | .lss | .leq | .gtr | .geq => true
  | _ => false
def hasBody (P : Program) (f : FuncId) : Bool := match P.funcs[f]? with
  | some fn => fn.body.isSome && !(fn.name == "runtime.NumGoroutine")
  | none => false
/-- n: the operation's own place. -/
def compGen (W : List (Nat × Src)) (K : List Nat) (i n : Nat) (o : Oper) : Option XIns := (resolveT W K i o.op.operands.toList).map fun m => .gen o m n
def compIns (P : Program) (W : List (Nat × Src)) (K : List Nat) (i n : Nat) (o : Oper) : Option XIns :=
  match o.op with
  | .move x => (resolve W K i x).map .mov
  | .assign x => (resolve W K i x).map .mov
  | .binOp op t x y _ => if isInt P t then match resolve W K i x, resolve W K i y with
      | some a, some b => (match op with
        | .shl => some (.shf true a b)
        | .shr => some (.shf false a b)
        | .and | .or | .xor => some (.bits op a b)
        | _ => if fastBin op then some (.bin op a b) else compGen W K i n o)
      | _, _ => none
    else compGen W K i n o
  | .slice t x lo hi mx => match P.underlying t, mx with
    | some .string, none => (match resolve W K i x, resolveO W K i lo, resolveO W K i hi with
      | some a, some l, some h => some (.subS a l h)
      | _, _, _ => none)
    | _, _ => compGen W K i n o
  | .unOp .not _ x => (resolve W K i x).map .notB
  | .extract x ix => (resolve W K i x).map (.ext ix)
  | .pick c x y => match resolve W K i c, resolve W K i x, resolve W K i y with
    | some a, some b, some d => some (.pick a b d)
    | _, _, _ => none
  | .next it isS => if isS then (resolve W K i it).map .next else compGen W K i n o
  | .convert src dst x => match isInt P src, P.underlying dst with
    | true, some (.int k) => (resolve W K i x).map (.conv (codeOf k))
    | _, _ => compGen W K i n o
  | .index t x ix => match P.underlying t with
    | some .string => (match resolve W K i x, resolve W K i ix with
      | some a, some b => some (.idxS a b)
      | _, _ => none)
    | _ => compGen W K i n o
  | .nilCheck x => (resolve W K i x).map .nilC
  | .load t a => match ldInfo P t with
    | some none => (resolve W K i a).map .load1
    | some (some n) => (resolve W K i a).map (.loadN n)
    | none => none
  | .store t a v => match sz? P t, resolve W K i a, resolve W K i v with
    | some n, some a, some v => some (.store n a v)
    | _, _, _ => none
  | .fieldAddr s x f => match fieldOf P s f with
    | some off => (resolve W K i x).map (.faddr off)
    | none => none
  | .makeSlice t l c => match P.underlying t with
    | some (.slice e) => (match P.info? e with
      | some ti => (match zcells? P e ti.size, resolve W K i l, resolve W K i c with
        | some z, some a, some b => some (.mk ti z n a b)
        | _, _, _ => none)
      | none => none)
    | _ => none
  | .indexAddr t x ix => match P.underlying t with
    | some (.slice e) => (match sz? P e, resolve W K i x, resolve W K i ix with
      | some n, some a, some b => some (.iaddr n none a b)
      | _, _, _ => none)
    | some (.array len e) => (match sz? P e, resolve W K i x, resolve W K i ix with
      | some n, some a, some b => some (.iaddr n (some len) a b)
      | _, _, _ => none)
    | _ => compGen W K i n o
  | .call c => match c.callee with
    | .value (.func f) => if hasBody P f then (resolveL W K i c.args.toList).map (.callF f) else compGen W K i n o
    | .builtin .len => match c.argTypes.toList, c.args.toList with
      | [t], [x] => (match P.underlying t with
        | some .string => (resolve W K i x).map (.lenS true)
        | some (.slice _) => (resolve W K i x).map (.lenS false)
        | _ => compGen W K i n o)
      | _, _ => compGen W K i n o
    | .builtin .append => match c.argTypes.toList, c.args.toList with
      | [sT, xT], [s, x] => (match P.underlying sT with
        | some (.slice e) => (match P.info? e with
          | some ti => (match zcells? P e ti.size, resolve W K i s, resolve W K i x with
            | some z, some a, some b => some (.app xT ti z n a b)
            | _, _, _ => none)
          | none => none)
        | _ => none)
      | _, _ => none
    | _ => compGen W K i n o
  | _ => compGen W K i n o
/-- A copy that need not be made: of a value, or of a slot that is not written later in the row. -/
def copyOf (o : Oper) (later : List Oper) : Option Operand := match o.guard with
  | some _ => none
  | none => match o.op with
    | .move x => match x with
      | .tmp t => if later.all (fun o' => match o'.dst with | some d => !Nat.beq d t | none => true) then some x else none
      | _ => some x
    | .assign x => match x with
      | .tmp t => if later.all (fun o' => match o'.dst with | some d => !Nat.beq d t | none => true) then some x else none
      | _ => some x
    | _ => none
def dstVar (K : List Nat) (d : Option Nat) : Option (List Bool) := match d with | some d => varOf K d | none => none
def srcOf (i : Nat) (b : XArg) : Src := match b with
  | .loc j => .at (i - 1 - j)
  | b => .arg b
def pushW (d : Option Nat) (i : Nat) (W : List (Nat × Src)) : List (Nat × Src) := match d with | some d => (d, .at i) :: W | none => W
/-- i: values pushed; n: the operation's place. -/
def compOps (P : Program) (gl : List Nat) (N : Nat) (K : List Nat) (ops : Array Oper) : List Oper → Nat → Nat → List (Nat × Src) → Option (List XI)
  | [], _, _, _ => some []
  | o :: l, i, n, W => if okOper gl N o && okGuard ops N o && o.op.operands.toList.all (fun x => (resolve W K i x).isSome) then
      match dstVar K o.dst, copyOf o l, o.dst with
      | none, some x, some d => match resolve W K i x with
        | some b => compOps P gl N K ops l i (n + 1) ((d, srcOf i b) :: W)
        | none => none
      | _, _, _ => match compIns P W K i n o with
        | some ins =>
          match compOps P gl N K ops l (i + 1) (n + 1) (pushW o.dst i W) with
          | some r => match o.guard with
            | none => match dstVar K o.dst with
              | none => some (.plain ins :: r)
              | some p => some (.put p ins :: r)
            | some (j, want) => match (ops[j]?).bind (·.dst) with
              | some d => match resolve W K i (.tmp d) with
                | some g => some (.guarded g want (dstVar K o.dst) ins :: r)
                | none => none
              | none => none
          | none => none
        | none => none
    else none
/-- Is the order of no matter by sight: what is made is laid ahead of all that is loud behind it; what is read stands in an order with all that is loud. -/
def okQ (P : Program) (ops : Array Oper) (B : List Nat) : Bool :=
  okDraw P ops B && ops.toList.zipIdx.all fun x => match clsOf P x.1.op with
    | .loud => ops.toList.zipIdx.all fun y => match clsOf P y.1.op with
      | .alloc => !(Nat.blt y.2 x.2) || bit B x.2 y.2
      | .read => bit B x.2 y.2 || bit B y.2 x.2
      | _ => true
    | _ => true
def isStoreOp : Op → Bool
  | .store .. => true
  | .call c => match c.callee with
    | .builtin .append => true
    | _ => false
  | _ => false
def isLoadOp : Op → Bool
  | .load .. => true
  | _ => false
def compDI0 (P : Program) (K : List Nat) (n : Nat) (o : Oper) : Option (Bool × DI) := match clsOf P o.op with
  | .pure => (compIns P [] K 0 n o).map fun i => (false, .ins i)
  | .read => cond (isLoadOp o.op) ((compIns P [] K 0 n o).map fun i => (false, .ins i)) none
  | .alloc => (resolveT [] K 0 o.op.operands.toList).map fun m => (false, .al o m n)
  | .loud => cond (isStoreOp o.op) ((compIns P [] K 0 n o).map fun i => (true, .ins i)) ((resolveT [] K 0 o.op.operands.toList).map fun m => (true, .gen o m n))
def compDI (P : Program) (K : List Nat) (n : Nat) (o : Oper) : Option (Bool × DI) := cond (o.op.operands.toList.all (fun x => (resolve [] K 0 x).isSome)) (compDI0 P K n o) none
def compDG (K : List Nat) (ops : Array Oper) (o : Oper) : Option (Option (XArg × Bool)) := match o.guard with
  | none => some none
  | some (j, want) => match (ops[j]?).bind (·.dst) with
    | some d => (resolve [] K 0 (.tmp d)).map fun a => some (a, want)
    | none => none
def compDQ (P : Program) (K : List Nat) (ops : Array Oper) : List Oper → Nat → Option (List DQ)
  | [], _ => some []
  | o :: l, n => match compDI P K n o, compDG K ops o, compDQ P K ops l (n + 1) with
    | some (b, d), some g, some r => some ({ loud := b, guard := g, p := dstVar K o.dst, di := d } :: r)
    | _, _, _ => none
def comp (P : Program) (gl : List Nat) (N : Nat) (K : List Nat) : Code → Option XCode
  | .skip => some .skip
  | .label _ => some .skip
  | .ret => some .ret
  | .exit id => some (.exit id)
  | .region _ ops dr => if dr then (if ops.toList.all (fun o => okOper gl N o && okGuard ops N o) then (match cond (okQ P ops (befores ops)) (compDQ P K ops ops.toList 0) none with
      | some l => some (.drawq l ops.size)
      | none => some (.draw ops K)) else none)
    else (compOps P gl N K ops ops.toList 0 0 []).map fun l => .ops l ops.size
  | .seq a b => match comp P gl N K a, comp P gl N K b with
    | some a, some b => some (.seq a b)
    | _, _ => none
  | .cond c a b => match resolve [] K 0 c, comp P gl N K a, comp P gl N K b with
    | some c, some a, some b => some (.cond c a b)
    | _, _, _ => none
  | .block id c => (comp P gl N K c).map (.block id)
  | .loop c => (comp P gl N K c).map .loop
  | .scope c => comp P gl N K c
  | _ => none
def hasDraw : Code → Bool
  | .region _ _ dr => dr
  | .seq a b => hasDraw a || hasDraw b
  | .cond _ a b => hasDraw a || hasDraw b
  | .block _ c => hasDraw c
  | .loop c => hasDraw c
  | .scope c => hasDraw c
  | _ => false
/-- The slots that are read otherwise than behind a writing in the same row. -/
def freeOf (W : List Nat) : List Operand → List Nat
  | [] => []
  | .tmp t :: l => if W.contains t then freeOf W l else t :: freeOf W l
  | _ :: l => freeOf W l
def freeOps (ops : Array Oper) : List Oper → List Nat → List Nat
  | [], _ => []
  | o :: l, W => freeOf W o.op.operands.toList ++ (match o.guard with | some (j, _) => (match (ops[j]?).bind (·.dst) with | some d => if W.contains d then [] else [d] | none => []) | none => []) ++
    freeOps ops l (match o.dst with | some d => d :: W | none => W)
def freeC : Code → List Nat
  | .region _ ops _ => freeOps ops ops.toList []
  | .seq a b => freeC a ++ freeC b
  | .cond c a b => freeOf [] [c] ++ freeC a ++ freeC b
  | .block _ c => freeC c
  | .loop c => freeC c
  | .scope c => freeC c
  | _ => []
def resTmp : ResultVar → Nat
  | .tmp t => t
  | .cell t _ => t
def nub : List Nat → List Nat → List Nat
  | [], acc => acc.reverse
  | t :: l, acc => if acc.contains t then nub l acc else nub l (t :: acc)
def compFn (P : Program) (gl : List Nat) (f : FuncId) : Option XFn := match P.funcs[f]? with
  | some fn => match fn.body with
    | some c =>
      let K := if hasDraw c then List.range fn.ntmps else nub (freeC c ++ fn.results.toList.map resTmp) []
      match comp P gl fn.ntmps K c, fn.results.toList.mapM (fun r => (varOf K (resTmp r)).map fun p => (r, p)) with
      | some x, some rs => some { code := x, params := (List.range fn.ntmps).map (varOf K), res := rs }
      | _, _ => none
    | none => none
  | none => none

/-- A row that draws its order, by the slower evaluator: all slots are kept. -/
def callOf (kf : KF) : CallF := fun f args σ => kf f (args.toList.map xvOf) σ fun v σ' => some (v.out, σ')
def mapT {α β : Type} (f : α → β) : Tr α → Tr β
  | .nil => .nil
  | .node v l r => .node (v.map f) (mapT f l) (mapT f r)
def xdraw (P : Program) (call : CallF) : Array Oper → List Nat → XEnv → St → (XEnv → St → R) → R := fun ops keep env σ k =>
  match evalDraw P call ops (mapT XV.out env) σ with
  | some (env', σ') => k (mapT xvOf env') σ'
  | none => none
end
end Go.Ev

namespace Go.Ev
open Go
set_option linter.unusedVariables false
set_option linter.unusedSimpArgs false

/-! ## Trees -/
theorem getR_eq {α : Type} (p : List Bool) (t : Tr α) : getR p t = t.get p := by
  induction p generalizing t with
  | nil => cases t <;> rfl
  | cons b p ih =>
    cases t with
    | nil => rfl
    | node v l r => cases b <;> exact ih _
theorem setK_eq {α : Type} (p : List Bool) (x : α) (t : Tr α) (k : Tr α → R) : setK p x t k = k (t.set p x) := by
  induction p generalizing t k with
  | nil => cases t <;> rfl
  | cons b p ih =>
    cases t with
    | nil => cases b <;> exact ih _ _
    | node v l r => cases b <;> exact ih _ _

def getNF {α : Type} (f : Nat) : Nat → Tr α → Option α :=
  Nat.rec (motive := fun _ => Nat → Tr α → Option α) (fun _ t => Tr.casesOn t none (fun v _ _ => v))
    (fun _ ih n t => Nat.casesOn n (Tr.casesOn t none (fun v _ _ => v)) (fun m => Tr.casesOn t none (fun _ l r => Bool.casesOn (Nat.beq (Nat.mod m 2) 1) (ih (Nat.div m 2) r) (ih (Nat.div m 2) l)))) f
theorem getNF_eq {α : Type} : ∀ (f n : Nat) (t : Tr α), getNF f n t = t.get (pathF f n)
  | 0, n, t => by cases t <;> rfl
  | f + 1, 0, t => by cases t <;> rfl
  | f + 1, m + 1, t => by
    cases t with
    | nil => rfl
    | node v l r =>
      have ih := fun t => getNF_eq (α := α) f (m / 2) t
      have e : (m % 2 == 1) = Nat.beq (Nat.mod m 2) 1 := by rw [Bool.eq_iff_iff, beq_iff_eq, Nat.beq_eq]; exact Iff.rfl
      simp only [pathF, Tr.get, e, ← ih]
      show (Bool.casesOn (Nat.beq (Nat.mod m 2) 1) (getNF f (Nat.div m 2) r) (getNF f (Nat.div m 2) l) : Option α) = _
      cases Nat.beq (Nat.mod m 2) 1 <;> rfl
theorem getN_eq {α : Type} (n : Nat) (t : Tr α) : getN n t = t.get (path n) := getNF_eq n n t
def setNF {α : Type} (f : Nat) : Nat → α → Tr α → (Tr α → R) → R :=
  Nat.rec (motive := fun _ => Nat → α → Tr α → (Tr α → R) → R) (fun _ x t k => Tr.casesOn t (k (.node (some x) .nil .nil)) (fun _ l r => k (.node (some x) l r)))
    (fun _ ih n x t k => Nat.casesOn n (Tr.casesOn t (k (.node (some x) .nil .nil)) (fun _ l r => k (.node (some x) l r)))
      (fun m => Tr.casesOn t (Bool.casesOn (Nat.beq (Nat.mod m 2) 1) (ih (Nat.div m 2) x .nil fun r => k (.node none .nil r)) (ih (Nat.div m 2) x .nil fun l => k (.node none l .nil)))
        (fun v l r => Bool.casesOn (Nat.beq (Nat.mod m 2) 1) (ih (Nat.div m 2) x r fun r => k (.node v l r)) (ih (Nat.div m 2) x l fun l => k (.node v l r))))) f
theorem setNF_eq {α : Type} : ∀ (f n : Nat) (x : α) (t : Tr α) (k : Tr α → R), setNF f n x t k = k (t.set (pathF f n) x)
  | 0, n, x, t, k => by cases t <;> rfl
  | f + 1, 0, x, t, k => by cases t <;> rfl
  | f + 1, m + 1, x, t, k => by
    have ih := fun t k => setNF_eq (α := α) f (m / 2) x t k
    have e : (m % 2 == 1) = Nat.beq (Nat.mod m 2) 1 := by rw [Bool.eq_iff_iff, beq_iff_eq, Nat.beq_eq]; exact Iff.rfl
    cases t with
    | nil =>
      simp only [pathF, Tr.set, e]
      show (Bool.casesOn (Nat.beq (Nat.mod m 2) 1) (setNF f (m / 2) x .nil fun r => k (.node none .nil r)) (setNF f (m / 2) x .nil fun l => k (.node none l .nil)) : R) = _
      rw [ih, ih]
      cases Nat.beq (Nat.mod m 2) 1 <;> rfl
    | node v l r =>
      simp only [pathF, Tr.set, e]
      show (Bool.casesOn (Nat.beq (Nat.mod m 2) 1) (setNF f (m / 2) x r fun r => k (.node v l r)) (setNF f (m / 2) x l fun l => k (.node v l r)) : R) = _
      rw [ih, ih]
      cases Nat.beq (Nat.mod m 2) 1 <;> rfl
theorem setN_eq {α : Type} (n : Nat) (x : α) (t : Tr α) (k : Tr α → R) : setN n x t k = k (t.set (path n) x) := setNF_eq n n x t k
theorem blk_eq (A : Nat) (σ : St) : blk A σ = σ.get A := getN_eq A σ.heap
theorem setBlk_eq (A : Nat) (o : AObj) (σ : St) (k : St → R) : setBlk A o σ k = k (σ.set A o) := by
  cases σ; exact setN_eq A o _ _

theorem forceL_eq : ∀ (l : List Value) (k : List Value → R), forceL l k = k l
  | [], k => rfl
  | a :: l, k => forceL_eq l fun l => k (a :: l)
theorem appL_eq : ∀ (l m : List Value) (k : List Value → R), appL l m k = k (l ++ m)
  | [], m, k => rfl
  | a :: l, m, k => appL_eq l m fun l => k (a :: l)
theorem lenV_eq : ∀ (l : List Value) (acc : Nat) (k : Nat → R), lenV l acc k = k (acc + l.length)
  | [], acc, k => rfl
  | a :: l, acc, k => by
    show forceN (Nat.add acc 1) (fun acc => lenV l acc k) = _
    rw [forceN_eq, lenV_eq l]
    congr 1
    simp only [List.length_cons, Nat.add_eq]
    omega
theorem Tr.set_same {α : Type} : ∀ (p : List Bool) (x : α) (t : Tr α), t.get p = some x → t.set p x = t
  | [], x, .nil, h => by cases h
  | [], x, .node v l r, h => by
    have h : v = some x := h
    simp [Tr.set, h]
  | b :: p, x, .nil, h => by cases h
  | b :: p, x, .node v l r, h => by
    cases b
    · have := Tr.set_same p x r h
      simp [Tr.set, this]
    · have := Tr.set_same p x l h
      simp [Tr.set, this]
theorem St.set_same {σ : St} {A : Nat} {o : AObj} (h : σ.get A = some o) : σ.set A o = σ := by
  unfold St.set
  rw [Tr.set_same _ _ _ h]
theorem normK_eq (o : Option Nat) (σ : St) (k : St → R) : normK o σ k = k σ := by
  unfold normK
  split
  · rename_i A
    split
    · rename_i own ver F c h
      rw [forceL_eq, setBlk_eq]
      rw [blk_eq] at h
      rw [St.set_same h]
    · rfl
  · rfl
theorem dropR_eq : ∀ (o : Nat) (c : List Value), dropR o c = if o ≤ c.length then some (c.drop o) else none
  | 0, c => by rw [if_pos (Nat.zero_le _), List.drop_zero]; rfl
  | o + 1, [] => rfl
  | o + 1, a :: c => by
    have : dropR (o + 1) (a :: c) = dropR o c := rfl
    rw [this, dropR_eq o c]
    simp
theorem takeR_eq : ∀ (n : Nat) (c : List Value), takeR n c = if n ≤ c.length then some (c.take n) else none
  | 0, c => by rw [if_pos (Nat.zero_le _), List.take_zero]; rfl
  | n + 1, [] => rfl
  | n + 1, a :: c => by
    have : takeR (n + 1) (a :: c) = Option.casesOn (takeR n c) none (fun l => some (a :: l)) := rfl
    rw [this, takeR_eq n c]
    by_cases h : n ≤ c.length
    · simp [h]
    · simp [h]
theorem subR_eq (c : List Value) (o n : Nat) : subR c o n = sub? c o n := by
  unfold subR sub?
  rw [dropR_eq]
  by_cases h : o ≤ c.length
  · rw [if_pos h]
    simp only [takeR_eq, List.length_drop]
    by_cases h2 : o + n ≤ c.length
    · rw [if_pos h2, if_pos (by omega)]
    · rw [if_neg h2, if_neg (by omega)]
  · rw [if_neg h, if_neg (by omega)]
theorem overK_eq : ∀ (vs c : List Value) (k : List Value → R) (r : R), overK vs c k = r → r ≠ none → vs.length ≤ c.length ∧ k (vs ++ c.drop vs.length) = r
  | [], c, k, r, h, _ => ⟨Nat.zero_le _, by simpa [overK] using h⟩
  | v :: vs, [], k, r, h, hr => by
    have h : (none : R) = r := h
    exact (hr h.symm).elim
  | v :: vs, a :: c, k, r, h, hr => by
    have h : overK vs c (fun l => k (v :: l)) = r := h
    obtain ⟨h1, h2⟩ := overK_eq vs c _ r h hr
    exact ⟨by simp; omega, by simpa using h2⟩
theorem layK_eq (vs : List Value) : ∀ (o : Nat) (c : List Value) (k : List Value → R) (r : R), layK vs o c k = r → r ≠ none → o + vs.length ≤ c.length ∧ k (lay c o vs) = r
  | 0, c, k, r, h, hr => by
    have h : overK vs c k = r := h
    obtain ⟨h1, h2⟩ := overK_eq vs c k r h hr
    exact ⟨by omega, by simpa [lay] using h2⟩
  | o + 1, [], k, r, h, hr => by
    have h : (none : R) = r := h
    exact (hr h.symm).elim
  | o + 1, a :: c, k, r, h, hr => by
    have h : layK vs o c (fun l => k (a :: l)) = r := h
    obtain ⟨h1, h2⟩ := layK_eq vs o c _ r h hr
    refine ⟨by simp; omega, ?_⟩
    rw [← h2]
    congr 1
    unfold lay
    rw [show o + 1 + vs.length = (o + vs.length) + 1 by omega]
    simp
theorem cycR_get (z : List Value) (hz : z ≠ []) : ∀ (n k : Nat), k ≤ z.length → (cycR z n (z.drop k)).length = n ∧ ∀ i (h : i < (cycR z n (z.drop k)).length), (cycR z n (z.drop k))[i] = z.getD ((k + i) % z.length) undef
  | 0, k, _ => ⟨rfl, fun i h => by cases h⟩
  | n + 1, k, hk => by
    have hpos : 0 < z.length := List.length_pos_iff.2 hz
    have key : ∀ (j : Nat) (hj : j < z.length), j = k % z.length → cycR z (n + 1) (z.drop k) = z[j] :: cycR z n (z.drop (j + 1)) := by
      intro j hj e
      by_cases hlt : k < z.length
      · have : j = k := by rw [e, Nat.mod_eq_of_lt hlt]
        subst this
        have hd : z.drop j = z[j] :: z.drop (j + 1) := List.drop_eq_getElem_cons hj
        rw [hd]; rfl
      · have hk2 : k = z.length := by omega
        have : j = 0 := by rw [e, hk2, Nat.mod_self]
        subst this
        rw [hk2, List.drop_length]
        cases z with
        | nil => exact (hz rfl).elim
        | cons v r => rfl
    have hj : k % z.length < z.length := Nat.mod_lt _ hpos
    rw [key _ hj rfl]
    obtain ⟨h1, h2⟩ := cycR_get z hz n (k % z.length + 1) (by omega)
    refine ⟨by simp [h1], fun i hi => ?_⟩
    cases i with
    | zero => simp [hj]
    | succ i =>
      simp only [List.getElem_cons_succ]
      rw [h2]
      congr 1
      rw [show k % z.length + 1 + i = k % z.length + (1 + i) by omega, Nat.mod_add_mod]
      congr 1; omega
theorem cycR_zrow (z : Array Value) (n : Nat) (hz : z.size ≠ 0) : cycR z.toList n z.toList = (zrow z n).toList := by
  have hne : z.toList ≠ [] := fun e => hz (by have := congrArg List.length e; simpa using this)
  obtain ⟨h1, h2⟩ := cycR_get z.toList hne n 0 (Nat.zero_le _)
  rw [List.drop_zero] at h1 h2
  have hs : (zrow z n).size = n := by simp [zrow]
  refine List.ext_getElem (by rw [h1]; simp [hs]) fun i a b => ?_
  rw [h2 i a]
  have hm : i % z.size < z.size := Nat.mod_lt _ (by omega)
  simp [zrow, hm]
theorem hintK_eq {A : Nat} {σ : St} {c : List Value} {own : Bool} {ver F : Nat} (hA : σ.get A = some (.cells own ver F c)) (hw : σ.Wf) (k : Nat → R) : hintK A σ c k = k c.length := by
  unfold hintK
  rw [getN_eq]
  cases h : Tr.get σ.hint (path A) with
  | none => simp only [lenV_eq, Nat.zero_add]
  | some n =>
    obtain ⟨_, _, _, c2, h1, h2⟩ := hw.hint A n h
    rw [hA] at h1; cases h1
    simp only [forceN_eq, h2]
/-- What is noted of a block's length, or that length. -/
def hintN (A : Nat) (σ : St) (c : List Value) : Nat := match getN A σ.hint with
  | some n => n
  | none => c.length
theorem hintK_N (A : Nat) (σ : St) (c : List Value) (k : Nat → R) : hintK A σ c k = k (hintN A σ c) := by
  unfold hintK hintN
  cases getN A σ.hint with
  | none => simp only [lenV_eq, Nat.zero_add]
  | some n => simp only [forceN_eq]
theorem hintN_eq {A : Nat} {σ : St} {c : List Value} {own : Bool} {ver F : Nat} (hA : σ.get A = some (.cells own ver F c)) (hw : σ.Wf) : hintN A σ c = c.length := by
  unfold hintN
  rw [getN_eq]
  cases h : Tr.get σ.hint (path A) with
  | none => rfl
  | some n =>
    obtain ⟨_, _, _, c2, h1, h2⟩ := hw.hint A n h
    rw [hA] at h1; cases h1
    exact h2.symm
theorem appFin_eq (A id ver F : Nat) (c c' : List Value) (L M : Nat) (σ : St) (k : St → R) :
    appFin A id ver F c c' L M σ k = k (((((σ.set A (.cells false ver F c)).set id (.cells true ver F c')).setFam F id).setHint A L).setHint id M) := by
  cases σ
  unfold appFin
  simp only [setN_eq]
  rfl
theorem appK_eq (A id ver F : Nat) (c nc : List Value) (L : Nat) (σ : St) (k : St → R) :
    appK A id ver F c nc L σ k = k (((((σ.set A (.cells false ver F c)).set id (.cells true ver F (c ++ nc))).setFam F id).setHint A L).setHint id (L + nc.length)) := by
  unfold appK
  rw [lenV_eq, forceN_eq, Nat.zero_add]
  cases Nat.ble L 96
  · exact appFin_eq ..
  · show appL _ _ _ = _
    rw [appL_eq]
    exact appFin_eq ..
theorem appK_app {A id ver F : Nat} {c nc : List Value} {σ : St} : ((((σ.set A (.cells false ver F c)).set id (.cells true ver F (c ++ nc))).setFam F id).setHint A c.length).setHint id (c.length + nc.length) = appSt σ A id ver F c 0 c.length nc := by
  unfold appSt
  simp only [if_true, List.take_length, List.drop_zero, Nat.sub_zero]

/-! ## Taking at hand -/
theorem retI_eq (kd : IntKind) (n : Int) (k : XV → R) : retI kd n k = k (xvOf (.int kd n)) := by
  cases n with
  | ofNat n => exact retN_eq _ _ _
  | negSucc n =>
    show forceN n (fun n => k (.oth (.int kd (.negSucc n)))) = _
    rw [forceN_eq]; rfl
theorem take_eq (v : Value) (k : XV → R) : take v k = k (xvOf v) := by
  cases v with
  | int kd n => exact retI_eq kd n k
  | bool b => exact forceB_eq b k
  | slice a n c =>
    show forceN n (fun n => k (.oth (.slice a n c))) = _
    rw [forceN_eq]; rfl
  | _ => rfl
theorem xvOf_out (v : Value) : (xvOf v).out = v := by
  cases v with
  | int k n =>
    cases n with
    | ofNat n => simp [xvOf, XV.out, kindOf_codeOf]
    | negSucc n => rfl
  | _ => rfl
theorem takes_eq : ∀ (l : List Value) (k : List XV → R), takes l k = k (l.map xvOf)
  | [], k => rfl
  | v :: l, k => by
    show take v (fun v => takes l fun vs => k (v :: vs)) = _
    rw [take_eq, takes_eq l]; rfl

/-! ## Numbers -/
theorem wrap_small : ∀ (c n : Nat), n < limN c → (kindOf c).wrap (.ofNat n) = .ofNat n := by
  intro c n h
  match c with
  | 0 =>
    replace h : n < 9223372036854775808 := h
    simp [kindOf, IntKind.wrap, IntKind.bits, IntKind.signed]
    omega
  | 1 =>
    replace h : n < 256 := h
    simp [kindOf, IntKind.wrap, IntKind.bits, IntKind.signed]
    omega
  | 2 =>
    replace h : n < 2147483648 := h
    simp [kindOf, IntKind.wrap, IntKind.bits, IntKind.signed]
    omega
  | 3 =>
    replace h : n < 4294967296 := h
    simp [kindOf, IntKind.wrap, IntKind.bits, IntKind.signed]
    omega
  | 4 =>
    replace h : n < 18446744073709551616 := h
    simp [kindOf, IntKind.wrap, IntKind.bits, IntKind.signed]
    omega
  | 5 =>
    replace h : n < 65536 := h
    simp [kindOf, IntKind.wrap, IntKind.bits, IntKind.signed]
    omega
  | 6 =>
    replace h : n < 32768 := h
    simp [kindOf, IntKind.wrap, IntKind.bits, IntKind.signed]
    omega
  | c + 7 =>
    replace h : n < 128 := h
    simp [kindOf, IntKind.wrap, IntKind.bits, IntKind.signed]
    omega
theorem int_beq (a b : Int) : (a == b) = decide (a = b) := by rw [Bool.eq_iff_iff]; simp
theorem run_bin_int {P : Program} {op : BinOp} {t : TypeId} {k : IntKind} {a b : Int} {c : XV → R} {r : R} (h : binI op k a b c = r) (hr : r ≠ none) : ∃ v : XV, (∀ w, (binOp op t (.int k a) (.int k b)).run P w = .ok v.out w) ∧ flatV v.out = true ∧ c v = r := by
  have I : ∀ n, retI k n c = r → (∃ v : XV, v.out = .int k n ∧ c v = r) := fun n e => ⟨_, xvOf_out _, by rw [retI_eq] at e; exact e⟩
  have Bo : ∀ b, forceB b c = r → (∃ v : XV, v.out = .bool b ∧ c v = r) := fun b e => ⟨.bool b, rfl, by rw [forceB_eq] at e; exact e⟩
  unfold binI at h
  split at h
  · obtain ⟨v, e1, e2⟩ := I _ h; exact ⟨v, fun w => by rw [binOp_add, e1]; simp [Op.intArith], by rw [e1]; rfl, e2⟩
  · obtain ⟨v, e1, e2⟩ := I _ h; exact ⟨v, fun w => by rw [binOp_sub, e1]; simp [Op.intArith], by rw [e1]; rfl, e2⟩
  · obtain ⟨v, e1, e2⟩ := I _ h; exact ⟨v, fun w => by rw [binOp_mul, e1]; simp [Op.intArith], by rw [e1]; rfl, e2⟩
  · obtain ⟨v, e1, e2⟩ := Bo _ h; exact ⟨v, fun w => by rw [binOp_eql, e1, int_beq]; simp, by rw [e1]; rfl, e2⟩
  · obtain ⟨v, e1, e2⟩ := Bo _ h; exact ⟨v, fun w => by rw [binOp_neq, e1]; simp [bne, int_beq], by rw [e1]; rfl, e2⟩
  · obtain ⟨v, e1, e2⟩ := Bo _ h; exact ⟨v, fun w => by rw [binOp_lss, e1]; simp, by rw [e1]; rfl, e2⟩
  · obtain ⟨v, e1, e2⟩ := Bo _ h; exact ⟨v, fun w => by rw [binOp_leq, e1]; simp, by rw [e1]; rfl, e2⟩
  · obtain ⟨v, e1, e2⟩ := Bo _ h; exact ⟨v, fun w => by rw [binOp_gtr, e1]; simp, by rw [e1]; rfl, e2⟩
  · obtain ⟨v, e1, e2⟩ := Bo _ h; exact ⟨v, fun w => by rw [binOp_geq, e1]; simp, by rw [e1]; rfl, e2⟩
  · exact (hr h.symm).elim
theorem run_bin_val {P : Program} {op : BinOp} {t : TypeId} {a b : Value} {c : XV → R} {r : R} (h : binV op a b c = r) (hr : r ≠ none) : ∃ v : XV, (∀ w, (binOp op t a b).run P w = .ok v.out w) ∧ flatV v.out = true ∧ c v = r := by
  unfold binV at h
  split at h
  · split at h
    · rename_i e; subst e; exact run_bin_int h hr
    · exact (hr h.symm).elim
  · exact (hr h.symm).elim
theorem run_bin_nat {P : Program} {op : BinOp} {t : TypeId} {k m n : Nat} {slow : R} {c : XV → R} {r : R} (hs : slow = r → ∃ v : XV, (∀ w, (binOp op t (.int (kindOf k) (.ofNat m)) (.int (kindOf k) (.ofNat n))).run P w = .ok v.out w) ∧ flatV v.out = true ∧ c v = r)
    (h : binN op k m n slow c = r) (hr : r ≠ none) : ∃ v : XV, (∀ w, (binOp op t (.int (kindOf k) (.ofNat m)) (.int (kindOf k) (.ofNat n))).run P w = .ok v.out w) ∧ flatV v.out = true ∧ c v = r := by
  have Bo : ∀ b, forceB b c = r → (∃ v : XV, v.out = .bool b ∧ c v = r) := fun b e => ⟨.bool b, rfl, by rw [forceB_eq] at e; exact e⟩
  have hbeq : ∀ m n : Nat, Nat.beq m n = decide ((Int.ofNat m) = Int.ofNat n) := fun m n => by
    rw [Bool.eq_iff_iff, decide_eq_true_iff, Nat.beq_eq]; exact Int.ofNat_inj.symm
  have hblt : ∀ m n : Nat, Nat.blt m n = decide ((Int.ofNat m) < Int.ofNat n) := fun m n => by
    rw [Bool.eq_iff_iff, decide_eq_true_iff, Nat.blt_eq]; exact Int.ofNat_lt.symm
  have hble : ∀ m n : Nat, Nat.ble m n = decide ((Int.ofNat m) ≤ Int.ofNat n) := fun m n => by
    rw [Bool.eq_iff_iff]; simp [Nat.ble_eq]
  unfold binN at h
  split at h
  · cases hc : Nat.blt (Nat.add m n) (limN k) with
    | false => rw [hc] at h; exact hs h
    | true =>
      rw [hc] at h
      simp only [cond_true, retN_eq] at h
      refine ⟨_, fun w => ?_, rfl, h⟩
      have := wrap_small k (m + n) (by simpa [Nat.blt_eq] using hc)
      rw [binOp_add]
      simp only [Op.intArith, Sem.run_pure, XV.out]
      congr 2
  · cases hc : Nat.ble n m with
    | false => rw [hc] at h; exact hs h
    | true =>
      rw [hc] at h
      simp only [cond_true] at h
      cases hc2 : Nat.blt m (limN k) with
      | false => rw [hc2] at h; exact hs h
      | true =>
        rw [hc2] at h
        simp only [cond_true, retN_eq] at h
        refine ⟨_, fun w => ?_, rfl, h⟩
        have h1 : n ≤ m := by simpa [Nat.ble_eq] using hc
        have h2 : m < limN k := by simpa [Nat.blt_eq] using hc2
        have := wrap_small k (m - n) (by omega)
        rw [binOp_sub]
        simp only [Op.intArith, Sem.run_pure, XV.out]
        have e : (Int.ofNat m - Int.ofNat n : Int) = Int.ofNat (m - n) := by simp; omega
        rw [e, this]; rfl
  · cases hc : Nat.blt (Nat.mul m n) (limN k) with
    | false => rw [hc] at h; exact hs h
    | true =>
      rw [hc] at h
      simp only [cond_true, retN_eq] at h
      refine ⟨_, fun w => ?_, rfl, h⟩
      have := wrap_small k (m * n) (by simpa [Nat.blt_eq] using hc)
      rw [binOp_mul]
      simp only [Op.intArith, Sem.run_pure, XV.out]
      have e : (Int.ofNat m * Int.ofNat n : Int) = Int.ofNat (m * n) := by simp
      rw [e, this]; rfl
  · rw [hbeq] at h
    obtain ⟨v, e1, e2⟩ := Bo _ h; exact ⟨v, fun w => by rw [binOp_eql, e1, int_beq]; simp, by rw [e1]; rfl, e2⟩
  · have e : (Bool.casesOn (Nat.beq m n) true false : Bool) = !decide ((Int.ofNat m) = Int.ofNat n) := by rw [← hbeq]; cases Nat.beq m n <;> rfl
    rw [e] at h
    obtain ⟨v, e1, e2⟩ := Bo _ h; exact ⟨v, fun w => by rw [binOp_neq, e1]; simp [bne, int_beq], by rw [e1]; rfl, e2⟩
  · rw [hblt] at h
    obtain ⟨v, e1, e2⟩ := Bo _ h; exact ⟨v, fun w => by rw [binOp_lss, e1]; simp, by rw [e1]; rfl, e2⟩
  · rw [hble] at h
    obtain ⟨v, e1, e2⟩ := Bo _ h; exact ⟨v, fun w => by rw [binOp_leq, e1]; simp, by rw [e1]; rfl, e2⟩
  · rw [hblt] at h
    obtain ⟨v, e1, e2⟩ := Bo _ h; exact ⟨v, fun w => by rw [binOp_gtr, e1]; simp, by rw [e1]; rfl, e2⟩
  · rw [hble] at h
    obtain ⟨v, e1, e2⟩ := Bo _ h; exact ⟨v, fun w => by rw [binOp_geq, e1]; simp, by rw [e1]; rfl, e2⟩
  · exact hs h
end Go.Ev

namespace Go.Ev
open Go
set_option linter.unusedVariables false
set_option linter.unusedSimpArgs false

/-- Calls with what comes next. -/
def KF.ok (P : Program) (gl : List Nat) (call : KF) : Prop := ∀ (f : FuncId) (vs : List XV) (σ : St) (k : XV → St → R) (r : Value × St), call f vs σ k = some r → ∀ (g : Gam) (w : World) (args' : Array Value) (Q : Ending → World → Prop), Glob gl g → Rel g σ w → ARel g (vs.map XV.out).toArray args' →
  (∀ (v : XV) (σ' : St) (v' : Value) (w' : World) (g' : Gam), k v σ' = some r → VRel g' v.out v' → Rel g' σ' w' → Ext (fun A => σ.next ≤ A) g g' σ σ' w w' → Q (.returned v') w') → Calls P f args' w Q

section
variable {P : Program} {gl : List Nat} {W : List (Nat × Src)} {K : List Nat} {i n : Nat} {env : XEnv} {L : List XV}

/-- An operand's value, as resolved. -/
noncomputable def rhoX (W : List (Nat × Src)) (K : List Nat) (i : Nat) (env : XEnv) (L : List XV) : Operand → Value := fun x => match resolve W K i x with
  | some a => (a.get env L).out
  | none => undef
theorem rhoX_eq {x : Operand} {a : XArg} (h : resolve W K i x = some a) : rhoX W K i env L x = (a.get env L).out := by simp [rhoX, h]
theorem rhoX_const (v : Value) : rhoX W K i env L (.const v) = v := by
  rw [rhoX_eq (a := .val (xvOf v)) rfl]; exact xvOf_out v
theorem rhoX_global (b : Nat) : rhoX W K i env L (.global b) = .pointer (some ⟨b, 0, none⟩) := rhoX_eq (a := .val (.oth (.pointer (some ⟨b, 0, none⟩)))) rfl
theorem rhoX_func (f : FuncId) : rhoX W K i env L (.func f) = .func (.func f) #[] #[] := rhoX_eq (a := .val (.oth (.func (.func f) #[] #[]))) rfl

theorem rgen_cons (t t' : Nat) (a : XArg) (m : List (Nat × XArg)) : rgen ((t, a) :: m) env L (.tmp t') = if t = t' then (a.get env L).out else rgen m env L (.tmp t') := by
  show cond (Nat.beq t t') _ _ = _
  by_cases h : t = t'
  · subst h
    have : Nat.beq t t = true := by simp
    rw [this, if_pos rfl]; rfl
  · have : Nat.beq t t' = false := by
      rw [← Bool.not_eq_true, Nat.beq_eq]; exact h
    rw [this, if_neg h]; rfl
theorem resolveT_spec : ∀ (l : List Operand) (m : List (Nat × XArg)), resolveT W K i l = some m → ∀ x ∈ l, rgen m env L x = rhoX W K i env L x
  | [], m, h, x, hx => by cases hx
  | .tmp t :: l, m, h, x, hx => by
    simp only [resolveT] at h
    split at h
    · rename_i a r ha hr
      cases h
      cases x with
      | tmp t' =>
        rw [rgen_cons]
        split
        · rename_i e; subst e; exact (rhoX_eq ha).symm
        · rename_i e
          cases hx with
          | head => exact (e rfl).elim
          | tail _ hx => exact resolveT_spec l r hr _ hx
      | const v => exact (rhoX_const v).symm
      | global b => exact (rhoX_global b).symm
      | func f => exact (rhoX_func f).symm
    · cases h
  | .const v :: l, m, h, x, hx => by
    simp only [resolveT] at h
    cases hx with
    | head => exact (rhoX_const v).symm
    | tail _ hx => exact resolveT_spec l m h x hx
  | .global v :: l, m, h, x, hx => by
    simp only [resolveT] at h
    cases hx with
    | head => exact (rhoX_global v).symm
    | tail _ hx => exact resolveT_spec l m h x hx
  | .func v :: l, m, h, x, hx => by
    simp only [resolveT] at h
    cases hx with
    | head => exact (rhoX_func v).symm
    | tail _ hx => exact resolveT_spec l m h x hx

theorem argsK_eq : ∀ (l : List XArg) (k : List XV → R), argsK l env L k = k (l.map fun a => a.get env L)
  | [], k => rfl
  | a :: l, k => by
    show forceX (a.get env L) (fun v => argsK l env L fun vs => k (v :: vs)) = _
    rw [forceX_eq, argsK_eq l]; rfl
theorem resolveL_spec : ∀ (l : List Operand) (m : List XArg), resolveL W K i l = some m → (m.map fun a => a.get env L).map XV.out = l.map (rhoX W K i env L)
  | [], m, h => by simp only [resolveL] at h; cases h; rfl
  | x :: l, m, h => by
    simp only [resolveL] at h
    split at h
    · rename_i a r ha hr
      cases h
      have := resolveL_spec l r hr
      simp only [List.map_cons, this, rhoX_eq ha]
    · cases h

/-- What an instruction must meet. -/
def InsOk (P : Program) (gl : List Nat) (W : List (Nat × Src)) (K : List Nat) (i n : Nat) (o : Oper) (f : SK) : Prop :=
  ∀ env L base σ k r, f env L base σ k = some r → ∃ ρ, (∀ x ∈ o.op.operands, ρ x = rhoX W K i env L x) ∧ ∃ v σ', StepR P gl ρ (base + n) o σ v.out σ' ∧ k v σ' = some r

theorem InsOk.of {o : Oper} {f : SK} (h : ∀ env L base σ k r, f env L base σ k = some r → ∃ v σ', StepR P gl (rhoX W K i env L) (base + n) o σ v.out σ' ∧ k v σ' = some r) : InsOk P gl W K i n o f :=
  fun env L base σ k r e => ⟨_, fun _ _ => rfl, h env L base σ k r e⟩

/-- .. said of each world. -/
def InsW (P : Program) (gl : List Nat) (W : List (Nat × Src)) (K : List Nat) (i n : Nat) (o : Oper) (f : SK) : Prop :=
  ∀ (env : XEnv) (L : List XV) (base : Nat) (σ : St) (k : XV → St → R) (r : Value × St), f env L base σ k = some r → ∀ (g : Gam) (w : World) (a : Act) (Kc : Act → World → Prop) (Q : Exit → Act → World → Prop), Glob gl g → Rel g σ w → σ.get (base + n) = none → base + n < σ.next →
    (∀ x ∈ o.op.operands, VRel g (rhoX W K i env L x) (a.eval x)) →
    (∀ (v : XV) (σ' : St) (v' : Value) (w' : World) (g' : Gam), k v σ' = some r → VRel g' v.out v' → Rel g' σ' w' → Ext (fun A => A = base + n ∨ σ.next ≤ A) g g' σ σ' w w' → Kc (a.put o.dst v') w') → o.wp P a w Kc Q
theorem InsOk.toW {o : Oper} {f : SK} (h : InsOk P gl W K i n o f) : InsW P gl W K i n o f := by
  intro env L base σ k r e g w a Kc Q hg hr hid hlt hρ hk
  obtain ⟨ρ, hρe, v, σ', hst, hk2⟩ := h env L base σ k r e
  exact hst.wp hg hr hid hlt (fun x hx => by rw [hρe x hx]; exact hρ x hx) fun v' w' g' q1 q2 q3 => hk v σ' v' w' g' hk2 q1 q2 q3

theorem gen_ok {call : KF} (hc : call.ok P gl) {o : Oper} {ins : XIns} (h : compGen W K i n o = some ins) : InsW P gl W K i n o (xins P call ins) := by
  intro env L base σ k r e g w a Kc Q hg hr hid hlt hρ hk
  unfold compGen at h
  cases hm : resolveT W K i o.op.operands.toList with
  | none => rw [hm] at h; cases h
  | some m =>
    rw [hm] at h
    cases h
    have e : iGen P call o m n env L base σ k = some r := e
    unfold iGen at e
    rw [evalOpQ_eq] at e
    have hρ2 : ∀ x ∈ o.op.operands, VRel g (rgen m env L x) (a.eval x) := fun x hx => by rw [resolveT_spec _ m hm x (by simpa using hx)]; exact hρ x hx
    split at e
    · rename_i v σ' he
      rw [normK_eq, take_eq] at e
      have hst : StepR P gl (rgen m env L) (base + n) o σ v σ' := .inl he
      exact hst.wp hg hr hid hlt hρ2 fun v' w' g' q1 q2 q3 => hk (xvOf v) σ' v' w' g' e (by rw [xvOf_out]; exact q1) q2 q3
    · rename_i f args he
      rw [takes_eq] at e
      obtain ⟨args', e1, ha⟩ := evalOp_ok he hr hid hlt hρ2
      unfold Oper.wp
      rw [e1]
      have h2 : ((args.toList.map xvOf).map XV.out).toArray = args := by
        rw [List.map_map]
        have : (XV.out ∘ xvOf) = id := funext xvOf_out
        rw [this, List.map_id]
      refine hc _ _ _ _ _ e g w args' _ hg hr (by rw [h2]; exact ha) fun v σ' v' w' g' q1 q2 q3 q4 => ?_
      exact hk v σ' v' w' g' q1 q2 q3 (q4.mono fun A hA => .inr hA)
    · cases e

theorem mov_ok {x : Operand} {a : XArg} {o : Oper} (ho : o.op = .move x ∨ o.op = .assign x) (h : resolve W K i x = some a) : InsOk P gl W K i n o (iMov a) := by
  refine .of fun env L base σ k r e => ?_
  unfold iMov at e
  rw [forceX_eq] at e
  refine ⟨_, σ, .inl ?_, e⟩
  rcases ho with ho | ho <;> (unfold evalOp; rw [ho]; simp only [rhoX_eq h])

/-- An operation on two numbers, or values told of as such. -/
theorem bin_run {op : BinOp} {t yt : TypeId} {x y : Operand} {o : Oper} (ho : o.op = .binOp op t x y yt) {k m : IntKind} {a b : Int} {v : Value} {ρ : Operand → Value} {id : Nat} {σ : St} (hx : ρ x = .int k a) (hy : ρ y = .int m b)
    (h : ∀ w, (binOp op t (.int k a) (.int m b)).run P w = .ok v w) (hf : ∀ g : Gam, VRel g v v) : StepR P gl ρ id o σ v σ := by
  refine .inr (.inr (.inl ⟨rfl, fun g ρ' w hρ => ?_⟩))
  rw [ho] at hρ
  have h1 := hρ x (by simp [Op.operands])
  have h2 := hρ y (by simp [Op.operands])
  rw [hx] at h1; rw [hy] at h2
  generalize hX : ρ' x = X at h1
  generalize hY : ρ' y = Y at h2
  cases h1; cases h2
  refine ⟨v, ?_, hf g⟩
  have hq : (eqGuard op t x y (.int k a) (.int m b)).run P w = .ok () w := by cases op <;> rfl
  simp only [execOp, ho, hX, hY, Sem.run_bind, hq, Result.andThen_ok, h w, Sem.run_pure]

theorem binV_ok {op : BinOp} {t yt : TypeId} {x y : Operand} {o : Oper} (ho : o.op = .binOp op t x y yt) {va vb : Value} {c : XV → R} {r : Value × St} {ρ : Operand → Value} {id : Nat} {σ : St} (hx : ρ x = va) (hy : ρ y = vb)
    (h : binV op va vb c = some r) : ∃ v : XV, StepR P gl ρ id o σ v.out σ ∧ c v = some r := by
  have h0 := h
  unfold binV at h
  split at h
  · obtain ⟨v, h1, h2, h3⟩ := run_bin_val (P := P) (t := t) h0 (by simp)
    exact ⟨v, bin_run ho hx hy h1 (fun g => flatV_rel h2), h3⟩
  · cases h
theorem bin_ok {op : BinOp} {t yt : TypeId} {x y : Operand} {o : Oper} (ho : o.op = .binOp op t x y yt) {a b : XArg} (ha : resolve W K i x = some a) (hb : resolve W K i y = some b) : InsOk P gl W K i n o (iBin op a b) := by
  refine .of fun env L base σ k r e => ?_
  have hx : rhoX W K i env L x = (a.get env L).out := rhoX_eq ha
  have hy : rhoX W K i env L y = (b.get env L).out := rhoX_eq hb
  unfold iBin at e
  generalize a.get env L = xa at e hx
  generalize b.get env L = xb at e hy
  cases xa with
  | nat ka m =>
    cases xb with
    | nat kb n' =>
      simp only at e
      cases hk : Nat.beq ka kb with
      | false => rw [hk] at e; cases e
      | true =>
        rw [hk] at e
        simp only [cond_true] at e
        have hk : ka = kb := by rw [Nat.beq_eq] at hk; exact hk
        subst hk
        obtain ⟨v, h1, h2, h3⟩ := run_bin_nat (P := P) (t := t) (fun hs => run_bin_val hs (by simp)) e (by simp)
        exact ⟨v, σ, bin_run ho hx hy h1 (fun g => flatV_rel h2), h3⟩
    | bool _ => cases e
    | nxt _ _ => cases e
    | oth w =>
      obtain ⟨v, h1, h2⟩ := binV_ok (P := P) (gl := gl) (id := base + n) (σ := σ) ho hx hy e
      exact ⟨v, σ, h1, h2⟩
  | bool _ => cases e
  | nxt _ _ => cases e
  | oth w =>
    obtain ⟨v, h1, h2⟩ := binV_ok (P := P) (gl := gl) (id := base + n) (σ := σ) ho hx hy e
    exact ⟨v, σ, h1, h2⟩

/-- An operation that tells of a flat value, and looks at one operand. -/
theorem one_run {x : Operand} {o : Oper} {vx v : Value} {ρ : Operand → Value} {id : Nat} {σ : St} (hm : x ∈ o.op.operands) (hx : ρ x = vx) (hfx : flatV vx = true) (hf : flatV v = true)
    (h : ∀ (ρ' : Operand → Value) w, ρ' x = vx → (execOp ρ' o).run P w = .ok (.value v) w) : StepR P gl ρ id o σ v σ := by
  refine .inr (.inr (.inl ⟨rfl, fun g ρ' w hρ => ⟨v, h ρ' w ?_, flatV_rel hf⟩⟩))
  have h1 := hρ x hm
  rw [hx] at h1
  exact flatV_eq hfx h1
theorem two_run {x y : Operand} {o : Oper} {vx vy v : Value} {ρ : Operand → Value} {id : Nat} {σ : St} (hm : x ∈ o.op.operands) (hm2 : y ∈ o.op.operands) (hx : ρ x = vx) (hy : ρ y = vy) (hfx : flatV vx = true) (hfy : flatV vy = true) (hf : flatV v = true)
    (h : ∀ (ρ' : Operand → Value) w, ρ' x = vx → ρ' y = vy → (execOp ρ' o).run P w = .ok (.value v) w) : StepR P gl ρ id o σ v σ := by
  refine .inr (.inr (.inl ⟨rfl, fun g ρ' w hρ => ⟨v, h ρ' w ?_ ?_, flatV_rel hf⟩⟩))
  · have h1 := hρ x hm
    rw [hx] at h1
    exact flatV_eq hfx h1
  · have h1 := hρ y hm2
    rw [hy] at h1
    exact flatV_eq hfy h1

theorem not_ok {t : TypeId} {x : Operand} {o : Oper} (ho : o.op = .unOp .not t x) {a : XArg} (ha : resolve W K i x = some a) : InsOk P gl W K i n o (iNot a) := by
  refine .of fun env L base σ k r e => ?_
  have hx : rhoX W K i env L x = (a.get env L).out := rhoX_eq ha
  unfold iNot at e
  generalize a.get env L = xa at e hx
  cases xa with
  | nat _ _ => cases e
  | nxt _ _ => cases e
  | oth _ => cases e
  | bool b =>
    refine ⟨.bool (!b), σ, one_run (by rw [ho]; simp [Op.operands]) hx rfl rfl fun ρ' w h => ?_, by cases b <;> exact e⟩
    simp only [execOp, ho, h, XV.out]
    simp [Op.unary]
theorem ext_ok {x : Operand} {ix : Nat} {o : Oper} (ho : o.op = .extract x ix) {a : XArg} (ha : resolve W K i x = some a) : InsOk P gl W K i n o (iExt ix a) := by
  refine .of fun env L base σ k r e => ?_
  have hx : rhoX W K i env L x = (a.get env L).out := rhoX_eq ha
  have key : ∀ v : XV, opExtract ix (rhoX W K i env L x) = some v.out → StepR P gl (rhoX W K i env L) (base + n) o σ v.out σ := fun v hv => by
    left; unfold evalOp; rw [ho]; simp only [hv, valOf]
  unfold iExt at e
  generalize a.get env L = xa at e hx
  split at e
  · rename_i p c
    match ix with
    | 0 => exact ⟨.bool true, σ, key _ (by rw [hx]; rfl), e⟩
    | 1 => exact ⟨.nat 0 p, σ, key _ (by rw [hx]; rfl), e⟩
    | 2 => exact ⟨.nat 2 c, σ, key _ (by rw [hx]; rfl), e⟩
    | _ + 3 => cases e
  · rename_i vs
    split at e
    · rename_i v hv
      rw [take_eq] at e
      refine ⟨_, σ, key _ ?_, e⟩
      rw [hx, xvOf_out]; exact hv
    · cases e
  · cases e
theorem pick_ok {c x y : Operand} {o : Oper} (ho : o.op = .pick c x y) {ac ax ay : XArg} (hc : resolve W K i c = some ac) (hx : resolve W K i x = some ax) (hy : resolve W K i y = some ay) : InsOk P gl W K i n o (iPick ac ax ay) := by
  refine .of fun env L base σ k r e => ?_
  have h1 : rhoX W K i env L c = (ac.get env L).out := rhoX_eq hc
  have h2 : rhoX W K i env L x = (ax.get env L).out := rhoX_eq hx
  have h3 : rhoX W K i env L y = (ay.get env L).out := rhoX_eq hy
  unfold iPick at e
  generalize ac.get env L = xc at e h1
  cases xc with
  | nat _ _ => cases e
  | nxt _ _ => cases e
  | oth _ => cases e
  | bool b =>
    cases b with
    | true =>
      simp only [forceX_eq] at e
      refine ⟨_, σ, .inl ?_, e⟩
      unfold evalOp; rw [ho]; simp only [h1, h2, XV.out]; rfl
    | false =>
      simp only [forceX_eq] at e
      refine ⟨_, σ, .inl ?_, e⟩
      unfold evalOp; rw [ho]; simp only [h1, h3, XV.out]; rfl
theorem nil_ok {x : Operand} {o : Oper} (ho : o.op = .nilCheck x) {a : XArg} (ha : resolve W K i x = some a) : InsOk P gl W K i n o (iNil a) := by
  refine .of fun env L base σ k r e => ?_
  have hx : rhoX W K i env L x = (a.get env L).out := rhoX_eq ha
  unfold iNil at e
  generalize a.get env L = xa at e hx
  split at e
  · exact ⟨_, σ, .inl (by unfold evalOp; rw [ho]; simp only [hx, XV.out]), e⟩
  · exact ⟨_, σ, .inl (by unfold evalOp; rw [ho]; simp only [hx, XV.out]), e⟩
  · exact ⟨_, σ, .inl (by unfold evalOp; rw [ho]; simp only [hx, XV.out]), e⟩
  · cases e
theorem faddr_ok {s : TypeId} {x : Operand} {f off : Nat} {o : Oper} (ho : o.op = .fieldAddr s x f) (hf : fieldOf P s f = some off) {a : XArg} (ha : resolve W K i x = some a) : InsOk P gl W K i n o (iFaddr off a) := by
  refine .of fun env L base σ k r e => ?_
  have hx : rhoX W K i env L x = (a.get env L).out := rhoX_eq ha
  unfold iFaddr at e
  generalize a.get env L = xa at e hx
  split at e
  · rw [forceN_eq] at e
    exact ⟨_, σ, .inl (by unfold evalOp; rw [ho]; simp only [hx, XV.out, opFieldAddr, hf, valOf]; rfl), e⟩
  · cases e
theorem iaddr_ok {t e' : TypeId} {x y : Operand} {m : Nat} {len : Option Nat} {o : Oper} (ho : o.op = .indexAddr t x y) (ht : P.underlying t = some (match len with | none => .slice e' | some l => .array l e')) (hs : sz? P e' = some m) {a b : XArg}
    (ha : resolve W K i x = some a) (hb : resolve W K i y = some b) : InsOk P gl W K i n o (iIaddr m len a b) := by
  refine .of fun env L base σ k r e => ?_
  have hx : rhoX W K i env L x = (a.get env L).out := rhoX_eq ha
  have hy : rhoX W K i env L y = (b.get env L).out := rhoX_eq hb
  unfold iIaddr at e
  generalize a.get env L = xa at e hx
  generalize b.get env L = xb at e hy
  split at e
  · rename_i kk ii
    split at e
    · rename_i A off l cap
      cases hlt : Nat.blt ii l with
      | false => rw [hlt] at e; cases e
      | true =>
        rw [hlt] at e
        simp only [cond_true, forceN_eq] at e
        have : ii < l := by rw [Nat.blt_eq] at hlt; exact hlt
        exact ⟨_, σ, .inl (by unfold evalOp; rw [ho]; simp only [hx, hy, XV.out, opIndexAddr, ht, hs, if_pos this, valOf]; rfl), e⟩
    · rename_i l A off
      cases hlt : Nat.blt ii l with
      | false => rw [hlt] at e; cases e
      | true =>
        rw [hlt] at e
        simp only [cond_true, forceN_eq] at e
        have : ii < l := by rw [Nat.blt_eq] at hlt; exact hlt
        exact ⟨_, σ, .inl (by unfold evalOp; rw [ho]; simp only [hx, hy, XV.out, opIndexAddr, ht, hs, if_pos this, valOf]; rfl), e⟩
    · cases e
  · cases e

theorem nthO_eq (c : List Value) (o : Nat) : nthO c o = c[o]? := by
  induction c generalizing o with
  | nil => rfl
  | cons v c ih => cases o with
    | zero => rfl
    | succ o => exact ih o
theorem cells_of {σ : St} {A : Nat} {own : Bool} {ver fam : Nat} {c : List Value} (h : blk A σ = some (.cells own ver fam c)) (hr : (own || σ.rd own ver fam) = true) : σ.cells? A = some c := by
  rw [blk_eq] at h
  unfold St.cells?
  rw [h]
  have : σ.rd own ver fam = true := by
    cases own with
    | true => simp [St.rd]
    | false => simpa using hr
  simp only [this, if_true]
theorem load1_ev {t : TypeId} {x : Operand} {o : Oper} (ho : o.op = .load t x) (hl : ldInfo P t = some none) {a : XArg} (ha : resolve W K i x = some a) : ∀ (env : XEnv) (L : List XV) (base : Nat) (σ : St) (k : XV → St → R) (r : Value × St), (iLoad1 a) env L base σ k = some r → ∃ v : XV, evalOp P (rhoX W K i env L) (base + n) o σ = some (.val v.out σ) ∧ k v σ = some r := by
  intro env L base σ k r e
  have hx : rhoX W K i env L x = (a.get env L).out := rhoX_eq ha
  unfold iLoad1 at e
  generalize a.get env L = xa at e hx
  split at e
  · rename_i A off
    split at e
    · rename_i own ver fam c hA
      cases hr : (own || σ.rd own ver fam) with
      | false => rw [hr] at e; cases e
      | true =>
        rw [hr] at e
        simp only [cond_true] at e
        split at e
        · rename_i v hv
          rw [take_eq] at e
          rw [nthO_eq] at hv
          refine ⟨_, ?_, e⟩
          have hlt : off < c.length := (List.getElem?_eq_some_iff.1 hv).1
          have hread : σ.read? A off 1 = some [v] := by
            unfold St.read?
            rw [cells_of hA hr]
            simp only [Option.bind_some, sub?]
            rw [if_pos (by omega)]
            have : c.drop off = v :: c.drop (off + 1) := by
              rw [List.drop_eq_getElem_cons hlt]; congr 1; exact (List.getElem?_eq_some_iff.1 hv).2
            rw [this]; rfl
          rw [xvOf_out]
          unfold evalOp; rw [ho]; simp only [hx, XV.out, opLoad, hl, hread, valOf]
        · cases e
    · cases e
  · cases e
theorem load1_ok {t : TypeId} {x : Operand} {o : Oper} (ho : o.op = .load t x) (hl : ldInfo P t = some none) {a : XArg} (ha : resolve W K i x = some a) : InsOk P gl W K i n o (iLoad1 a) :=
  .of fun env L base σ k r e => let ⟨v, h1, h2⟩ := load1_ev ho hl ha env L base σ k r e; ⟨v, σ, .inl h1, h2⟩
theorem loadN_ev {t : TypeId} {x : Operand} {m : Nat} {o : Oper} (ho : o.op = .load t x) (hl : ldInfo P t = some (some m)) {a : XArg} (ha : resolve W K i x = some a) : ∀ (env : XEnv) (L : List XV) (base : Nat) (σ : St) (k : XV → St → R) (r : Value × St), (iLoadN m a) env L base σ k = some r → ∃ v : XV, evalOp P (rhoX W K i env L) (base + n) o σ = some (.val v.out σ) ∧ k v σ = some r := by
  intro env L base σ k r e
  have hx : rhoX W K i env L x = (a.get env L).out := rhoX_eq ha
  unfold iLoadN at e
  generalize a.get env L = xa at e hx
  split at e
  · rename_i A off
    split at e
    · rename_i own ver fam c hA
      cases hr : (own || σ.rd own ver fam) with
      | false => rw [hr] at e; cases e
      | true =>
        rw [hr] at e
        simp only [cond_true] at e
        split at e
        · rename_i l hv
          refine ⟨_, ?_, e⟩
          have hread : σ.read? A off m = some l := by
            unfold St.read?
            rw [cells_of hA hr]
            rw [subR_eq] at hv
            exact hv
          unfold evalOp; rw [ho]; simp only [hx, XV.out, opLoad, hl, hread, valOf]
        · cases e
    · cases e
  · cases e
theorem loadN_ok {t : TypeId} {x : Operand} {m : Nat} {o : Oper} (ho : o.op = .load t x) (hl : ldInfo P t = some (some m)) {a : XArg} (ha : resolve W K i x = some a) : InsOk P gl W K i n o (iLoadN m a) :=
  .of fun env L base σ k r e => let ⟨v, h1, h2⟩ := loadN_ev ho hl ha env L base σ k r e; ⟨v, σ, .inl h1, h2⟩
theorem store_ok {t : TypeId} {x y : Operand} {m : Nat} {o : Oper} (ho : o.op = .store t x y) (hs : sz? P t = some m) {a b : XArg} (ha : resolve W K i x = some a) (hb : resolve W K i y = some b) : InsOk P gl W K i n o (iStore m a b) := by
  refine .of fun env L base σ k r e => ?_
  have hx : rhoX W K i env L x = (a.get env L).out := rhoX_eq ha
  have hy : rhoX W K i env L y = (b.get env L).out := rhoX_eq hb
  unfold iStore at e
  generalize a.get env L = xa at e hx
  generalize b.get env L = xb at e hy
  split at e
  · rename_i A off
    rw [forceX_eq] at e
    cases hc : Nat.beq xb.out.cells.size m with
    | false => rw [hc] at e; cases e
    | true =>
      rw [hc] at e
      have hc : xb.out.cells.size = m := by rw [Nat.beq_eq] at hc; exact hc
      simp only [cond_true] at e
      split at e
      · rename_i ver F c hA
        cases hl : (xb.out.cells.toList.all (·.oneCell')) with
        | false => rw [hl] at e; cases e
        | true =>
          rw [hl] at e
          simp only [cond_true] at e
          obtain ⟨hle, e⟩ := layK_eq _ _ _ _ _ e (by intro q; cases q)
          simp only [forceN_eq, setBlk_eq] at e
          rw [blk_eq] at hA
          have hl2 : (decide (off + m ≤ c.length) && xb.out.cells.toList.all (·.oneCell')) = true := by
            have : xb.out.cells.toList.length = m := by simpa using hc
            rw [this] at hle
            simp only [Bool.and_eq_true, decide_eq_true_eq]; exact ⟨hle, hl⟩
          refine ⟨.oth undef, _, .inl ?_, e⟩
          have hx' : rhoX W K i env L x = .pointer (some ⟨A, off, none⟩) := hx
          unfold evalOp; rw [ho]; simp only [hx', hy, opStore, hs, if_pos hc, hA, hl2, if_true]; rfl
      · cases e
  · cases e
theorem callF_eval {c : Call} {f : FuncId} {o : Oper} {σ : St} {id : Nat} {env : XEnv} {L : List XV} (ho : o.op = .call c) (hf : c.callee = .value (.func f)) (hb : hasBody P f = true) : evalOp P (rhoX W K i env L) id o σ = some (.enter f (c.args.toList.map (rhoX W K i env L)).toArray) := by
  unfold evalOp
  rw [ho]
  simp only [hf, rhoX_func, opInvoke, opCall]
  unfold hasBody at hb
  split at hb
  · rename_i fn hfn
    simp only [Bool.and_eq_true, Bool.not_eq_true'] at hb
    obtain ⟨b1, b2⟩ := hb
    rw [hfn]
    simp only [b2]
    have b3 : fn.body.isNone = false := by cases hh : fn.body with | none => rw [hh] at b1; cases b1 | some _ => rfl
    rw [b3]
    simp
    rw [← Array.toList_map, Array.toArray_toList]
  · cases hb
theorem callF_ok {call : KF} (hc : call.ok P gl) {c : Call} {f : FuncId} {o : Oper} (ho : o.op = .call c) (hf : c.callee = .value (.func f)) (hb : hasBody P f = true) {l : List XArg} (hl : resolveL W K i c.args.toList = some l) : InsW P gl W K i n o (iCall call f l) := by
  intro env L base σ k r e g w a Kc Q hg hr hid hlt hρ hk
  unfold iCall at e
  rw [argsK_eq] at e
  have he : evalOp P (rhoX W K i env L) (base + n) o σ = some (.enter f ((l.map fun a => a.get env L).map XV.out).toArray) := by
    rw [resolveL_spec _ _ hl]
    exact callF_eval ho hf hb
  obtain ⟨args', e1, ha⟩ := evalOp_ok he hr hid hlt hρ
  unfold Oper.wp
  rw [e1]
  refine hc _ _ _ _ _ e g w args' _ hg hr ha fun v σ' v' w' g' q1 q2 q3 q4 => ?_
  exact hk v σ' v' w' g' q1 q2 q3 (q4.mono fun A hA => .inr hA)
end
end Go.Ev
