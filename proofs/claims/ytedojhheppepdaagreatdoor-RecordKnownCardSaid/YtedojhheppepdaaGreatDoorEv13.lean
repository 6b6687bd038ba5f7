/-
  The evaluator of code, over any program: what an operation that makes a block does in any world, and what one that reads does. Made for regions that draw their order. No condition.
-/
import Derived.Test.YtedojhheppepdaaGreatDoorEv12
namespace Go.Ev
open Go
set_option linter.unusedVariables false
set_option linter.unusedSimpArgs false

/-- A new block's abstract object, and the world's own. -/
def NewSays (g : Gam) (n : Nat) : AObj → Obj → Prop
  | .cells own ver fam c, ob => own = true ∧ ∃ cs el fr, ob = .cells cs el fr ∧ cs.size = n ∧ (∀ i (h : i < c.length), ∃ v', cs[i]? = some v' ∧ VRel g c[i] v') ∧ ∀ i, i < n → ¬ (fr.1 ≤ i ∧ i < fr.2)
  | .iter s pos, ob => ob = .stringIter s pos
  | .map es clock, ob => ∃ es', ob = .map es' clock ∧ MRel g es es'
theorem NewSays.mono {g g' : Gam} (hg : Gam.le g g') {n : Nat} {ao : AObj} {ob : Obj} (h : NewSays g n ao ob) : NewSays g' n ao ob := by
  cases ao with
  | cells own ver fam c =>
    obtain ⟨h1, cs, el, fr, h2, h3, h4, h5⟩ := h
    exact ⟨h1, cs, el, fr, h2, h3, fun i hi => let ⟨v', a, b⟩ := h4 i hi; ⟨v', a, b.mono hg⟩, h5⟩
  | iter s pos => exact h
  | map es clock => obtain ⟨es', h1, h2⟩ := h; exact ⟨es', h1, h2.mono hg⟩
theorem NewSays.says {g : Gam} {n b : Nat} {ao : AObj} {ob : Obj} (h : NewSays g n ao ob) (σ : St) {w : World} (hb : w.heap[b]? = some ob) : OSays g σ w ⟨b, 0, n⟩ ao := by
  cases ao with
  | cells own ver fam c =>
    obtain ⟨h1, cs, el, fr, rfl, h3, h4, h5⟩ := h
    exact ⟨cs, el, fr, hb, h3, fun _ i hi => by simpa using h4 i hi, fun _ => h5⟩
  | iter s pos => subst h; exact ⟨rfl, hb⟩
  | map es clock => obtain ⟨es', rfl, h2⟩ := h; exact ⟨es', hb, h2⟩

/-- What an operation that makes one block does. -/
def AllocOk (P : Program) (ρ : Operand → Value) (o : Oper) (id : Nat) (v : Value) (ao : AObj) : Prop :=
  (∀ σ, evalOp P ρ id o σ = some (.val v (σ.set id ao))) ∧ (∀ own ver F c, ao = .cells own ver F c → F = id) ∧
  ∀ (g : Gam) (ρ' : Operand → Value) (w : World), (∀ x ∈ o.op.operands, VRel g (ρ x) (ρ' x)) → ∃ (ob : Obj) (n : Nat) (v' : Value) (w1 : World), w1.heap = w.heap ∧ w1.os = w.os ∧ w1.output = w.output ∧ w1.tape = w.tape ∧
    (execOp ρ' o).run P w = .ok (.value v') (newW w1 ob) ∧ (∀ g' : Gam, Gam.le g g' → g' id = some ⟨w.heap.size, 0, n⟩ → VRel g' v v') ∧ NewSays g n ao ob

theorem newSays_cells {g : Gam} {id : Nat} {cs cs' : Array Value} {el : TypeId} (h : ARel g cs cs') : NewSays g cs'.size (.cells true 0 id cs.toList) (.cells cs' el) := by
  refine ⟨rfl, cs', el, (0, 0), rfl, rfl, fun i hi => ?_, fun i _ => by simp⟩
  have h1 : i < cs.size := by simpa using hi
  have h2 : i < cs'.size := by rw [← h.1]; exact h1
  exact ⟨cs'[i], by simp [h2], by simpa using h.2 i h1 h2⟩

theorem ptrTo_rel {g : Gam} {id b n : Nat} (h : g id = some ⟨b, 0, n⟩) : VRel g (ptrTo id) (.pointer (some ⟨b, 0, none⟩)) := by
  have := VRel.ptr id 0 _ h; simpa [ptrTo] using this

theorem evalFlat_flat {P : Program} {ρ : Operand → Value} {o : Oper} {σ : St} {r : ARes} (h : evalFlat P ρ o σ = some r) (x : Operand) (hx : x ∈ o.op.operands) : flatV (ρ x) = true := by
  unfold evalFlat at h
  split at h
  · rename_i hc
    simp only [Bool.and_eq_true, flatOps, List.all_eq_true] at hc
    exact hc.1 x (by simpa using hx)
  · cases h
theorem evalOp_alloc {P : Program} {ρ : Operand → Value} {id : Nat} {o : Oper} {σ : St} {r : ARes} (hcl : clsOf P o.op = .alloc) (h : evalOp P ρ id o σ = some r) : ∃ v ao, r = .val v (σ.set id ao) ∧ AllocOk P ρ o id v ao := by
  cases ho : o.op with
  | alloc elem =>
    unfold evalOp at h; rw [ho] at h
    simp only at h
    split at h
    · rename_i z hz
      cases h
      obtain ⟨z1, z2⟩ := zero?_spec hz
      refine ⟨_, _, rfl, fun σ' => by unfold evalOp; rw [ho]; simp only [hz]; rfl, fun _ _ _ _ e => by cases e; rfl, fun g ρ' w hρ => ?_⟩
      exact ⟨.cells z.cells elem, z.cells.size, .pointer (some ⟨w.heap.size, 0, none⟩), w, rfl, rfl, rfl, rfl, by simp [execOp, ho, Instr.alloc, rZ w z1, newVar, newRow_run], fun g' _ hg => ptrTo_rel hg, newSays_cells (ARel.refl_flat z2)⟩
    · cases h
  | box elem x =>
    unfold evalOp at h; rw [ho] at h
    cases h
    refine ⟨_, _, rfl, fun σ' => by unfold evalOp; rw [ho]; rfl, fun _ _ _ _ e => by cases e; rfl, fun g ρ' w hρ => ?_⟩
    rw [ho] at hρ
    exact ⟨.cells (ρ' x).cells elem, (ρ' x).cells.size, .pointer (some ⟨w.heap.size, 0, none⟩), w, rfl, rfl, rfl, rfl, by simp [execOp, ho, Instr.box, newVar, newRow_run], fun g' _ hg => ptrTo_rel hg, newSays_cells (hρ x (by simp [Op.operands])).cells⟩
  | buildSlice t len parts =>
    unfold evalOp at h; rw [ho] at h
    have h0 := h
    simp only [opBuildSlice] at h
    split at h
    · rename_i elem hu
      split at h
      · rename_i n hn
        split at h
        · rename_i hle
          split at h
          · rename_i z hz
            split at h
            · rename_i cells hf
              split at h
              · rename_i hcs
                cases h
                refine ⟨_, _, rfl, fun σ' => ?_, fun _ _ _ _ e => by cases e; rfl, fun g ρ' w hρ => ?_⟩
                · unfold evalOp; rw [ho]; simp only [opBuildSlice, hu, hn, if_pos hle, hz, hf, if_pos hcs]; rfl
                · rw [ho] at hρ
                  have hzr : ARel g (zrow z (len * n)) (zrow z (len * n)) := by
                    split at hz
                    · cases hz; exact zrow_rel ⟨rfl, fun i h => by simp at h⟩ _ (.inr (by assumption))
                    · rename_i hne
                      obtain ⟨v, h1, h2, h3, h4⟩ := zcells?_spec hz
                      exact zrow_rel (h4 g) _ (.inl (by rw [h3]; intro e; subst e; simp at hne))
                  obtain ⟨r', f', hr'⟩ := fill_ok (parts.map fun (p : Nat × Operand) => (p.1, ρ p.2)).toList (parts.map fun (p : Nat × Operand) => (p.1, ρ' p.2)).toList _ _ cells hf hzr (by simp) (fun i h1 h2 => by
                    have hi : i < parts.size := by simpa using h1
                    simp only [Array.toList_map, List.getElem_map]
                    refine ⟨trivial, hρ _ ?_⟩
                    simp only [Op.operands, List.mem_toArray, List.mem_map]
                    exact ⟨parts[i], by simp, by simp⟩)
                  refine ⟨.cells r' elem, r'.size, .slice (some ⟨w.heap.size, 0, none⟩) len len, w, rfl, rfl, rfl, rfl, ?_, fun g' hg hg2 => sliceTo_rel hg2 (Nat.le_refl _) (by rw [← hr'.1, hcs]; exact Nat.le_refl _), newSays_cells hr'⟩
                  have hgt : ¬ len * n > 2 ^ 24 := by omega
                  have f'' : Instr.fill (fun i => some (i * n, n)) (Array.map (fun x => z[x % z.size]!) (Array.range (len * n))) (parts.map fun (p : Nat × Operand) => (p.1, ρ' p.2)).toList = some r' := f'
                  simp only [execOp, ho]
                  by_cases e0 : len * n = 0
                  · rw [if_pos e0] at hz
                    cases hz
                    simp only [Instr.buildSlice, Sem.run_bind, rU w hu, Result.andThen_ok, rS w hn, if_neg hgt, if_pos e0, Sem.run_pure, f'', newRow_run]
                  · rw [if_neg e0] at hz
                    obtain ⟨v, h1, h2, h3, h4⟩ := zcells?_spec hz
                    simp only [Instr.buildSlice, Sem.run_bind, rU w hu, Result.andThen_ok, rS w hn, if_neg hgt, if_neg e0, rZ w h1, h2, Sem.run_pure, f'', newRow_run]
              · cases h
            · cases h
          · cases h
        · cases h
      · cases h
    · cases h
  | makeSlice t l c =>
    unfold evalOp at h; rw [ho] at h
    simp only [opMakeSlice] at h
    split at h
    · rename_i elem k n k2 m hu hl hc
      split at h
      · rename_i i hi
        split at h
        · rename_i hcc
          split at h
          · rename_i z hz
            cases h
            refine ⟨_, _, rfl, fun σ' => ?_, fun _ _ _ _ e => by cases e; rfl, fun g ρ' w hρ => ?_⟩
            · unfold evalOp; rw [ho]; simp only [opMakeSlice, hl, hc, hu, hi, if_pos hcc, hz]; rfl
            · rw [ho] at hρ
              have hl' := hρ l (by simp [Op.operands])
              have hc' := hρ c (by simp [Op.operands])
              rw [hl] at hl'; rw [hc] at hc'
              obtain ⟨y1, hy1⟩ : ∃ y, y = ρ' l := ⟨_, rfl⟩
              obtain ⟨y2, hy2⟩ : ∃ y, y = ρ' c := ⟨_, rfl⟩
              rw [← hy1] at hl'; rw [← hy2] at hc'
              cases hl'; cases hc'
              simp only [Bool.and_eq_true, decide_eq_true_eq] at hcc
              obtain ⟨⟨c1, c2⟩, c3⟩ := hcc
              have hs : sz? P elem = some i.size := by simp [sz?, hi]
              have hzr : ARel g (zrow z (m * i.size)) (zrow z (m * i.size)) := by
                split at hz
                · cases hz; exact zrow_rel ⟨rfl, fun i h => by simp at h⟩ _ (.inr (by assumption))
                · rename_i hne
                  obtain ⟨v, h1, h2, h3, h4⟩ := zcells?_spec hz
                  exact zrow_rel (h4 g) _ (.inl (by rw [h3]; intro e; rw [e] at hne; simp at hne))
              have hsz : (zrow z (m * i.size)).size = m * i.size := by simp [zrow]
              refine ⟨.cells (zrow z (m * i.size)) elem, (zrow z (m * i.size)).size, .slice (some ⟨w.heap.size, 0, none⟩) n m, w, rfl, rfl, rfl, rfl, ?_, fun g' hg hg2 => sliceTo_rel hg2 c1 (by rw [hsz]; exact Nat.le_refl _), newSays_cells hzr⟩
              have w1 := wrap_id c2
              have w2 := wrap_id (n := n) (by omega)
              have t1 : ¬ ((m : Int) < 0) := by omega
              have t2 : ¬ ((i.bytes : Int) * (m : Int) > 2 ^ 48) := by rw [← Int.natCast_mul]; omega
              have t3 : ¬ ((n : Int) > (m : Int)) := by omega
              have t4 : ¬ ((n : Int) < 0) := by omega
              simp only [execOp, ho, ← hy1, ← hy2, Int.ofNat_eq_natCast]
              simp only [Instr.makeSlice, Sem.run_bind, rU w hu, Result.andThen_ok, asInt, asIntOf, Sem.run_pure, rT w hi, w1, w2, rS w hs, run_askRoom]
              simp only [t1, t2, t3, t4, decide_false, Bool.or_self, Bool.or_false, Bool.false_eq_true, if_false, Sem.run_pure, Result.andThen_ok, Int.toNat_natCast, Sem.run_bind, run_askRoom, rS w hs]
              have e1' : (newRow elem ((Array.range (m * i.size)).map (z[· % z.size]!))).run P w = .ok ⟨w.heap.size, 0, none⟩ (newW w (.cells (zrow z (m * i.size)) elem)) := newRow_run w elem _
              by_cases e0 : m * i.size = 0
              · rw [if_pos e0] at hz
                cases hz
                simp only [if_pos e0, Sem.run_pure, Result.andThen_ok, Sem.run_bind, e1']
              · rw [if_neg e0] at hz
                obtain ⟨v, h1, h2, h3, h4⟩ := zcells?_spec hz
                simp only [if_neg e0, Sem.run_bind, rZ w h1, Result.andThen_ok, h2, Sem.run_pure, e1']
          · cases h
        · cases h
      · cases h
    · cases h
  | range t x =>
    unfold evalOp at h; rw [ho] at h
    simp only [opRange] at h
    split at h
    · rename_i s hu hx
      cases h
      refine ⟨_, _, rfl, fun σ' => by unfold evalOp; rw [ho]; simp only [opRange, hu, hx], fun _ _ _ _ e => (by cases e), fun g ρ' w hρ => ?_⟩
      rw [ho] at hρ
      have hx' := hρ x (by simp [Op.operands])
      rw [hx] at hx'
      obtain ⟨y, hy⟩ : ∃ y, y = ρ' x := ⟨_, rfl⟩
      rw [← hy] at hx'
      cases hx'
      exact ⟨.stringIter s 0, 0, .pointer (some ⟨w.heap.size, 0, none⟩), w, rfl, rfl, rfl, rfl, by simp [execOp, ho, ← hy, Instr.range, rU w hu, newW], fun g' _ hg => ptrTo_rel hg, rfl⟩
    · cases h
  | convert src dst x =>
    rw [ho] at hcl
    have hk : P.underlying src = some .string ∧ ∃ e, P.underlying dst = some (.slice e) ∧ P.underlying e = some (.int .u8) := by
      unfold clsOf clsConv at hcl
      simp only at hcl
      split at hcl
      · rename_i h1
        split at hcl
        · rename_i e h2
          split at hcl
          · rename_i h3; exact ⟨h1, e, h2, h3⟩
          · cases hcl
        · cases hcl
      · split at hcl <;> cases hcl
      · cases hcl
    obtain ⟨h1, e, h2, h3⟩ := hk
    have h0 := h
    unfold evalOp at h; rw [ho] at h
    simp only at h
    cases hx : ρ x with
    | string s =>
      have hcv : ∀ σ', opConvert P src dst id (ρ x) σ' = some (.val (sliceTo id s.size 1) (σ'.set id (.cells true 0 id (bytesOf s)))) := fun σ' => by
        simp only [opConvert, h1, h2, hx, h3]
      rw [hcv σ] at h
      cases h
      refine ⟨_, _, rfl, fun σ' => by unfold evalOp; rw [ho]; simp only [hcv σ'], fun _ _ _ _ e => by cases e; rfl, fun g ρ' w hρ => ?_⟩
      rw [ho] at hρ
      have hx' := hρ x (by simp [Op.operands])
      rw [hx] at hx'
      obtain ⟨y, hy⟩ : ∃ y, y = ρ' x := ⟨_, rfl⟩
      rw [← hy] at hx'
      cases hx'
      obtain ⟨cap, ecap⟩ : ∃ c, c = (Question.appendCap s.size 0 e).cut (w.tape w.drawn (.appendCap s.size 0 e)) := ⟨_, rfl⟩
      have hcap : s.size ≤ cap := by rw [ecap]; simp only [Question.cut]; omega
      obtain ⟨cs, ecs⟩ : ∃ c : Array Value, c = (s.data.map fun b => Value.int .u8 b.toNat) ++ Array.replicate (cap - s.size) (.int .u8 0) := ⟨_, rfl⟩
      have hds : s.data.size = s.size := rfl
      have hcs : cs.size = cap := by rw [ecs]; simp [hds]; omega
      refine ⟨.cells cs e (cs.size, cs.size + 1), cs.size, .slice (some ⟨w.heap.size, 0, none⟩) s.size cap, drawW w, rfl, rfl, rfl, rfl, ?_, fun g' _ hg => sliceTo_rel hg hcap (by rw [hcs]; omega), rfl, cs, e, _, rfl, rfl, fun i hi => ?_, fun i hi => by simp only; omega⟩
      · have hb : (drawW w).heap.size = w.heap.size := rfl
        have hq : (Question.appendCap s.size 0 e).forced = false := rfl
        have hrow := newRow_run (P := P) (drawW w) e cs
        have hfz := freeze_new (drawW w) cs e
        have hsh := shape_new (drawW w) cs e
        rw [hb] at hrow hfz hsh
        have hdraw : ({ w with drawn := w.drawn + 1 } : World) = drawW w := rfl
        simp only [execOp, ho, ← hy, convert, Sem.run_bind, rU w h1, rU w h2, rU w h3, Result.andThen_ok, Conv.stringToBytes, run_choose, hq, Bool.false_eq_true, if_false, hdraw, ← ecap, ← ecs, hrow]
        simp only [markStringish, Sem.run_bind, run_shape, hsh, run_freeze, hfz, Sem.run_pure, Result.andThen_ok]
      · have hi' : i < s.data.size := by simpa [bytesOf] using hi
        refine ⟨.int .u8 (s.data[i]).toNat, ?_, ?_⟩
        · rw [ecs, Array.getElem?_append_left (by simpa using hi')]
          simp only [Array.getElem?_map, Array.getElem?_eq_getElem hi', Option.map_some]
        · have : (bytesOf s)[i] = .int .u8 (s.data[i]).toNat := by simp [bytesOf, byteV]
          rw [this]; exact .int _ _
    | _ =>
      exfalso
      have hcv : opConvert P src dst id (ρ x) σ = none := by simp only [opConvert, h1, h2, hx]
      rw [hcv] at h
      obtain ⟨v, _, _, k3⟩ := evalFlat_pure h
      obtain ⟨v', e1, _⟩ := k3 (fun _ => none) ρ default (fun y hy => flatV_rel (evalFlat_flat h y hy))
      simp [execOp, ho, convert, rU _ h1, rU _ h2, hx] at e1
  | makeFunc fn a b => rw [ho] at hcl; cases fn <;> simp [clsOf] at hcl
  | call c =>
    rw [ho] at hcl
    unfold clsOf at hcl
    simp only at hcl
    repeat (split at hcl)
    all_goals cases hcl
  | _ => rw [ho] at hcl; simp [clsOf] at hcl
end Go.Ev
