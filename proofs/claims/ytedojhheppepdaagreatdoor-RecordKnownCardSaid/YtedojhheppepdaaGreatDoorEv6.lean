/-
  The evaluator's operations, over any program, third part: conversions between strings and bytes, make, append, copy, clear, lengths, comparisons with nil, ranges over strings. Each abstract operation, and that the model's own does as it says. No condition.
-/
import Derived.Test.YtedojhheppepdaaGreatDoorEv5
namespace Go.Ev
open Go
set_option linter.unusedVariables false
set_option linter.unusedSimpArgs false

theorem OpOk.new {P : Program} {g : Gam} {σ : St} {w : World} {s : Sem Next} {v v' : Value} {σ' : St} {w' : World} {g' : Gam} {N : Nat → Prop} (h : s.run P w = .ok (.value v') w') (hv : VRel g' v v') (hr : Rel g' σ' w') (he : Ext N g g' σ σ' w w') :
    OpOk P g σ w N s (.val v σ') := ⟨_, w', g', v', h, .inl rfl, hv, hr, he⟩

/-! ## make -/
def opMakeSlice (P : Program) (t : TypeId) (id : Nat) (l c : Value) (σ : St) : Option ARes :=
  match P.underlying t, l, c with
  | some (.slice elem), .int _ (.ofNat n), .int _ (.ofNat m) => match P.info? elem with
    | some i => if n ≤ m && m ≤ 9223372036854775807 && i.bytes * m ≤ 281474976710656 then match (if m * i.size = 0 then some #[] else zcells? P elem i.size) with
        | some z => some (.val (sliceTo id n i.size) (opNew id (zrow z (m * i.size)) σ))
        | none => none
      else none
    | none => none
  | _, _, _ => none
theorem wrap_id {n : Nat} (h : n ≤ 9223372036854775807) : IntKind.i64.wrap (n : Int) = n := by
  simp only [IntKind.wrap, IntKind.signed, IntKind.bits]
  simp
  omega
theorem opMakeSlice_ok {P : Program} {t : TypeId} {id : Nat} {l l' c c' : Value} {r : ARes} {σ : St} {g : Gam} {w : World} (h : opMakeSlice P t id l c σ = some r) (hr : Rel g σ w) (hid : σ.get id = none) (hlt : id < σ.next)
    (hl : VRel g l l') (hc : VRel g c c') : OpOk P g σ w (· = id) (do pure (.value (← Instr.makeSlice t l' c'))) r := by
  unfold opMakeSlice at h
  split at h
  · rename_i elem k n k2 m hu
    cases hl; cases hc
    split at h
    · rename_i i hi
      split at h
      · rename_i hc
        simp only [Bool.and_eq_true, decide_eq_true_eq] at hc
        obtain ⟨⟨c1, c2⟩, c3⟩ := hc
        split at h
        · rename_i z hz
          cases h
          have hs : sz? P elem = some i.size := by simp [sz?, hi]
          have hzr : ARel g (zrow z (m * i.size)) (zrow z (m * i.size)) := by
            split at hz
            · cases hz; exact zrow_rel ⟨rfl, fun i h => by simp at h⟩ _ (.inr (by assumption))
            · rename_i hne
              obtain ⟨v, h1, h2, h3, h4⟩ := zcells?_spec hz
              exact zrow_rel (h4 g) _ (.inl (by rw [h3]; intro e; rw [e] at hne; simp at hne))
          obtain ⟨g', e1, e2, e3, e4, e5⟩ := opNew_ok (P := P) hr hid hlt hzr elem
          have hsz : (zrow z (m * i.size)).size = m * i.size := by simp [zrow]
          rw [hsz] at e3
          refine .new ?_ (sliceTo_rel e3 c1 (Nat.le_refl _)) e4 e5
          have w1 := wrap_id c2
          have w2 := wrap_id (n := n) (by omega)
          have t1 : ¬ ((m : Int) < 0) := by omega
          have t2 : ¬ ((i.bytes : Int) * (m : Int) > 2 ^ 48) := by rw [← Int.natCast_mul]; omega
          have t3 : ¬ ((n : Int) > (m : Int)) := by omega
          have t4 : ¬ ((n : Int) < 0) := by omega
          simp only [Int.ofNat_eq_natCast]
          simp only [Instr.makeSlice, Sem.run_bind, rU w hu, Result.andThen_ok, asInt, asIntOf, Sem.run_pure, rT w hi, w1, w2, rS w hs, run_askRoom]
          simp only [t1, t2, t3, t4, decide_false, Bool.or_self, Bool.or_false, Bool.false_eq_true, if_false, Sem.run_pure, Result.andThen_ok, Int.toNat_natCast, Sem.run_bind, run_askRoom, rS w hs]
          have e1' : (newRow elem ((Array.range (m * i.size)).map (z[· % z.size]!))).run P w = .ok ⟨w.heap.size, 0, none⟩ (newW w (.cells (zrow z (m * i.size)) elem)) := e1
          by_cases e0 : m * i.size = 0
          · rw [if_pos e0] at hz
            cases hz
            simp only [if_pos e0, Sem.run_pure, Result.andThen_ok, Sem.run_bind, e1']
          · rw [if_neg e0] at hz
            obtain ⟨v, h1, h2, h3, h4⟩ := zcells?_spec hz
            simp only [if_neg e0, Sem.run_bind, rZ w h1, Result.andThen_ok, h2, Sem.run_pure, e1']
        · cases h
      · cases h
    · cases h
  · cases h

/-! ## Bytes and strings -/
def byteV (b : UInt8) : Value := .int .u8 b.toNat
def bytesOf (s : ByteArray) : List Value := s.data.toList.map byteV
/-- The bytes of cells that are bytes. -/
def bytes? : List Value → Option (List UInt8)
  | [] => some []
  | .int .u8 n :: r => match bytes? r with
    | some l => some (UInt8.ofNat n.toNat :: l)
    | none => none
  | _ => none
theorem bytes?_ints {g : Gam} : ∀ (l l' : List Value) (b : List UInt8), bytes? l = some b → l.length = l'.length → (∀ i (h : i < l.length) (h' : i < l'.length), VRel g l[i] l'[i]) →
    ∃ ns : List Int, l' = ns.map (Value.int .u8) ∧ b = ns.map fun n => UInt8.ofNat n.toNat
  | [], [], b, h, _, _ => ⟨[], rfl, by simp only [bytes?] at h; cases h; rfl⟩
  | [], _ :: _, _, _, h, _ => by simp at h
  | _ :: _, [], _, _, h, _ => by simp at h
  | v :: l, v' :: l', b, h, hl, hv => by
    unfold bytes? at h
    split at h
    · rename_i e; cases e
    · rename_i n r e
      cases e
      split at h
      · rename_i l2 hl2
        cases h
        have h0 := hv 0 (Nat.succ_pos _) (Nat.succ_pos _)
        simp only [List.getElem_cons_zero] at h0
        cases h0
        obtain ⟨ns, e1, e2⟩ := bytes?_ints l l' l2 hl2 (by simpa using hl) (fun i h1 h2 => hv (i + 1) (Nat.succ_lt_succ h1) (Nat.succ_lt_succ h2))
        exact ⟨n :: ns, by rw [e1]; rfl, by rw [e2]; rfl⟩
      · cases h
    · cases h

def strOf (b : List UInt8) : ByteArray := ⟨b.toArray⟩
theorem foldl_strOf (ns : List Int) : ∀ (s : ByteArray), ns.foldl (fun r n => r.push (UInt8.ofNat n.toNat)) s = ⟨s.data ++ (ns.map fun n => UInt8.ofNat n.toNat).toArray⟩ := by
  induction ns with
  | nil => intro s; simp
  | cons n r ih =>
    intro s
    rw [List.foldl_cons, ih]
    simp [ByteArray.push]

def opBytesString (x : Value) (σ : St) : Option Value :=
  match x with
  | .slice none 0 0 => some (.string ⟨#[]⟩)
  | .slice (some ⟨A, o, none⟩) len _ => if len = 0 then some (.string ⟨#[]⟩) else match σ.read? A o len with
    | some l => match bytes? l with
      | some b => some (.string (strOf b))
      | none => none
    | none => none
  | _ => none
theorem opBytesString_ok {P : Program} {x x' r : Value} {σ : St} {g : Gam} {w : World} (h : opBytesString x σ = some r) (hr : Rel g σ w) (hx : VRel g x x') :
    ∃ r', (Conv.bytesToString x').run P w = .ok r' w ∧ VRel g r r' := by
  unfold opBytesString at h
  split at h
  · cases hx; cases h
    exact ⟨.string ⟨#[]⟩, by simp [Conv.bytesToString]; rfl, .string _⟩
  · rename_i A o len k
    cases hx; rename_i y o' c hy ho hl h0 hk
    split at h
    · subst_vars; cases h
      have := run_bytesToString (P := P) w ⟨y.block, o', none⟩ 0 c [] (by simp [loadCells, loadCellsFrom])
      exact ⟨_, this, .string _⟩
    · rename_i hne
      have ho := ho (by omega)
      subst ho
      split at h
      · rename_i l hl2
        split at h
        · rename_i b hb
          cases h
          obtain ⟨vs, e1, e2, e3, e4⟩ := hr.read (P := P) hy hl2
          obtain ⟨ns, p, q⟩ := bytes?_ints l vs b hb (by omega) e4
          subst p
          have := run_bytesToString (P := P) w _ len c ns e3
          refine ⟨_, this, ?_⟩
          rw [foldl_strOf]
          subst q
          have : (⟨ByteArray.empty.data ++ (ns.map fun n => UInt8.ofNat n.toNat).toArray⟩ : ByteArray) = strOf (ns.map fun n => UInt8.ofNat n.toNat) := by
            show (⟨#[] ++ _⟩ : ByteArray) = _
            simp [strOf]
          rw [this]
          exact .string _
        · cases h
      · cases h
  · cases h

/-- A world behind a draw. -/
def drawW (w : World) : World := { w with drawn := w.drawn + 1 }
theorem freeze_new (w : World) (cs : Array Value) (elem : TypeId) : (newW w (.cells cs elem)).freeze ⟨w.heap.size, cs.size, none⟩ 1 = newW w (.cells cs elem (cs.size, cs.size + 1)) := by
  simp only [World.freeze, newW]
  rw [if_neg (by omega)]
  congr 1
  apply Array.ext_getElem?
  intro i
  simp only [Array.getElem?_modify, Array.getElem?_push]
  by_cases e : i = w.heap.size
  · subst e; simp
  · rw [if_neg (fun e2 => e e2.symm), if_neg e, if_neg e]
theorem shape_new (w : World) (cs : Array Value) (elem : TypeId) : (newW w (.cells cs elem)).shape? w.heap.size = some (elem, cs.size) := by
  simp only [World.shape?, newW_new]

/-- What the world does as a string becomes bytes: a block with room behind, its byte beyond the end frozen. -/
theorem opStringBytes_ok {P : Program} {elem : TypeId} {s : ByteArray} {σ : St} {g : Gam} {w : World} (hr : Rel g σ w) {id : Nat} (hid : σ.get id = none) (hlt : id < σ.next) :
    ∃ w' g' v', (Conv.stringToBytes elem s).run P w = .ok v' w' ∧ VRel g' (sliceTo id s.size 1) v' ∧ Rel g' (σ.set id (.cells true 0 id (bytesOf s))) w' ∧ Ext (· = id) g g' σ (σ.set id (.cells true 0 id (bytesOf s))) w w' := by
  obtain ⟨cap, ecap⟩ : ∃ c, c = (Question.appendCap s.size 0 elem).cut (w.tape w.drawn (.appendCap s.size 0 elem)) := ⟨_, rfl⟩
  have hcap : s.size ≤ cap := by rw [ecap]; simp only [Question.cut]; omega
  obtain ⟨cs, ecs⟩ : ∃ c : Array Value, c = (s.data.map fun b => Value.int .u8 b.toNat) ++ Array.replicate (cap - s.size) (.int .u8 0) := ⟨_, rfl⟩
  have hds : s.data.size = s.size := rfl
  have hcs : cs.size = cap := by rw [ecs]; simp [hds]; omega
  have hr1 : Rel g σ (drawW w) := hr.heap rfl
  obtain ⟨ra, rb⟩ := hr1.new hid hlt cs.size (.cells true 0 id (bytesOf s)) (.cells cs elem (cs.size, cs.size + 1)) (fun own v F c' e => by cases e; rfl)
    ⟨cs, elem, _, newW_new _ _, rfl, fun _ i hi => by
      have hi' : i < s.data.size := by simpa [bytesOf] using hi
      refine ⟨.int .u8 (s.data[i]).toNat, ?_, ?_⟩
      · rw [ecs]
        rw [Array.getElem?_append_left (by simpa using hi')]
        simp only [Nat.zero_add, Array.getElem?_map, Array.getElem?_eq_getElem hi', Option.map_some]
      · have : (bytesOf s)[i] = .int .u8 (s.data[i]).toNat := by simp [bytesOf, byteV]
        rw [this]; exact .int _ _, fun _ i (hi : i < cs.size) => by simp only; omega⟩
  have hb : (drawW w).heap.size = w.heap.size := rfl
  rw [hb] at ra rb
  have hxt : Ext (· = id) g (g.add id ⟨w.heap.size, 0, cs.size⟩) σ (σ.set id (.cells true 0 id (bytesOf s))) w (newW (drawW w) (.cells cs elem (cs.size, cs.size + 1))) :=
    (Ext.heap (N := (· = id)) (g := g) (σ := σ) (w := w) (w' := drawW w) rfl rfl rfl rfl).trans rb
  refine ⟨_, _, .slice (some ⟨w.heap.size, 0, none⟩) s.size cap, ?_, sliceTo_rel (Gam.add_self g id _) hcap (by rw [hcs]; omega), ra, hxt⟩
  have hq : (Question.appendCap s.size 0 elem).forced = false := rfl
  have hrow := newRow_run (P := P) (drawW w) elem cs
  have hfz := freeze_new (drawW w) cs elem
  have hsh := shape_new (drawW w) cs elem
  rw [hb] at hrow hfz hsh
  have hdraw : ({ w with drawn := w.drawn + 1 } : World) = drawW w := rfl
  simp only [Conv.stringToBytes, Sem.run_bind, run_choose, hq, Bool.false_eq_true, if_false, Result.andThen_ok, hdraw, ← ecap, ← ecs, hrow]
  simp only [markStringish, Sem.run_bind, run_shape, hsh, run_freeze, hfz, Sem.run_pure, Result.andThen_ok]

def opConvert (P : Program) (src dst : TypeId) (id : Nat) (x : Value) (σ : St) : Option ARes :=
  match P.underlying src, P.underlying dst, x with
  | some .string, some (.slice e), .string s => match P.underlying e with
    | some (.int .u8) => some (.val (sliceTo id s.size 1) (σ.set id (.cells true 0 id (bytesOf s))))
    | _ => none
  | some (.slice e), some .string, .slice _ _ _ => match P.underlying e with
    | some (.int .u8) => match opBytesString x σ with
      | some r => some (.val r σ)
      | none => none
    | _ => none
  | _, _, _ => none
theorem opConvert_ok {P : Program} {src dst : TypeId} {id : Nat} {x x' : Value} {r : ARes} {σ : St} {g : Gam} {w : World} (h : opConvert P src dst id x σ = some r) (hr : Rel g σ w) (hid : σ.get id = none) (hlt : id < σ.next) (hx : VRel g x x') :
    OpOk P g σ w (· = id) (do pure (.value (← convert src dst x'))) r := by
  unfold opConvert at h
  split at h
  · rename_i e s hu hu2
    cases hx
    split at h
    · rename_i hue
      cases h
      obtain ⟨w', g', v', e1, e2, e3, e4⟩ := opStringBytes_ok (P := P) (elem := e) (s := s) hr hid hlt
      refine .new ?_ e2 e3 e4
      simp [convert, rU w hu, rU w hu2, rU w hue, e1]
    · cases h
  · rename_i e a l c hu hu2
    split at h
    · rename_i hue
      split at h
      · rename_i r2 hr2
        cases h
        obtain ⟨r', e1, e2⟩ := opBytesString_ok (P := P) hr2 hr hx
        refine .val0 hr ?_ e2
        cases hx <;> simp [convert, rU w hu, rU w hu2, rU w hue, e1]
      · cases h
    · cases h
  · cases h
end Go.Ev
