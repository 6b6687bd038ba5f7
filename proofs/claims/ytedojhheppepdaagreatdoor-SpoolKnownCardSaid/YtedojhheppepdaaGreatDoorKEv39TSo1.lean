/-
  The evaluator and the contracts, merged out of 8 texts (Ev39 to So1). No condition.
-/
import Derived.Test.YtedojhheppepdaaGreatDoorKEv34TEv38
import Derived.Test.YtedojhheppepdaaGreatDoorKTyR
import Derived.KernelRfl

namespace Go.Ev
open Go
set_option linter.unusedVariables false
set_option linter.unusedSimpArgs false
set_option linter.defProp false
section
variable {id : Nat} {σ : St}
def appG (i : TypeInfo) (A len k id n : Nat) (nc : List Value) (σ : St) (o : Option AObj) : Option ARes := match o with
  | some (.cells true ver F c) => if n ≠ 0 ∧ k = i.size + 1 ∧ c.length = len * i.size ∧ len + n ≤ 9223372036854775807 ∧ (2 * (len + n) + 1000) * i.bytes ≤ 281474976710656 ∧ nc.all (·.oneCell') = true then
      some (.val (.slice (some ⟨id, 0, none⟩) (len + n) (i.size + 1)) (((((σ.set A (.cells false ver F c)).set id (.cells true ver F (c ++ nc))).setFam F id).setHint A (len * i.size)).setHint id (len * i.size + nc.length)))
    else appE i (.slice (some ⟨A, 0, none⟩) len k) id (some (n, nc)) σ
  | _ => appE i (.slice (some ⟨A, 0, none⟩) len k) id (some (n, nc)) σ
theorem appE_get {i : TypeInfo} {A len k n : Nat} {nc : List Value} : appE i (.slice (some ⟨A, 0, none⟩) len k) id (some (n, nc)) σ = appG i A len k id n nc σ (σ.get A) := by
  unfold appG
  split
  · rename_i ver F c hA
    split
    · rename_i h
      obtain ⟨h0, rfl, h2, h3, h4, h5⟩ := h
      exact appE_own hA h2 h0 h3 h4 h5
    · rfl
  · rfl
theorem appG_own {i : TypeInfo} {A len k n ver F : Nat} {c nc : List Value} (h0 : n ≠ 0) (hk : k = i.size + 1) (hc : c.length = len * i.size) (h1 : len + n ≤ 9223372036854775807) (h2 : (2 * (len + n) + 1000) * i.bytes ≤ 281474976710656) (h3 : nc.all (·.oneCell') = true) :
    appG i A len k id n nc σ (some (.cells true ver F c)) = some (.val (.slice (some ⟨id, 0, none⟩) (len + n) (i.size + 1)) (((((σ.set A (.cells false ver F c)).set id (.cells true ver F (c ++ nc))).setFam F id).setHint A (len * i.size)).setHint id (len * i.size + nc.length))) := by
  simp only [appG]; rw [if_pos ⟨h0, hk, hc, h1, h2, h3⟩]
theorem get_set' {A B : Nat} {o : AObj} : (σ.set A o).get B = if A = B then some o else σ.get B := by simp
theorem get_bump' {n A : Nat} : (σ.bump n).get A = σ.get A := nr rfl
theorem get_fam' {F O A : Nat} : (σ.setFam F O).get A = σ.get A := nr rfl
theorem get_hint' {B n A : Nat} : (σ.setHint B n).get A = σ.get A := nr rfl
theorem next_set' {A : Nat} {o : AObj} : (σ.set A o).next = σ.next := nr rfl
theorem next_bump' {n : Nat} : (σ.bump n).next = σ.next + n := nr rfl
theorem next_fam' {F O : Nat} : (σ.setFam F O).next = σ.next := nr rfl
theorem next_hint' {B n : Nat} : (σ.setHint B n).next = σ.next := nr rfl
theorem famO_set' {A F : Nat} {o : AObj} : (σ.set A o).famO F = σ.famO F := nr rfl
theorem famO_bump' {n F : Nat} : (σ.bump n).famO F = σ.famO F := nr rfl
theorem famO_fam' {F O F' : Nat} : (σ.setFam F O).famO F' = if F = F' then some O else σ.famO F' := by simp
theorem famO_hint' {B n F : Nat} : (σ.setHint B n).famO F = σ.famO F := nr rfl

/-! ## Small states -/
/-- A state of a few blocks. -/
def stOf (next : Nat) : List (Nat × AObj) → St
  | [] => { heap := .nil, fams := .nil, next := next }
  | (A, o) :: l => (stOf next l).set A o
theorem get_stOf_nil {next A : Nat} : (stOf next []).get A = none := by
  simp only [stOf, St.get]; cases path A <;> rfl
theorem get_stOf_cons {next A B : Nat} {o : AObj} {l : List (Nat × AObj)} : (stOf next ((A, o) :: l)).get B = if A = B then some o else (stOf next l).get B := by
  simp [stOf]
theorem famO_stOf {next F : Nat} : ∀ {l : List (Nat × AObj)}, (stOf next l).famO F = none
  | [] => by simp only [stOf, St.famO]; cases path F <;> rfl
  | (A, o) :: l => by simp only [stOf, St.famO_set]; exact famO_stOf
theorem next_stOf {next : Nat} : ∀ {l : List (Nat × AObj)}, (stOf next l).next = next
  | [] => rfl
  | (A, o) :: l => by simp only [stOf, St.next_set]; exact next_stOf
theorem one_int {k : IntKind} {n : Int} : (Value.int k n).oneCell' = true := nr rfl
theorem one_bool {b : Bool} : (Value.bool b).oneCell' = true := nr rfl
theorem one_string {s : ByteArray} : (Value.string s).oneCell' = true := nr rfl
theorem one_ptr {a : Option Addr} : (Value.pointer a).oneCell' = true := nr rfl
theorem one_slice {a : Option Addr} {n k : Nat} : (Value.slice a n k).oneCell' = true := nr rfl
theorem one_func {f : Fn} {a b : Array Value} : (Value.func f a b).oneCell' = true := nr rfl
theorem cells_int {k : IntKind} {n : Int} : (Value.int k n).cells = #[.int k n] := nr rfl
theorem cells_bool {b : Bool} : (Value.bool b).cells = #[.bool b] := nr rfl
theorem cells_string {s : ByteArray} : (Value.string s).cells = #[.string s] := nr rfl
theorem cells_ptr {a : Option Addr} : (Value.pointer a).cells = #[.pointer a] := nr rfl
theorem cells_slice {a : Option Addr} {n k : Nat} : (Value.slice a n k).cells = #[.slice a n k] := nr rfl
theorem cells_func {f : Fn} {a b : Array Value} : (Value.func f a b).cells = #[.func f a b] := nr rfl
theorem toList_mk {l : List Value} : (⟨l⟩ : Array Value).toList = l := nr rfl
theorem toArr_mk {l : List Value} : l.toArray = ⟨l⟩ := nr rfl
end
/-! ## Guards -/
def bO (v : Value) : Option Bool := match v with
  | .bool b => some b
  | _ => none
theorem bO_bool {b : Bool} : bO (.bool b) = some b := nr rfl
theorem bO_undef : bO undef = none := nr rfl
def yG (o : Option Oper) (env : Env) : Option Bool := match o with
  | some o => match o.dst with
    | some d => bO (eget env d)
    | none => none
  | none => none
theorem yG_some {d : Nat} {op : Op} {ty : TypeId} {pos : String} {af : Array Edge} {gd : Option (Nat × Bool)} {env : Env} : yG (some { dst := some d, op := op, type := ty, pos := pos, after := af, guard := gd }) env = bO (eget env d) := nr rfl
theorem yields_eq {l : List Oper} {env : Env} {j : Nat} : yieldsA ⟨l⟩ env j = yG (l[j]?) env := by
  unfold yieldsA yG
  have : (⟨l⟩ : Array Oper)[j]? = l[j]? := by simp
  rw [this]
  cases l[j]? with
  | none => rfl
  | some o =>
    simp only [Option.bind_some]
    cases o.dst with
    | none => rfl
    | some d => simp only; unfold bO; cases eget env d <;> rfl
def gW (y : Option Bool) (w : Bool) : Bool := match y with
  | some b => b == w
  | none => false
theorem gW_tt : gW (some true) true = true := nr rfl
theorem gW_tf : gW (some true) false = false := nr rfl
theorem gW_ft : gW (some false) true = false := nr rfl
theorem gW_ff : gW (some false) false = true := nr rfl
theorem gW_none {w : Bool} : gW none w = false := nr rfl
theorem wanted_some {d : Option Nat} {op : Op} {ty : TypeId} {pos : String} {af : Array Edge} {j : Nat} {w : Bool} {ops : Array Oper} {env : Env} : wantedA ops env { dst := d, op := op, type := ty, pos := pos, after := af, guard := some (j, w) } = gW (yieldsA ops env j) w := by
  unfold wantedA gW
  simp only
  cases yieldsA ops env j with
  | none => rfl
  | some b => cases b <;> cases w <;> rfl
theorem map_parts {f : Nat × Operand → Nat × Value} {l : List (Nat × Operand)} : (⟨l⟩ : Array (Nat × Operand)).map f = ⟨l.map f⟩ := by simp
def consC (v : Option Value) (r : Option (List Value)) : Option (List Value) := match v, r with
  | some v, some l => some (v :: l)
  | _, _ => none
theorem consC_some {v : Value} {l : List Value} : consC (some v) (some l) = some (v :: l) := nr rfl
theorem resVals_cell {P : Program} {env : Env} {σ : St} {a : Nat} {t : TypeId} {r : List ResultVar} : resVals P env σ (.cell a t :: r) = consC (opLoad P t (eget env a) σ) (resVals P env σ r) := nr rfl
def symG := And.intro @bO_bool (And.intro @bO_undef (And.intro @yG_some (And.intro @yields_eq (And.intro @gW_tt (And.intro @gW_tf (And.intro @gW_ft (And.intro @gW_ff (And.intro @gW_none (And.intro @wanted_some (And.intro @map_parts (And.intro @consC_some (@resVals_cell))))))))))))
def symA := And.intro sy0 (And.intro sy1 (And.intro sy2 (And.intro sy3 (And.intro sy4 (And.intro sy5 (And.intro sy6 (And.intro sy7 (And.intro sy9 (And.intro sy10 sy8)))))))))
def symB := And.intro @eget_eput (And.intro @oneO_some (And.intro @aggO_some (And.intro @read_get (And.intro @rdG_own (And.intro @rdG_ro (And.intro @sub_here (And.intro @sub_more (And.intro @sub_zero (And.intro @sub_take (And.intro @consP_some (And.intro @putG_own (And.intro @lay_nil (And.intro @lay_here (And.intro @lay_more (And.intro @opNew_set (And.intro @ptrTo_ptr (And.intro @sliceTo_sl (And.intro @instP_nil @instP_cons))))))))))))))))))
def symC := And.intro @instP_app (And.intro @appE_zero (And.intro @appE_nil (And.intro @appE_get (And.intro @appG_own (And.intro @pairO_some (And.intro @bnd_none (And.intro @bnd_int (And.intro @slE_some (And.intro @o_slice (And.intro @sSlice_sl (And.intro @strR_some (And.intro @bytesStr_nil (And.intro @o_min (And.intro @o_max (And.intro @min_int (And.intro @max_int (And.intro @o_index (And.intro @next_get (And.intro @nextG_more @nextG_end)))))))))))))))))))
def symD := And.intro @ext_0 (And.intro @ext_s (And.intro @inv_f (And.intro @map_lit (And.intro @opLen_sl (And.intro @get_set' (And.intro @get_bump' (And.intro @get_fam' (And.intro @get_hint' (And.intro @next_set' (And.intro @next_bump' (And.intro @next_fam' (And.intro @next_hint' (And.intro @famO_set' (And.intro @famO_bump' (And.intro @famO_fam' (And.intro @famO_hint' (And.intro @get_stOf_nil (And.intro @get_stOf_cons (And.intro @famO_stOf @next_stOf)))))))))))))))))))
def symE := And.intro @one_int (And.intro @one_bool (And.intro @one_string (And.intro @one_ptr (And.intro @one_slice (And.intro @one_func (And.intro @cells_int (And.intro @cells_bool (And.intro @cells_string (And.intro @cells_ptr (And.intro @cells_slice (And.intro @cells_func (And.intro @cells_agg (And.intro @toList_mk (And.intro @wrap_i64 (And.intro @wrap_u8 (And.intro @wrap_u32 (And.intro @wrap_u64 @wrap_i32)))))))))))))))))
-- the walk's equations: symG, symA, symB, symC, symD, symE
end Go.Ev

namespace Go.Ev
open Go
set_option linter.unusedVariables false
set_option linter.unusedSimpArgs false

theorem SimF.of_wf {P : Program} {gl : List Nat} {f : FuncId} {args : Array Value} {σ σ' : St} {v : Value} (h : σ.Wf → SimF P gl f args σ v σ') : SimF P gl f args σ v σ' :=
  fun g w args' hg hr ha => h hr.wf g w args' hg hr ha
theorem SimF.glob {P : Program} {gl : List Nat} {f : FuncId} {args : Array Value} {σ σ' : St} {v : Value} (h : SimF P [] f args σ v σ') : SimF P gl f args σ v σ' :=
  fun g w args' hg hr ha => h g w args' (fun b hb => by cases hb) hr ha

/-- Blocks that nobody writes, of one family. -/
def roL (F : Nat) (l : List (Nat × List Value)) : List (Nat × AObj) := l.map fun x => (x.1, AObj.cells false 0 F x.2)
def roSt (n F : Nat) (l : List (Nat × List Value)) : St := stOf n (roL F l)
theorem roSt_get {n F : Nat} : ∀ {l : List (Nat × List Value)} {A : Nat} {o : AObj}, (roSt n F l).get A = some o → ∃ c, (A, c) ∈ l ∧ o = .cells false 0 F c
  | [], A, o, h => by simp only [roSt, roL, List.map_nil, get_stOf_nil] at h; cases h
  | (B, c) :: l, A, o, h => by
    simp only [roSt, roL, List.map_cons, get_stOf_cons] at h
    by_cases e : B = A
    · subst e; rw [if_pos rfl] at h; cases h; exact ⟨c, by simp, rfl⟩
    · rw [if_neg e] at h
      obtain ⟨c', h1, h2⟩ := roSt_get (n := n) (F := F) (l := l) h
      exact ⟨c', by simp [h1], h2⟩
theorem roSt_of {n F : Nat} : ∀ {l : List (Nat × List Value)} {A : Nat} {c : List Value}, (A, c) ∈ l → (l.map (·.1)).Nodup → (roSt n F l).get A = some (.cells false 0 F c)
  | (B, c') :: l, A, c, h, hn => by
    simp only [roSt, roL, List.map_cons, get_stOf_cons]
    simp only [List.map_cons, List.nodup_cons] at hn
    rcases List.mem_cons.1 h with e | h
    · cases e; rw [if_pos rfl]
    · have : B ≠ A := fun e => hn.1 (e ▸ List.mem_map_of_mem h)
      rw [if_neg this]
      exact roSt_of (n := n) (F := F) h hn.2
theorem roSt_famO {n F F' : Nat} {l : List (Nat × List Value)} : (roSt n F l).famO F' = none := famO_stOf
theorem hintO_stOf {next A : Nat} : ∀ {l : List (Nat × AObj)}, (stOf next l).hintO A = none
  | [] => by simp only [stOf, St.hintO]; cases path A <;> rfl
  | (B, o) :: l => by simp only [stOf, St.hintO_set]; exact hintO_stOf
theorem roSt_next {n F : Nat} {l : List (Nat × List Value)} : (roSt n F l).next = n := next_stOf
theorem roSt_wf {n F : Nat} {l : List (Nat × List Value)} (hn : ∀ x ∈ l, x.1 < n) (hd : (l.map (·.1)).Nodup) (hF : ∃ c, (F, c) ∈ l) : (roSt n F l).Wf := by
  refine ⟨fun A o h => ?_, fun A own v F' c h => ?_, fun A v F' c h => ?_, fun F' O h => ?_, fun F' O X own v c own' v' c' h => ?_, fun A m h => ?_⟩
  · obtain ⟨c, h1, _⟩ := roSt_get h
    rw [roSt_next]; exact hn _ h1
  · obtain ⟨c', h1, h2⟩ := roSt_get h
    cases h2
    obtain ⟨c2, h3⟩ := hF
    exact ⟨_, roSt_of h3 hd⟩
  · obtain ⟨c', _, h2⟩ := roSt_get h; cases h2
  · rw [roSt_famO] at h; cases h
  · rw [roSt_famO] at h; cases h
  · have : (roSt n F l).hintO A = none := hintO_stOf
    rw [this] at h; cases h

theorem cells_some {σ : St} {B : Nat} {c : List Value} (h : σ.cells? B = some c) : ∃ own v F, σ.get B = some (.cells own v F c) ∧ σ.rd own v F = true := by
  unfold St.cells? at h
  split at h
  · rename_i own v F c' hg
    split at h
    · rename_i hr; cases h; exact ⟨own, v, F, hg, hr⟩
    · cases h
  · cases h

theorem SimF.ro {P : Program} {gl : List Nat} {f : FuncId} {args0 args : Array Value} {n F : Nat} {l : List (Nat × List Value)} {σs' σ : St} {v0 v : Value} {ρ : Nat → Option (Nat × Nat)}
    (h : SimF P gl f args0 (roSt n F l) v0 σs') (hn : ∀ x ∈ l, x.1 < n) (hd : (l.map (·.1)).Nodup) (hF : ∃ c, (F, c) ∈ l)
    (hρ : ∀ A B d, ρ A = some (B, d) → ∃ c c', (A, c) ∈ l ∧ σ.cells? B = some c' ∧ CRen ρ d c c') (hgl : ∀ b, gl.contains b = true → ρ b = some (b, 0))
    (ha : ARen ρ args0 args) (hv : VRen ρ v0 v) : SimF P gl f args σ v σ := by
  refine SimF.of_wf fun hwf => ?_
  have hro : ∀ A B d, ρ A = some (B, d) → (roSt n F l).ro A := fun A B d hAB => by
    obtain ⟨c, c', h1, _⟩ := hρ A B d hAB
    exact ⟨0, F, c, roSt_of h1 hd, roSt_famO⟩
  have hlt : ∀ A B d, ρ A = some (B, d) → A < n := fun A B d hAB => by
    obtain ⟨c, c', h1, _⟩ := hρ A B d hAB
    exact hn _ h1
  refine h.frame (ρ := ρ) (ρ' := ρ) ?_ hv
  refine
    { view := ⟨roSt_wf hn hd hF, fun A B d o' hAB hB => ?_, fun A A' B B' d d' hAB hAB' _ _ => ?_, fun X O BX BO dX dO F' v' c own c' _ _ _ hfo => ?_⟩
      argsR := ha
      glob := hgl
      dom := fun A B d hAB => ⟨by rw [roSt_next]; exact hlt A B d hAB, ?_⟩
      kinds := fun A B d hAB => .inl (hro A B d hAB)
      named := fun A B d hAB hnr => (hnr (hro A B d hAB)).elim
      wf' := hwf
      old := fun _ _ => rfl
      new := fun A B d hA hAB => ?_
      inj' := fun A A' B d d' hA _ hAB => ?_
      next := Nat.le_refl _
      still := fun _ _ _ => rfl
      calm := fun B own v F' c _ _ _ hrd => ⟨hrd, fun A B0 d hAB hnr => (hnr (hro A B0 d hAB)).elim⟩
      kept := fun A B d hAB hnr => (hnr (hro A B d hAB)).elim
      post := fun A B d o hAB hnr => (hnr (hro A B d hAB)).elim
      famkeep := fun A B d hAB hnr => (hnr (hro A B d hAB)).elim
      share' := fun A A' B B' d d' F' hAB _ hnr => (hnr (hro A B d hAB)).elim
      order' := fun X O F' v c own c' hne hfo hX hO => .inl ⟨hwf.lt X _ hX, hwf.lt O _ hO, hfo, hX, hO⟩
      ro' := fun B hB => hB }
  · obtain ⟨c, c', h1, h2, h3⟩ := hρ A B d hAB
    obtain ⟨own, v', F', g1, g2⟩ := cells_some h2
    rw [g1] at hB; cases hB
    exact ⟨_, roSt_of h1 hd, ⟨(fun h => by cases h), fun _ => ⟨g2, h3⟩⟩⟩
  · obtain ⟨c, _, h1, _⟩ := hρ A B d hAB
    obtain ⟨c2, _, h2, _⟩ := hρ A' B' d' hAB'
    exact ⟨F, St.fam_eq (roSt_of h1 hd), St.fam_eq (roSt_of h2 hd)⟩
  · rw [roSt_famO] at hfo; cases hfo
  · obtain ⟨c, c', _, h2, _⟩ := hρ A B d hAB
    obtain ⟨own, v', F', g1, _⟩ := cells_some h2
    exact hwf.lt B _ g1
  · have := hlt A B d hAB
    rw [roSt_next] at hA; omega
  · have := hlt A B d hAB
    rw [roSt_next] at hA; omega

/-- Flat cells are their own copies. -/
theorem CRen.flat {ρ : Nat → Option (Nat × Nat)} {d : Nat} {c c' : List Value} (hl : d + c.length ≤ c'.length) (h : (c'.drop d).take c.length = c) (hf : ∀ v ∈ c, flatV v = true) : CRen ρ d c c' := by
  refine ⟨hl, fun i h1 h2 => ?_⟩
  have e : c'[d + i] = c[i] := by
    have e1 : ((c'.drop d).take c.length)[i]? = c[i]? := by rw [h]
    rw [List.getElem?_take, if_pos h1, List.getElem?_drop, List.getElem?_eq_getElem h2, List.getElem?_eq_getElem h1] at e1
    exact Option.some.inj e1
  rw [e]
  exact .flat (hf _ (List.getElem_mem h1))
end Go.Ev

namespace Go.Ev
open Go
set_option linter.unusedVariables false
set_option linter.unusedSimpArgs false

section
variable {P : Program} {gl : List Nat} {C : CallF} {N : Nat}
theorem TLoop.step (hC : C.ok P gl) (hm : P.follows .mixedOrders = true) {body : Code} (hok : okC P gl N body = true) {Q : Ex → Env → St → Prop} {env : Env} {σ : St}
    (step : wpC P gl N C body env σ fun ex env' σ' => match ex with
      | .normal => TLoop P gl N body env' σ' Q
      | .exit id => Q (.exit id) env' σ'
      | .ret => Q .ret env' σ') : TLoop P gl N body env σ Q := by
  obtain ⟨ex, e1, s1, h1, h2⟩ := wpC_ok (N := N) hC hm body env σ _ hok step
  cases ex with
  | normal =>
    obtain ⟨m, ex, e2, s2, h3, h4⟩ := h2
    exact ⟨m + 1, ex, e2, s2, .more h1 h3, h4⟩
  | exit id => exact ⟨1, _, e1, s1, .last h1 (by simp), h2⟩
  | ret => exact ⟨1, _, e1, s1, .last h1 (by simp), h2⟩
/-- A loop, once round. -/
theorem zLoop_step (hC : C.ok P gl) (hm : P.follows .mixedOrders = true) {body : Code} {Q : Ex → Env → St → Prop} {env : Env} {σ : St} (hok : okC P gl N body = true)
    (step : zC P gl C N body env σ (fun ex env' σ' => zX ex (zLoop P gl N body env' σ' Q .mk) (fun id => Q (.exit id) env' σ') (Q .ret env' σ') .mk) .mk) : zLoop P gl N body env σ Q .mk := by
  refine TLoop.step hC hm hok ?_
  unfold zC at step
  have e : (fun ex env' σ' => zX ex (zLoop P gl N body env' σ' Q .mk) (fun id => Q (.exit id) env' σ') (Q .ret env' σ') .mk) = (fun (ex : Ex) (env' : Env) (σ' : St) => match ex with
      | .normal => TLoop P gl N body env' σ' Q
      | .exit id => Q (.exit id) env' σ'
      | .ret => Q .ret env' σ') := by
    funext ex env' σ'
    cases ex <;> rfl
  rw [e] at step
  exact step
end

theorem appE_at {i : TypeInfo} {A len n ver F id : Nat} {c nc : List Value} {σ : St} (hA : σ.get A = some (.cells true ver F c)) (hc : len * i.size < c.length) (h0 : n ≠ 0) (h1 : len + n ≤ 9223372036854775807) (h2 : (2 * (len + n) + 1000) * i.bytes ≤ 281474976710656) (h3 : nc.all (·.oneCell') = true) :
    appE i (.slice (some ⟨A, 0, none⟩) len (i.size + 1)) id (some (n, nc)) σ = some (.val (.slice (some ⟨id, 0, none⟩) (len + n) (i.size + 1))
      (((((σ.set A (.cells false (ver + 1) F (c.take (len * i.size)))).set id (.cells true (ver + 1) F (c.take (len * i.size) ++ nc))).setFam F id).setHint A (len * i.size)).setHint id (len * i.size + nc.length))) := by
  simp only [appE, if_neg h0]
  rw [if_pos ⟨h1, h2⟩]
  simp only [h3, and_self, if_true, hA, Nat.zero_add]
  rw [if_pos (by omega)]
  have e1 : ¬ (len * i.size = c.length) := by omega
  simp only [appSt, if_neg e1, List.drop_zero, Nat.sub_zero]
  rfl

open Classical in
/-- As 'SimF.ro', for a call that answers with one new row of flat cells. -/
theorem SimF.roNew {P : Program} {gl : List Nat} {f : FuncId} {args0 args : Array Value} {n F : Nat} {l : List (Nat × List Value)} {σs' σ : St} {v0 v : Value} {ρ : Nat → Option (Nat × Nat)} {x v1 F1 : Nat} {c1 : List Value}
    (h : SimF P gl f args0 (roSt n F l) v0 σs') (hn : ∀ x ∈ l, x.1 < n) (hd : (l.map (·.1)).Nodup) (hF : ∃ c, (F, c) ∈ l)
    (hρ : ∀ A B d, ρ A = some (B, d) → ∃ c c', (A, c) ∈ l ∧ σ.cells? B = some c' ∧ CRen ρ d c c') (hgl : ∀ b, gl.contains b = true → ρ b = some (b, 0))
    (ha : ARen ρ args0 args) (hx : n ≤ x) (hget : σs'.get x = some (.cells true v1 F1 c1)) (hflat : ∀ v ∈ c1, flatV v = true)
    (hv : VRen (fun A => if A = x then some (σ.next, 0) else ρ A) v0 v) : SimF P gl f args σ v ((σ.set σ.next (.cells true 0 σ.next c1)).bump 1) := by
  refine SimF.of_wf fun hwf => ?_
  have hro : ∀ A B d, ρ A = some (B, d) → (roSt n F l).ro A := fun A B d hAB => by
    obtain ⟨c, c', h1, _⟩ := hρ A B d hAB
    exact ⟨0, F, c, roSt_of h1 hd, roSt_famO⟩
  have hlt : ∀ A B d, ρ A = some (B, d) → A < n := fun A B d hAB => by
    obtain ⟨c, c', h1, _⟩ := hρ A B d hAB
    exact hn _ h1
  have hid : σ.get σ.next = none := by
    cases e : σ.get σ.next with
    | none => rfl
    | some o => exact absurd (hwf.lt _ _ e) (Nat.lt_irrefl _)
  have hx' : ∀ A B d, (fun A => if A = x then some (σ.next, 0) else ρ A) A = some (B, d) → ¬ (roSt n F l).ro A → A = x ∧ B = σ.next ∧ d = 0 := fun A B d hAB hnr => by
    simp only at hAB
    split at hAB
    · rename_i e; cases hAB; exact ⟨e, rfl, rfl⟩
    · exact (hnr (hro A B d hAB)).elim
  have hge : ∀ A B d, n ≤ A → (fun A => if A = x then some (σ.next, 0) else ρ A) A = some (B, d) → A = x ∧ B = σ.next ∧ d = 0 := fun A B d hA hAB => by
    simp only at hAB
    split at hAB
    · rename_i e; cases hAB; exact ⟨e, rfl, rfl⟩
    · have := hlt A B d hAB; omega
  refine h.frame (ρ := ρ) (ρ' := fun A => if A = x then some (σ.next, 0) else ρ A) ?_ hv
  refine
    { view := ⟨roSt_wf hn hd hF, fun A B d o' hAB hB => ?_, fun A A' B B' d d' hAB hAB' _ _ => ?_, fun X O BX BO dX dO F' v' c own c' _ _ _ hfo => ?_⟩
      argsR := ha
      glob := hgl
      dom := fun A B d hAB => ⟨by rw [roSt_next]; exact hlt A B d hAB, ?_⟩
      kinds := fun A B d hAB => .inl (hro A B d hAB)
      named := fun A B d hAB hnr => (hnr (hro A B d hAB)).elim
      wf' := ?_
      old := fun A hA => ?_
      new := fun A B d hA hAB => ?_
      inj' := fun A A' B d d' hA hA' hAB hAB' => ?_
      next := Nat.le_succ _
      still := fun B hB _ => ?_
      calm := fun B own v F' c hB _ hg hrd => ⟨?_, fun A B0 d hAB hnr => (hnr (hro A B0 d hAB)).elim⟩
      kept := fun A B d hAB hnr => (hnr (hro A B d hAB)).elim
      post := fun A B d o hAB hnr ho => ?_
      famkeep := fun A B d hAB hnr => (hnr (hro A B d hAB)).elim
      share' := fun A A' B B' d d' F' hAB hAB' hnr hnr' hF1 hF2 => ?_
      order' := fun X O F' v c own c' hne hfo hX hO => .inl ?_
      ro' := fun B hB => ?_ }
  · obtain ⟨c, c', h1, h2, h3⟩ := hρ A B d hAB
    obtain ⟨own, v', F', g1, g2⟩ := cells_some h2
    rw [g1] at hB; cases hB
    exact ⟨_, roSt_of h1 hd, ⟨(fun h => by cases h), fun _ => ⟨g2, h3⟩⟩⟩
  · obtain ⟨c, _, h1, _⟩ := hρ A B d hAB
    obtain ⟨c2, _, h2, _⟩ := hρ A' B' d' hAB'
    exact ⟨F, St.fam_eq (roSt_of h1 hd), St.fam_eq (roSt_of h2 hd)⟩
  · rw [roSt_famO] at hfo; cases hfo
  · obtain ⟨c, c', _, h2, _⟩ := hρ A B d hAB
    obtain ⟨own, v', F', g1, _⟩ := cells_some h2
    exact hwf.lt B _ g1
  · exact (hwf.bump 1).new (id := σ.next) hid (Nat.lt_succ_self _) (.cells true 0 σ.next c1) (fun own v F c e => by cases e; rfl)
  · rw [roSt_next] at hA
    have : A ≠ x := by omega
    simp only [if_neg this]
  · rw [roSt_next] at hA
    obtain ⟨_, rfl, rfl⟩ := hge A B d hA hAB
    exact ⟨Nat.le_refl _, rfl⟩
  · rw [roSt_next] at hA hA'
    rw [(hge A B d hA hAB).1, (hge A' B d' hA' hAB').1]
  · have : ¬ (σ.next = B) := by omega
    simp [this]
  · have := St.rd_new hwf hid (.cells true 0 σ.next c1) own v F'
    rw [← this]; exact hrd
  · obtain ⟨rfl, rfl, rfl⟩ := hx' A B d hAB hnr
    rw [hget] at ho; cases ho
    refine ⟨.cells true 0 σ.next c1, by simp, ⟨fun _ => rfl, fun _ => ⟨rfl, Nat.le_refl _, fun i h1 h2 => ?_⟩⟩⟩
    exact .flat (hflat _ (List.getElem_mem h1))
  · obtain ⟨rfl, rfl, rfl⟩ := hx' A B d hAB hnr
    obtain ⟨rfl, rfl, rfl⟩ := hx' A' B' d' hAB' hnr'
    have hg : ((σ.set σ.next (.cells true 0 σ.next c1)).bump 1).get σ.next = some (.cells true 0 σ.next c1) := by simp
    exact ⟨σ.next, St.fam_eq hg, St.fam_eq hg⟩
  · have hfo' : σ.famO F' = some O := hfo
    obtain ⟨own2, v2, c2, hO2⟩ := hwf.named F' O hfo'
    have hOl := hwf.lt O _ hO2
    have e1 : ¬ (σ.next = O) := by omega
    have hX' : (if σ.next = X then some (AObj.cells true 0 σ.next c1) else σ.get X) = some (.cells false v F' c) := by simpa using hX
    have hO' : (if σ.next = O then some (AObj.cells true 0 σ.next c1) else σ.get O) = some (.cells own v F' c') := by simpa using hO
    rw [if_neg e1] at hO'
    split at hX'
    · cases hX'
    · exact ⟨hwf.lt X _ hX', hOl, hfo', hX', hO'⟩
  · obtain ⟨v, F', c, h1, h2⟩ := hB
    have hl := hwf.lt B _ h1
    have : ¬ (σ.next = B) := by omega
    exact ⟨v, F', c, by simp [this, h1], h2⟩
end Go.Ev

namespace Go.Proofs
open Go Go.Ev
set_option maxRecDepth 100000
set_option linter.unusedSimpArgs false
set_option linter.unusedVariables false
set_option linter.defProp false
theorem Tryz.mixedB : Tryz.prog.follows .mixedOrders = true := by kernel_rfl
def Tryz.ty := And.intro Tryz.ty0 (And.intro Tryz.ty1 (And.intro Tryz.ty2 (And.intro Tryz.ty3 (And.intro Tryz.ty4 (And.intro Tryz.ty5 (And.intro Tryz.ty6 (And.intro Tryz.ty7 (And.intro Tryz.ty8 (And.intro Tryz.ty9 (And.intro Tryz.ty10 (And.intro Tryz.ty11 (And.intro Tryz.ty12 (And.intro Tryz.ty13 (And.intro Tryz.ty14 (And.intro Tryz.ty15 (And.intro Tryz.ty16 (And.intro Tryz.ty17 (And.intro Tryz.ty18 (And.intro Tryz.ty19 (And.intro Tryz.ty20 (And.intro Tryz.ty21 (And.intro Tryz.ty22 (And.intro Tryz.ty23 (And.intro Tryz.ty24 (And.intro Tryz.ty25 (And.intro Tryz.ty26 (And.intro Tryz.ty27 (And.intro Tryz.ty28 (And.intro Tryz.ty29 (And.intro Tryz.ty30 (Tryz.ty31)))))))))))))))))))))))))))))))
noncomputable def Tryz.okF (fn : Func) : Bool := match fn.body with | some c => okC Tryz.prog [] fn.ntmps c && decide (fn.params.size ≤ fn.ntmps) | none => false

def Tryz.C0 : CallF := fun _ _ _ => none
theorem Tryz.C0_ok (gl : List Nat) : Tryz.C0.ok Tryz.prog gl := fun f args σ v σ' h => by cases h
theorem Tryz.C0_eq {f : FuncId} {args : Array Value} {σ : St} : Tryz.C0 f args σ = none := nr rfl
theorem Tryz.cls25 : clsConv Tryz.prog 2 5 = .pure := by kernel_rfl
theorem Tryz.app5 {A id n ver F : Nat} {c nc : List Value} {σ : St} (h0 : n ≠ 0) (h1 : c.length + n ≤ 1000000000) (h3 : nc.all (·.oneCell') = true) :
    appG Tryz.in5 A c.length 2 id n nc σ (some (.cells true ver F c)) = some (.val (.slice (some ⟨id, 0, none⟩) (c.length + n) 2) (((((σ.set A (.cells false ver F c)).set id (.cells true ver F (c ++ nc))).setFam F id).setHint A c.length).setHint id (c.length + nc.length))) := by
  have e1 : Tryz.in5.size = 1 := rfl
  have e2 : Tryz.in5.bytes = 1 := rfl
  rw [appG_own h0 (by rw [e1]) (by rw [e1]; omega) (by omega) (by rw [e2]; omega) h3, e1, Nat.mul_one]
theorem Tryz.nil5 {id n : Nat} {nc : List Value} {σ : St} (h0 : n ≠ 0) (h1 : n ≤ 1000000000) :
    appE Tryz.in5 (.slice none 0 0) id (some (n, nc)) σ = some (.val (.slice (some ⟨id, 0, none⟩) n 2) (σ.set id (.cells true 0 id nc))) := by
  have e1 : Tryz.in5.size = 1 := rfl
  have e2 : Tryz.in5.bytes = 1 := rfl
  rw [appE_nil h0 (by omega) (by rw [e2]; omega), e1]

/-- Known calls with flat arguments and a flat answer. -/
def Tryz.Flat (f : Nat) (args : List Value) (v : Value) : Prop := ∀ σ, SimF Tryz.prog [] f args.toArray σ v σ
abbrev Tryz.FT := List (Nat × (List Value → Option Value))
noncomputable def Tryz.ftC : Tryz.FT → CallF
  | [] => fun _ _ _ => none
  | (g, s) :: r => fun f args σ => if g = f then (match s args.toList with | some v => some (v, σ) | none => none) else Tryz.ftC r f args σ
def Tryz.FtOk (l : Tryz.FT) : Prop := ∀ f s, (f, s) ∈ l → ∀ args v, s args = some v → Tryz.Flat f args v
theorem Tryz.ftC_ok : ∀ {l : Tryz.FT}, Tryz.FtOk l → (Tryz.ftC l).ok Tryz.prog []
  | [], _, f, args, σ, v, σ', h => by cases h
  | (g, s) :: r, hl, f, args, σ, v, σ', h => by
    simp only [Tryz.ftC] at h
    by_cases e : g = f
    · subst e
      rw [if_pos rfl] at h
      cases hs : s args.toList with
      | none => rw [hs] at h; cases h
      | some u =>
        rw [hs] at h
        cases h
        have := hl g s (by simp) args.toList v hs σ
        rwa [Array.toArray_toList] at this
    · rw [if_neg e] at h
      exact Tryz.ftC_ok (fun f s hm => hl f s (by simp [hm])) f args σ v σ' h
theorem Tryz.ft_nil : Tryz.FtOk [] := fun _ _ h => by cases h
theorem Tryz.ft_cons {f : Nat} {s : List Value → Option Value} {l : Tryz.FT} (h : ∀ args v, s args = some v → Tryz.Flat f args v) (hl : Tryz.FtOk l) : Tryz.FtOk ((f, s) :: l) := fun g t hm => by
  rcases List.mem_cons.1 hm with e | hm
  · cases e; exact h
  · exact hl g t hm
def ftR (r : Option Value) (σ : St) : Option (Value × St) := match r with | some v => some (v, σ) | none => none
theorem ftR_some {v : Value} {σ : St} : ftR (some v) σ = some (v, σ) := nr rfl
theorem Tryz.ftC_nil {f : FuncId} {args : Array Value} {σ : St} : Tryz.ftC [] f args σ = none := nr rfl
theorem Tryz.ftC_cons {g : Nat} {s : List Value → Option Value} {r : Tryz.FT} {f : FuncId} {l : List Value} {σ : St} : Tryz.ftC ((g, s) :: r) f ⟨l⟩ σ = if g = f then ftR (s l) σ else Tryz.ftC r f ⟨l⟩ σ := nr rfl
/-- One more, by a walk from the empty state. -/
theorem Tryz.flat {f : Nat} {args : List Value} {v : Value} (ha : args.all flatV = true) (hv : flatV v = true) (h : TF Tryz.prog [] f args.toArray (stOf 1000 []) fun u _ => u = v) : Tryz.Flat f args v := by
  obtain ⟨u, σ0, hs, rfl⟩ := h
  intro σ
  exact SimF.everywhere (l := []) (next := 1000) hs (fun x hx => by cases hx) (fun x hx => by cases hx) (by simpa using ha) hv (fun A x hx => by cases hx)
end Go.Proofs

namespace Go.Proofs
open Go Go.Ev
set_option maxRecDepth 100000
set_option linter.unusedSimpArgs false
set_option linter.unusedVariables false
def Tryz.tabv : List Nat := [0, 498536548, 997073096, 651767980, 1994146192, 1802195444, 1303535960, 1342533948, 3988292384, 4027552580, 3604390888, 3412177804, 2607071920, 2262029012, 2685067896, 3183342108]
def Tryz.tabC : List Value := Tryz.tabv.map fun n => .int .u32 (n : Nat)
noncomputable def Tryz.okF3 (fn : Func) : Bool := match fn.body with | some c => okC Tryz.prog [3] fn.ntmps c && decide (fn.params.size ≤ fn.ntmps) | none => false
/-- The table lies where it lies. -/
structure Tryz.Tab (F : Nat) (σ : St) : Prop where
  get : σ.get 3 = some (.cells false 0 F Tryz.tabC)
  fam : σ.famO F = none
theorem Tryz.Tab.read {F : Nat} {σ : St} (h : Tryz.Tab F σ) {i : Nat} (hi : i < 16) : σ.read? 3 i 1 = some [.int .u32 (Tryz.tabv.getD i 0 : Nat)] := by
  rw [read_get, h.get, rdG_ro h.fam]
  refine sub_at ?_
  have : ∀ i, i < 16 → Tryz.tabv[i]? = some (Tryz.tabv.getD i 0) := by decide
  unfold Tryz.tabC
  rw [List.getElem?_map, this i hi]; rfl
def Tryz.halfN (r : Nat) : Nat := r / 16 ^^^ Tryz.tabv.getD (r &&& 15) 0
theorem Tryz.tab_lt (m : Nat) (h : m < 16) : Tryz.tabv.getD m 0 < 4294967296 := by
  have : ∀ m, m < 16 → Tryz.tabv.getD m 0 < 4294967296 := by decide
  exact this m h
theorem Tryz.half_lt (r : Nat) (h : r < 4294967296) : Tryz.halfN r < 4294967296 := by
  have hand : r &&& 15 < 16 := Nat.lt_of_le_of_lt Nat.and_le_right (by decide)
  exact Nat.xor_lt_two_pow (n := 32) (by omega) (Tryz.tab_lt _ hand)
theorem Tryz.half_tf {F : Nat} (r : Nat) (hr : r < 4294967296) (σ : St) (ht : Tryz.Tab F σ) :
    TF Tryz.prog [3] 295 #[.int .u32 (r : Nat)] σ fun v σ' => v = .int .u32 ((Tryz.halfN r : Nat) : Int) ∧ σ' = σ.bump 9 := by
  have hand : r &&& 15 < 16 := Nat.lt_of_le_of_lt Nat.and_le_right (by decide)
  have h1 := Tryz.tab_lt _ hand
  have h3 := ht.read hand
  have e4 : (r : Int).fdiv 16 = ((r / 16 : Nat) : Int) := fdiv_nat r 4
  have h4 : ∀ n, rdG (σ.bump n) (σ.get 3) (r &&& 15) 1 = some [.int .u32 (Tryz.tabv.getD (r &&& 15) 0 : Nat)] := fun n => (read_get (σ := σ.bump n) 3 (r &&& 15) 1).symm.trans h3
  refine TF.walk (Tryz.C0_ok [3]) Tryz.mixedB Tryz.func295 (by kernel_rfl) rfl fun c hc => ?_
  cases hc
  simp (config := { maxSteps := 1000000 }) (disch := first | exact okQ_by (by kernel_rfl) | exact ordB_by (by kernel_rfl) | omega | assumption | (simp only [symE, List.all_cons, List.all_nil, Bool.and_true, Bool.and_self, List.length_cons, List.length_nil, Nat.reduceAdd, Nat.zero_add] <;> omega)) only [Tryz.f295, Tryz.C0_eq, symG, symA, symB, symC, symD, symE, Tryz.ty, ftR_some, Tryz.ftC_nil, Tryz.ftC_cons, List.getElem?_cons_zero, List.getElem?_cons_succ, List.length_cons, List.length_nil, List.map_cons, List.map_nil, List.nil_append, List.cons_append, List.append_nil, Option.map_some, Option.map_none, Nat.zero_add, Nat.add_zero, Nat.zero_mul, Nat.mul_one, Nat.one_mul, Nat.sub_zero, Int.toNat_natCast, reduceIte, Nat.reduceEqDiff, Nat.reduceAdd, Nat.reduceMul, Int.reduceToNat, clsOf, toArr_mk, if_true, if_false, Bool.not_true, Bool.not_false, Bool.false_eq_true, sBin_shr32, sBin_and_u32, sBin_xor_u32, Int.reducePow, e4, h4, Tryz.halfN, and_self]

/-- The register behind bytes. -/
def Tryz.crcN (l : List UInt8) (r : Nat) : Nat := l.foldl (fun r c => Tryz.halfN (Tryz.halfN (r ^^^ c.toNat))) r
theorem Tryz.crc_lt (l : List UInt8) : ∀ r, r < 4294967296 → Tryz.crcN l r < 4294967296 := by
  induction l with
  | nil => intro r h; exact h
  | cons a l ih =>
    intro r h
    exact ih _ (Tryz.half_lt _ (Tryz.half_lt _ (Nat.xor_lt_two_pow (n := 32) h (by have := a.toNat_lt; omega))))
theorem Tryz.crcN_take (l : List UInt8) (i r : Nat) (h : i < l.length) : Tryz.crcN (l.take (i + 1)) r = Tryz.halfN (Tryz.halfN (Tryz.crcN (l.take i) r ^^^ l[i].toNat)) := by
  unfold Tryz.crcN
  rw [List.take_succ_eq_append_getElem h, List.foldl_append]; rfl
theorem sOne_xor_u32 {P : Program} {n : Nat} (h : n < 4294967296) {σ : St} : sOne P (Op.unary .xor) (.int .u32 (n : Nat)) σ = some (.val (.int .u32 ((n ^^^ 4294967295 : Nat) : Int)) σ) := by
  rw [sOne_xor]
  have e : (if IntKind.u32.signed then (-1 : Int) else IntKind.u32.max) = ((4294967295 : Nat) : Int) := rfl
  have hx : n ^^^ 4294967295 < 4294967296 := Nat.xor_lt_two_pow (n := 32) h (by decide)
  rw [e, show IntKind.u32.bits = 32 from rfl]
  have e2 : (BitVec.ofInt 32 ((4294967295 : Nat) : Int) ^^^ BitVec.ofInt 32 (n : Int)).toNat = n ^^^ 4294967295 := by
    rw [BitVec.toNat_xor, BitVec.ofInt_natCast, BitVec.ofInt_natCast, BitVec.toNat_ofNat, BitVec.toNat_ofNat, Nat.mod_eq_of_lt (by decide : 4294967295 < 2 ^ 32), Nat.mod_eq_of_lt (by omega : n < 2 ^ 32), Nat.xor_comm]
  rw [e2, wrap_u32 (by omega) (by omega)]
theorem Tryz.crc_tf {F B : Nat} (l : List UInt8) (hl : l.length < 9223372036854775808) (k : Nat) (σ : St) (ht : Tryz.Tab F σ) (h0 : σ.cells? B = some (l.map byteV)) :
    TF Tryz.prog [3] 260 #[.slice (some ⟨B, 0, none⟩) l.length k] σ fun v σ' => v = .int .u32 ((Tryz.crcN l 4294967295 ^^^ 4294967295 : Nat) : Int) := by
  refine TF.walk (Tryz.C0_ok [3]) Tryz.mixedB Tryz.func260 (by kernel_rfl) rfl fun c hc => ?_
  cases hc
  simp (config := { maxSteps := 1000000 }) (disch := first | exact okQ_by (by kernel_rfl) | exact ordB_by (by kernel_rfl) | omega | assumption | (simp only [symE, List.all_cons, List.all_nil, Bool.and_true, Bool.and_self, List.length_cons, List.length_nil, Nat.reduceAdd, Nat.zero_add] <;> omega)) only [Tryz.f260, Tryz.C0_eq, symG, symA, symB, symC, symD, symE, Tryz.ty, ftR_some, Tryz.ftC_nil, Tryz.ftC_cons, List.getElem?_cons_zero, List.getElem?_cons_succ, List.length_cons, List.length_nil, List.map_cons, List.map_nil, List.nil_append, List.cons_append, List.append_nil, Option.map_some, Option.map_none, Nat.zero_add, Nat.add_zero, Nat.zero_mul, Nat.mul_one, Nat.one_mul, Nat.sub_zero, Int.toNat_natCast, reduceIte, Nat.reduceEqDiff, Nat.reduceAdd, Nat.reduceMul, Int.reduceToNat, clsOf, toArr_mk, if_true, if_false, Bool.not_true, Bool.not_false, Bool.false_eq_true]
  refine zLoop_ind (Tryz.C0_ok [3]) Tryz.mixedB (fun kk env τ => ∃ i m, i ≤ l.length ∧ kk = l.length - i ∧ τ = σ.bump m ∧ eget env 3 = .int .u32 ((Tryz.crcN (l.take i) 4294967295 : Nat) : Int) ∧
    eget env 6 = .slice (some ⟨B, 0, none⟩) l.length k ∧ eget env 7 = .int .i64 (l.length : Nat) ∧ eget env 8 = .int .i64 (i : Nat)) (n := l.length) (by kernel_rfl) ⟨0, _, Nat.zero_le _, rfl, rfl, by simp [eget_eput, Tryz.crcN], by simp [eget_eput], by simp [eget_eput], by simp [eget_eput]⟩ ?_
  rintro kk env τ ⟨i, m, hi, rfl, rfl, e3, e6, e7, e8⟩
  have hcrc := Tryz.crc_lt (l.take i) 4294967295 (by decide)
  by_cases hlt : i < l.length
  · have hlt' : (i : Int) < (l.length : Int) := by omega
    have hb := l[i].toNat_lt
    have hrd : ∀ n, rdG (σ.bump n) (σ.get B) i 1 = some [.int .u8 (l[i].toNat : Int)] := fun n => by
      refine (read_get (σ := σ.bump n) B i 1).symm.trans ?_
      have : (σ.bump n).read? B i 1 = (σ.cells? B).bind fun c => sub? c i 1 := rfl
      rw [this, h0]
      exact sub_at (by rw [List.getElem?_map, List.getElem?_eq_getElem hlt]; rfl)
    have hx : Tryz.crcN (l.take i) 4294967295 ^^^ l[i].toNat < 4294967296 := Nat.xor_lt_two_pow (n := 32) hcrc (by omega)
    have tb : ∀ n, Tryz.Tab F (σ.bump n) := fun n => ⟨ht.get, ht.fam⟩
    simp (config := { maxSteps := 1000000 }) (disch := first | exact okQ_by (by kernel_rfl) | exact ordB_by (by kernel_rfl) | omega | assumption | (simp only [symE, List.all_cons, List.all_nil, Bool.and_true, Bool.and_self, List.length_cons, List.length_nil, Nat.reduceAdd, Nat.zero_add] <;> omega)) only [Tryz.C0_eq, symG, symA, symB, symC, symD, symE, Tryz.ty, ftR_some, Tryz.ftC_nil, Tryz.ftC_cons, List.getElem?_cons_zero, List.getElem?_cons_succ, List.length_cons, List.length_nil, List.map_cons, List.map_nil, List.nil_append, List.cons_append, List.append_nil, Option.map_some, Option.map_none, Nat.zero_add, Nat.add_zero, Nat.zero_mul, Nat.mul_one, Nat.one_mul, Nat.sub_zero, Int.toNat_natCast, reduceIte, Nat.reduceEqDiff, Nat.reduceAdd, Nat.reduceMul, Int.reduceToNat, clsOf, toArr_mk, if_true, if_false, Bool.not_true, Bool.not_false, Bool.false_eq_true, Tryz.C0_eq, e3, e6, e7, e8, hlt', decide_true, hrd, sBin_xor_u32]
    rw [zTF_def]
    refine (Tryz.half_tf (F := F) _ hx _ (tb _)).mono ?_
    rintro _ _ ⟨rfl, rfl⟩
    simp (config := { maxSteps := 1000000 }) (disch := first | exact okQ_by (by kernel_rfl) | exact ordB_by (by kernel_rfl) | omega | assumption | (simp only [symE, List.all_cons, List.all_nil, Bool.and_true, Bool.and_self, List.length_cons, List.length_nil, Nat.reduceAdd, Nat.zero_add] <;> omega)) only [Tryz.C0_eq, symG, symA, symB, symC, symD, symE, Tryz.ty, ftR_some, Tryz.ftC_nil, Tryz.ftC_cons, List.getElem?_cons_zero, List.getElem?_cons_succ, List.length_cons, List.length_nil, List.map_cons, List.map_nil, List.nil_append, List.cons_append, List.append_nil, Option.map_some, Option.map_none, Nat.zero_add, Nat.add_zero, Nat.zero_mul, Nat.mul_one, Nat.one_mul, Nat.sub_zero, Int.toNat_natCast, reduceIte, Nat.reduceEqDiff, Nat.reduceAdd, Nat.reduceMul, Int.reduceToNat, clsOf, toArr_mk, if_true, if_false, Bool.not_true, Bool.not_false, Bool.false_eq_true, Tryz.C0_eq]
    rw [zTF_def]
    refine (Tryz.half_tf (F := F) _ (Tryz.half_lt _ hx) _ (tb _)).mono ?_
    rintro _ _ ⟨rfl, rfl⟩
    simp (config := { maxSteps := 1000000 }) (disch := first | exact okQ_by (by kernel_rfl) | exact ordB_by (by kernel_rfl) | omega | assumption | (simp only [symE, List.all_cons, List.all_nil, Bool.and_true, Bool.and_self, List.length_cons, List.length_nil, Nat.reduceAdd, Nat.zero_add] <;> omega)) only [Tryz.C0_eq, symG, symA, symB, symC, symD, symE, Tryz.ty, ftR_some, Tryz.ftC_nil, Tryz.ftC_cons, List.getElem?_cons_zero, List.getElem?_cons_succ, List.length_cons, List.length_nil, List.map_cons, List.map_nil, List.nil_append, List.cons_append, List.append_nil, Option.map_some, Option.map_none, Nat.zero_add, Nat.add_zero, Nat.zero_mul, Nat.mul_one, Nat.one_mul, Nat.sub_zero, Int.toNat_natCast, reduceIte, Nat.reduceEqDiff, Nat.reduceAdd, Nat.reduceMul, Int.reduceToNat, clsOf, toArr_mk, if_true, if_false, Bool.not_true, Bool.not_false, Bool.false_eq_true, Tryz.C0_eq, e6, e7, e8]
    refine ⟨l.length - (i + 1), by omega, i + 1, _, by omega, rfl, rfl, ?_, ?_, ?_, ?_⟩
    · simp [eget_eput, Tryz.crcN_take l i 4294967295 hlt]
    · simp [eget_eput, e6]
    · simp [eget_eput, e7]
    · simp [eget_eput]
  · have hge : ¬ ((i : Int) < (l.length : Int)) := by omega
    have hi' : i = l.length := by omega
    subst hi'
    rw [List.take_length] at e3 hcrc
    simp (config := { maxSteps := 1000000 }) (disch := first | exact okQ_by (by kernel_rfl) | exact ordB_by (by kernel_rfl) | omega | assumption | (simp only [symE, List.all_cons, List.all_nil, Bool.and_true, Bool.and_self, List.length_cons, List.length_nil, Nat.reduceAdd, Nat.zero_add] <;> omega)) only [Tryz.C0_eq, symG, symA, symB, symC, symD, symE, Tryz.ty, ftR_some, Tryz.ftC_nil, Tryz.ftC_cons, List.getElem?_cons_zero, List.getElem?_cons_succ, List.length_cons, List.length_nil, List.map_cons, List.map_nil, List.nil_append, List.cons_append, List.append_nil, Option.map_some, Option.map_none, Nat.zero_add, Nat.add_zero, Nat.zero_mul, Nat.mul_one, Nat.one_mul, Nat.sub_zero, Int.toNat_natCast, reduceIte, Nat.reduceEqDiff, Nat.reduceAdd, Nat.reduceMul, Int.reduceToNat, clsOf, toArr_mk, if_true, if_false, Bool.not_true, Bool.not_false, Bool.false_eq_true, Tryz.C0_eq, e3, e6, e7, e8, hge, decide_false, sOne_xor_u32]
end Go.Proofs

namespace Go.Proofs
open Go Go.Ev
set_option maxRecDepth 100000
set_option linter.unusedSimpArgs false
set_option linter.unusedVariables false
set_option maxHeartbeats 4000000
theorem u8_wrap (m : Nat) : IntKind.u8.wrap (m : Int) = ((UInt8.ofNat m).toNat : Int) := by
  simp only [IntKind.wrap, IntKind.bits, IntKind.signed]
  simp
theorem byteV_of (m : Nat) : byteV (UInt8.ofNat m) = .int .u8 (IntKind.u8.wrap (m : Int)) := by rw [u8_wrap]; rfl
def fourL (n : Nat) : List UInt8 := [UInt8.ofNat (n / 2 ^ 24), UInt8.ofNat (n / 2 ^ 16), UInt8.ofNat (n / 2 ^ 8), UInt8.ofNat n]
def twoL (n : Nat) : List UInt8 := [UInt8.ofNat (n / 2 ^ 8), UInt8.ofNat n]
theorem Tryz.four_tf {gl : List Nat} (n : Nat) (hn : n < 4294967296) (σ : St) : TF Tryz.prog gl 259 #[.int .u32 (n : Nat)] σ fun v σ' => v = .slice (some ⟨σ.next + 12, 0, none⟩) 4 2 ∧ σ' = (σ.bump 14).set (σ.next + 12) (.cells true 0 (σ.next + 12) ((fourL n).map byteV)) := by
  refine TF.walk (Tryz.C0_ok gl) Tryz.mixedB Tryz.func259 (by kernel_rfl) rfl fun c hc => ?_
  cases hc
  have e24 : (n : Int).fdiv 16777216 = ((n / 2 ^ 24 : Nat) : Int) := fdiv_nat n 24
  have e16 : (n : Int).fdiv 65536 = ((n / 2 ^ 16 : Nat) : Int) := fdiv_nat n 16
  have e8 : (n : Int).fdiv 256 = ((n / 2 ^ 8 : Nat) : Int) := fdiv_nat n 8
  simp (config := { maxSteps := 1000000 }) (disch := first | exact okQ_by (by kernel_rfl) | exact ordB_by (by kernel_rfl) | omega | assumption | (simp only [symE, List.all_cons, List.all_nil, Bool.and_true, Bool.and_self, List.length_cons, List.length_nil, Nat.reduceAdd, Nat.zero_add] <;> omega)) only [Tryz.f259, Tryz.C0_eq, symG, symA, symB, symC, symD, symE, Tryz.ty, ftR_some, Tryz.ftC_nil, Tryz.ftC_cons, List.getElem?_cons_zero, List.getElem?_cons_succ, List.length_cons, List.length_nil, List.map_cons, List.map_nil, List.nil_append, List.cons_append, List.append_nil, Option.map_some, Option.map_none, Nat.zero_add, Nat.add_zero, Nat.zero_mul, Nat.mul_one, Nat.one_mul, Nat.sub_zero, Int.toNat_natCast, reduceIte, Nat.reduceEqDiff, Nat.reduceAdd, Nat.reduceMul, Int.reduceToNat, clsOf, toArr_mk, if_true, if_false, Bool.not_true, Bool.not_false, Bool.false_eq_true, sBin_shr32, u8_wrap, fourL, byteV, Int.reducePow, e24, e16, e8]
  have h24 : (UInt8.ofNat (n / 2 ^ 24)).toNat = n / 2 ^ 24 := by simp; omega
  exact ⟨trivial, by rw [h24]⟩
theorem Tryz.two_tf {gl : List Nat} (n : Nat) (hn : n < 65536) (σ : St) : TF Tryz.prog gl 258 #[.int .i64 (n : Nat)] σ fun v σ' => v = .slice (some ⟨σ.next + 6, 0, none⟩) 2 2 ∧ σ' = (σ.bump 8).set (σ.next + 6) (.cells true 0 (σ.next + 6) ((twoL n).map byteV)) := by
  refine TF.walk (Tryz.C0_ok gl) Tryz.mixedB Tryz.func258 (by kernel_rfl) rfl fun c hc => ?_
  cases hc
  have e8 : (n : Int).fdiv 256 = ((n / 2 ^ 8 : Nat) : Int) := fdiv_nat n 8
  simp (config := { maxSteps := 1000000 }) (disch := first | exact okQ_by (by kernel_rfl) | exact ordB_by (by kernel_rfl) | omega | assumption | (simp only [symE, List.all_cons, List.all_nil, Bool.and_true, Bool.and_self, List.length_cons, List.length_nil, Nat.reduceAdd, Nat.zero_add] <;> omega)) only [Tryz.f258, Tryz.C0_eq, symG, symA, symB, symC, symD, symE, Tryz.ty, ftR_some, Tryz.ftC_nil, Tryz.ftC_cons, List.getElem?_cons_zero, List.getElem?_cons_succ, List.length_cons, List.length_nil, List.map_cons, List.map_nil, List.nil_append, List.cons_append, List.append_nil, Option.map_some, Option.map_none, Nat.zero_add, Nat.add_zero, Nat.zero_mul, Nat.mul_one, Nat.one_mul, Nat.sub_zero, Int.toNat_natCast, reduceIte, Nat.reduceEqDiff, Nat.reduceAdd, Nat.reduceMul, Int.reduceToNat, clsOf, toArr_mk, if_true, if_false, Bool.not_true, Bool.not_false, Bool.false_eq_true, sBin_shr64, u8_wrap, twoL, byteV, Int.reducePow, e8]
  have h24 : (UInt8.ofNat (n / 2 ^ 8)).toNat = n / 2 ^ 8 := by simp; omega
  exact ⟨trivial, by rw [h24]⟩
theorem Tryz.cap32 (ρ : Operand → Value) (id : Nat) (σ : St) (d : Option Nat) (ty : TypeId) (pos : String) (af : Array Edge) (gd : Option (Nat × Bool)) (x : Operand) :
    evalOp Tryz.prog ρ id { dst := d, op := .call { callee := .builtin .cap, args := #[x], argTypes := #[32] }, type := ty, pos := pos, after := af, guard := gd } σ = Ev.valOf σ (opCap (ρ x)) := by
  unfold evalOp; simp only [Tryz.u32]
theorem opCap_nil : opCap (.slice none 0 0) = some (.int .i64 0) := nr rfl
theorem Tryz.as3 {z : Array Value} {σ : St} {n : Nat} (h0 : n ≠ 0) (hn : n < 1000000000) : appSrc Tryz.prog 3 Tryz.in5 z (.int .i64 (n : Nat)) σ = some (n, (zrow z n).toList) := by
  have hu : Tryz.prog.underlying 3 = some (.int .i64) := by kernel_rfl
  have e1 : Tryz.in5.size = 1 := rfl
  have e2 : Tryz.in5.bytes = 1 := rfl
  have e3 : ((n : Nat) : Int) = .ofNat n := rfl
  simp only [appSrc, hu, e1, e2, Nat.mul_one, e3]
  rw [if_pos (by omega), if_neg h0]
def zlist (n : Nat) : List Value := (zrow #[.int .u8 0] n).toList
theorem zlist_eq {n : Nat} : (zrow #[.int .u8 0] n).toList = zlist n := nr rfl
theorem zlist_length (n : Nat) : (zlist n).length = n := by simp [zlist, zrow]
/-- Growing nothing. -/
theorem Tryz.grow_tf {gl : List Nat} (n : Nat) (h0 : n ≠ 0) (hn : n < 1000000000) (σ : St) : TF Tryz.prog gl 294 #[.slice none 0 0, .int .i64 (n : Nat)] σ fun v σ' => v = .slice (some ⟨σ.next + 18, 0, none⟩) 0 2 ∧ σ' = (σ.bump 25).set (σ.next + 18) (.cells true 0 (σ.next + 18) (zlist n)) := by
  refine TF.walk (Tryz.C0_ok gl) Tryz.mixedB Tryz.func294 (by kernel_rfl) rfl fun c hc => ?_
  cases hc
  have h1 : ((n : Int) < 0) = False := eq_false (by omega)
  have hz : (0 : Int) - ((0 : Nat) : Int) = 0 := rfl
  have h2 : ((0 : Int) < (n : Int)) = True := eq_true (by omega)
  simp (config := { maxSteps := 1000000 }) (disch := first | exact okQ_by (by kernel_rfl) | exact ordB_by (by kernel_rfl) | omega | assumption | (simp only [symE, List.all_cons, List.all_nil, Bool.and_true, Bool.and_self, List.length_cons, List.length_nil, Nat.reduceAdd, Nat.zero_add] <;> omega)) only [Tryz.f294, Tryz.C0_eq, symG, symA, symB, symC, symD, symE, Tryz.ty, ftR_some, Tryz.ftC_nil, Tryz.ftC_cons, List.getElem?_cons_zero, List.getElem?_cons_succ, List.length_cons, List.length_nil, List.map_cons, List.map_nil, List.nil_append, List.cons_append, List.append_nil, Option.map_some, Option.map_none, Nat.zero_add, Nat.add_zero, Nat.zero_mul, Nat.mul_one, Nat.one_mul, Nat.sub_zero, Int.toNat_natCast, reduceIte, Nat.reduceEqDiff, Nat.reduceAdd, Nat.reduceMul, Int.reduceToNat, clsOf, toArr_mk, if_true, if_false, Bool.not_true, Bool.not_false, Bool.false_eq_true, hz, h1, h2, decide_true, decide_false, Tryz.cap32, opCap_nil, Tryz.as3, zlist_eq, Tryz.nil5, Int.sub_zero]
  exact ⟨trivial, rfl⟩
theorem Tryz.app5at {A id n len ver F j : Nat} {c nc : List Value} {σ : St} (h0 : n ≠ 0) (hc : len < c.length) (h1 : len + n ≤ 1000000000) (h3 : nc.all (·.oneCell') = true) :
    appG Tryz.in5 A len 2 id n nc ((σ.set A (.cells true ver F c)).bump j) (some (.cells true ver F c)) = some (.val (.slice (some ⟨id, 0, none⟩) (len + n) 2) (((((((σ.set A (.cells true ver F c)).bump j).set A (.cells false (ver + 1) F (c.take len))).set id (.cells true (ver + 1) F (c.take len ++ nc))).setFam F id).setHint A len).setHint id (len + nc.length))) := by
  have e1 : Tryz.in5.size = 1 := rfl
  have e2 : Tryz.in5.bytes = 1 := rfl
  have hA : ((σ.set A (.cells true ver F c)).bump j).get A = some (.cells true ver F c) := by simp
  have := appE_at (i := Tryz.in5) (A := A) (len := len) (n := n) (id := id) (nc := nc) hA (by rw [e1]; omega) h0 (by omega) (by rw [e2]; omega) h3
  rw [e1, Nat.mul_one, appE_get, hA] at this
  exact this
theorem Tryz.app5c {A id n len ver F : Nat} {c nc : List Value} {σ : St} (h0 : n ≠ 0) (hc : c.length = len) (h1 : len + n ≤ 1000000000) (h3 : nc.all (·.oneCell') = true) :
    appG Tryz.in5 A len 2 id n nc σ (some (.cells true ver F c)) = some (.val (.slice (some ⟨id, 0, none⟩) (len + n) 2) (((((σ.set A (.cells false ver F c)).set id (.cells true ver F (c ++ nc))).setFam F id).setHint A len).setHint id (len + nc.length))) := by
  subst hc; exact Tryz.app5 h0 h1 h3
/-- A slice that is read whole. -/
structure Piece (σ : St) (B o n : Nat) (c : List Value) : Prop where
  pos : n ≠ 0
  small : n < 100000000
  len : c.length = n
  one : c.all (·.oneCell') = true
  lt : B < σ.next
  get : ∃ own v F l, σ.get B = some (.cells own v F l) ∧ sub? l o n = some c ∧ F < σ.next ∧ (own = true ∨ σ.famO F = none)
def rdP (w : Bool) (fo : Option Nat) (τ : St) (v F : Nat) (l : List Value) (o n : Nat) : Option (List Value) := if w = true ∨ fo = none then sub? l o n else rdG τ (some (.cells w v F l)) o n
theorem rdG_P {w : Bool} {τ : St} {v F o n : Nat} {l : List Value} : rdG τ (some (.cells w v F l)) o n = rdP w (τ.famO F) τ v F l o n := by
  unfold rdP
  split
  · rename_i h
    rcases h with rfl | h
    · exact rdG_own
    · cases w with
      | true => exact rdG_own
      | false => exact rdG_ro h
  · rfl
theorem rdP_of {w : Bool} {fo : Option Nat} {τ : St} {v F o n : Nat} {l : List Value} (h : w = true ∨ fo = none) : rdP w fo τ v F l o n = sub? l o n := by unfold rdP; rw [if_pos h]
theorem Tryz.concat_tf {gl : List Nat} {L vL FL B1 B2 B3 B4 o1 o2 o3 o4 n1 n2 n3 n4 k1 k2 k3 k4 : Nat} {c1 c2 c3 c4 : List Value} (σ : St)
    (hL : σ.get L = some (.cells true vL FL [.slice (some ⟨B1, o1, none⟩) n1 k1, .slice (some ⟨B2, o2, none⟩) n2 k2, .slice (some ⟨B3, o3, none⟩) n3 k3, .slice (some ⟨B4, o4, none⟩) n4 k4])) (hLn : L < σ.next)
    (p1 : Piece σ B1 o1 n1 c1) (p2 : Piece σ B2 o2 n2 c2) (p3 : Piece σ B3 o3 n3 c3) (p4 : Piece σ B4 o4 n4 c4) :
    TF Tryz.prog gl 257 #[.slice (some ⟨L, 0, none⟩) 4 2] σ fun v σ' => ∃ id v1 F1, v = .slice (some ⟨id, 0, none⟩) (n1 + n2 + n3 + n4) 2 ∧ σ'.get id = some (.cells true v1 F1 (c1 ++ c2 ++ c3 ++ c4)) ∧ σ.next ≤ id ∧ id < σ'.next ∧ σ.next ≤ σ'.next ∧ σ.next ≤ F1 ∧ (∀ B, B < σ.next → σ'.get B = σ.get B) ∧ ∀ F, F < σ.next → σ'.famO F = σ.famO F := by
  refine TF.walk (Tryz.C0_ok gl) Tryz.mixedB Tryz.func257 (by kernel_rfl) rfl fun c hc => ?_
  cases hc
  simp (config := { maxSteps := 1000000 }) (disch := first | exact okQ_by (by kernel_rfl) | exact ordB_by (by kernel_rfl) | omega | assumption | (simp only [symE, List.all_cons, List.all_nil, Bool.and_true, Bool.and_self, List.length_cons, List.length_nil, Nat.reduceAdd, Nat.zero_add] <;> omega)) only [Tryz.f257, Tryz.C0_eq, symG, symA, symB, symC, symD, symE, Tryz.ty, ftR_some, Tryz.ftC_nil, Tryz.ftC_cons, List.getElem?_cons_zero, List.getElem?_cons_succ, List.length_cons, List.length_nil, List.map_cons, List.map_nil, List.nil_append, List.cons_append, List.append_nil, Option.map_some, Option.map_none, Nat.zero_add, Nat.add_zero, Nat.zero_mul, Nat.mul_one, Nat.one_mul, Nat.sub_zero, Int.toNat_natCast, reduceIte, Nat.reduceEqDiff, Nat.reduceAdd, Nat.reduceMul, Int.reduceToNat, clsOf, toArr_mk, if_true, if_false, Bool.not_true, Bool.not_false, Bool.false_eq_true]
  have e4 : ((4 : Nat) : Int) = 4 := rfl
  have m1 := p1.small
  have m2 := p2.small
  have m3 := p3.small
  have m4 := p4.small
  have r1 : ((n1 : Int) < 0) = False := eq_false (by omega)
  have r2 : ((n1 : Int) + (n2 : Int) < 0) = False := eq_false (by omega)
  have r3 : ((n1 : Int) + (n2 : Int) + (n3 : Int) < 0) = False := eq_false (by omega)
  have r4 : ((n1 : Int) + (n2 : Int) + (n3 : Int) + (n4 : Int) < 0) = False := eq_false (by omega)
  have ec : (n1 : Int) + (n2 : Int) + (n3 : Int) + (n4 : Int) = ((n1 + n2 + n3 + n4 : Nat) : Int) := by omega
  refine zLoop_step (Tryz.C0_ok gl) Tryz.mixedB (by kernel_rfl) ?_
  simp (config := { maxSteps := 1000000 }) (disch := first | exact okQ_by (by kernel_rfl) | exact ordB_by (by kernel_rfl) | omega | assumption | (simp only [symE, List.all_cons, List.all_nil, Bool.and_true, Bool.and_self, List.length_cons, List.length_nil, Nat.reduceAdd, Nat.zero_add] <;> omega)) only [Tryz.C0_eq, symG, symA, symB, symC, symD, symE, Tryz.ty, ftR_some, Tryz.ftC_nil, Tryz.ftC_cons, List.getElem?_cons_zero, List.getElem?_cons_succ, List.length_cons, List.length_nil, List.map_cons, List.map_nil, List.nil_append, List.cons_append, List.append_nil, Option.map_some, Option.map_none, Nat.zero_add, Nat.add_zero, Nat.zero_mul, Nat.mul_one, Nat.one_mul, Nat.sub_zero, Int.toNat_natCast, reduceIte, Nat.reduceEqDiff, Nat.reduceAdd, Nat.reduceMul, Int.reduceToNat, clsOf, toArr_mk, if_true, if_false, Bool.not_true, Bool.not_false, Bool.false_eq_true, Tryz.C0_eq, hL, e4, Int.reduceLT, decide_true, Int.zero_add, Int.reduceAdd, r1, r2, r3, r4, decide_false]
  refine zLoop_step (Tryz.C0_ok gl) Tryz.mixedB (by kernel_rfl) ?_
  simp (config := { maxSteps := 1000000 }) (disch := first | exact okQ_by (by kernel_rfl) | exact ordB_by (by kernel_rfl) | omega | assumption | (simp only [symE, List.all_cons, List.all_nil, Bool.and_true, Bool.and_self, List.length_cons, List.length_nil, Nat.reduceAdd, Nat.zero_add] <;> omega)) only [Tryz.C0_eq, symG, symA, symB, symC, symD, symE, Tryz.ty, ftR_some, Tryz.ftC_nil, Tryz.ftC_cons, List.getElem?_cons_zero, List.getElem?_cons_succ, List.length_cons, List.length_nil, List.map_cons, List.map_nil, List.nil_append, List.cons_append, List.append_nil, Option.map_some, Option.map_none, Nat.zero_add, Nat.add_zero, Nat.zero_mul, Nat.mul_one, Nat.one_mul, Nat.sub_zero, Int.toNat_natCast, reduceIte, Nat.reduceEqDiff, Nat.reduceAdd, Nat.reduceMul, Int.reduceToNat, clsOf, toArr_mk, if_true, if_false, Bool.not_true, Bool.not_false, Bool.false_eq_true, Tryz.C0_eq, hL, e4, Int.reduceLT, decide_true, Int.zero_add, Int.reduceAdd, r1, r2, r3, r4, decide_false]
  refine zLoop_step (Tryz.C0_ok gl) Tryz.mixedB (by kernel_rfl) ?_
  simp (config := { maxSteps := 1000000 }) (disch := first | exact okQ_by (by kernel_rfl) | exact ordB_by (by kernel_rfl) | omega | assumption | (simp only [symE, List.all_cons, List.all_nil, Bool.and_true, Bool.and_self, List.length_cons, List.length_nil, Nat.reduceAdd, Nat.zero_add] <;> omega)) only [Tryz.C0_eq, symG, symA, symB, symC, symD, symE, Tryz.ty, ftR_some, Tryz.ftC_nil, Tryz.ftC_cons, List.getElem?_cons_zero, List.getElem?_cons_succ, List.length_cons, List.length_nil, List.map_cons, List.map_nil, List.nil_append, List.cons_append, List.append_nil, Option.map_some, Option.map_none, Nat.zero_add, Nat.add_zero, Nat.zero_mul, Nat.mul_one, Nat.one_mul, Nat.sub_zero, Int.toNat_natCast, reduceIte, Nat.reduceEqDiff, Nat.reduceAdd, Nat.reduceMul, Int.reduceToNat, clsOf, toArr_mk, if_true, if_false, Bool.not_true, Bool.not_false, Bool.false_eq_true, Tryz.C0_eq, hL, e4, Int.reduceLT, decide_true, Int.zero_add, Int.reduceAdd, r1, r2, r3, r4, decide_false]
  refine zLoop_step (Tryz.C0_ok gl) Tryz.mixedB (by kernel_rfl) ?_
  simp (config := { maxSteps := 1000000 }) (disch := first | exact okQ_by (by kernel_rfl) | exact ordB_by (by kernel_rfl) | omega | assumption | (simp only [symE, List.all_cons, List.all_nil, Bool.and_true, Bool.and_self, List.length_cons, List.length_nil, Nat.reduceAdd, Nat.zero_add] <;> omega)) only [Tryz.C0_eq, symG, symA, symB, symC, symD, symE, Tryz.ty, ftR_some, Tryz.ftC_nil, Tryz.ftC_cons, List.getElem?_cons_zero, List.getElem?_cons_succ, List.length_cons, List.length_nil, List.map_cons, List.map_nil, List.nil_append, List.cons_append, List.append_nil, Option.map_some, Option.map_none, Nat.zero_add, Nat.add_zero, Nat.zero_mul, Nat.mul_one, Nat.one_mul, Nat.sub_zero, Int.toNat_natCast, reduceIte, Nat.reduceEqDiff, Nat.reduceAdd, Nat.reduceMul, Int.reduceToNat, clsOf, toArr_mk, if_true, if_false, Bool.not_true, Bool.not_false, Bool.false_eq_true, Tryz.C0_eq, hL, e4, Int.reduceLT, decide_true, Int.zero_add, Int.reduceAdd, r1, r2, r3, r4, decide_false]
  refine zLoop_step (Tryz.C0_ok gl) Tryz.mixedB (by kernel_rfl) ?_
  simp (config := { maxSteps := 1000000 }) (disch := first | exact okQ_by (by kernel_rfl) | exact ordB_by (by kernel_rfl) | omega | assumption | (simp only [symE, List.all_cons, List.all_nil, Bool.and_true, Bool.and_self, List.length_cons, List.length_nil, Nat.reduceAdd, Nat.zero_add] <;> omega)) only [Tryz.C0_eq, symG, symA, symB, symC, symD, symE, Tryz.ty, ftR_some, Tryz.ftC_nil, Tryz.ftC_cons, List.getElem?_cons_zero, List.getElem?_cons_succ, List.length_cons, List.length_nil, List.map_cons, List.map_nil, List.nil_append, List.cons_append, List.append_nil, Option.map_some, Option.map_none, Nat.zero_add, Nat.add_zero, Nat.zero_mul, Nat.mul_one, Nat.one_mul, Nat.sub_zero, Int.toNat_natCast, reduceIte, Nat.reduceEqDiff, Nat.reduceAdd, Nat.reduceMul, Int.reduceToNat, clsOf, toArr_mk, if_true, if_false, Bool.not_true, Bool.not_false, Bool.false_eq_true, Tryz.C0_eq, hL, e4, Int.reduceLT, decide_true, Int.zero_add, Int.reduceAdd, r1, r2, r3, r4, decide_false]
  have qaL : ∀ k, (σ.next + k = L) = False := fun k => eq_false (by have := hLn; omega)
  have qbL : ∀ k, (L = σ.next + k) = False := fun k => eq_false (by have := hLn; omega)
  have qaB1 : ∀ k, (σ.next + k = B1) = False := fun k => eq_false (by have := p1.lt; omega)
  have qbB1 : ∀ k, (B1 = σ.next + k) = False := fun k => eq_false (by have := p1.lt; omega)
  have qaB2 : ∀ k, (σ.next + k = B2) = False := fun k => eq_false (by have := p2.lt; omega)
  have qbB2 : ∀ k, (B2 = σ.next + k) = False := fun k => eq_false (by have := p2.lt; omega)
  have qaB3 : ∀ k, (σ.next + k = B3) = False := fun k => eq_false (by have := p3.lt; omega)
  have qbB3 : ∀ k, (B3 = σ.next + k) = False := fun k => eq_false (by have := p3.lt; omega)
  have qaB4 : ∀ k, (σ.next + k = B4) = False := fun k => eq_false (by have := p4.lt; omega)
  have qbB4 : ∀ k, (B4 = σ.next + k) = False := fun k => eq_false (by have := p4.lt; omega)
  obtain ⟨w1, v1, F1, l1, g1, t1, f1, o1r⟩ := p1.get
  have qf1 : ∀ k, (σ.next + k = F1) = False := fun k => eq_false (by omega)
  have h1 := p1.pos
  have a1 := p1.len
  have b1 := p1.one
  have rr1 : ∀ τ : St, rdG τ (some (.cells w1 v1 F1 l1)) o1 n1 = rdP w1 (τ.famO F1) τ v1 F1 l1 o1 n1 := fun τ => rdG_P
  have rs1 : ∀ τ : St, rdP w1 (σ.famO F1) τ v1 F1 l1 o1 n1 = some c1 := fun τ => by rw [rdP_of o1r, t1]
  obtain ⟨w2, v2, F2, l2, g2, t2, f2, o2r⟩ := p2.get
  have qf2 : ∀ k, (σ.next + k = F2) = False := fun k => eq_false (by omega)
  have h2 := p2.pos
  have a2 := p2.len
  have b2 := p2.one
  have rr2 : ∀ τ : St, rdG τ (some (.cells w2 v2 F2 l2)) o2 n2 = rdP w2 (τ.famO F2) τ v2 F2 l2 o2 n2 := fun τ => rdG_P
  have rs2 : ∀ τ : St, rdP w2 (σ.famO F2) τ v2 F2 l2 o2 n2 = some c2 := fun τ => by rw [rdP_of o2r, t2]
  obtain ⟨w3, v3, F3, l3, g3, t3, f3, o3r⟩ := p3.get
  have qf3 : ∀ k, (σ.next + k = F3) = False := fun k => eq_false (by omega)
  have h3 := p3.pos
  have a3 := p3.len
  have b3 := p3.one
  have rr3 : ∀ τ : St, rdG τ (some (.cells w3 v3 F3 l3)) o3 n3 = rdP w3 (τ.famO F3) τ v3 F3 l3 o3 n3 := fun τ => rdG_P
  have rs3 : ∀ τ : St, rdP w3 (σ.famO F3) τ v3 F3 l3 o3 n3 = some c3 := fun τ => by rw [rdP_of o3r, t3]
  obtain ⟨w4, v4, F4, l4, g4, t4, f4, o4r⟩ := p4.get
  have qf4 : ∀ k, (σ.next + k = F4) = False := fun k => eq_false (by omega)
  have h4 := p4.pos
  have a4 := p4.len
  have b4 := p4.one
  have rr4 : ∀ τ : St, rdG τ (some (.cells w4 v4 F4 l4)) o4 n4 = rdP w4 (τ.famO F4) τ v4 F4 l4 o4 n4 := fun τ => rdG_P
  have rs4 : ∀ τ : St, rdP w4 (σ.famO F4) τ v4 F4 l4 o4 n4 = some c4 := fun τ => by rw [rdP_of o4r, t4]
  have a12 : (c1 ++ c2).length = n1 + n2 := by simp; omega
  have a123 : (c1 ++ c2 ++ c3).length = n1 + (n2 + n3) := by simp; omega
  have hz0 : 0 < (zlist (n1 + (n2 + (n3 + n4)))).length := by rw [zlist_length]; omega
  rw [zTF_def, ec]
  refine (Tryz.grow_tf (n1 + n2 + n3 + n4) (by omega) (by omega) _).mono ?_
  rintro _ _ ⟨rfl, rfl⟩
  simp (config := { maxSteps := 1000000 }) (disch := first | exact okQ_by (by kernel_rfl) | exact ordB_by (by kernel_rfl) | omega | assumption | (simp only [symE, List.all_cons, List.all_nil, Bool.and_true, Bool.and_self, List.length_cons, List.length_nil, Nat.reduceAdd, Nat.zero_add] <;> omega)) only [Tryz.C0_eq, symG, symA, symB, symC, symD, symE, Tryz.ty, ftR_some, Tryz.ftC_nil, Tryz.ftC_cons, List.getElem?_cons_zero, List.getElem?_cons_succ, List.length_cons, List.length_nil, List.map_cons, List.map_nil, List.nil_append, List.cons_append, List.append_nil, Option.map_some, Option.map_none, Nat.zero_add, Nat.add_zero, Nat.zero_mul, Nat.mul_one, Nat.one_mul, Nat.sub_zero, Int.toNat_natCast, reduceIte, Nat.reduceEqDiff, Nat.reduceAdd, Nat.reduceMul, Int.reduceToNat, clsOf, toArr_mk, if_true, if_false, Bool.not_true, Bool.not_false, Bool.false_eq_true, Tryz.C0_eq, hL, Nat.add_assoc]
  refine zLoop_step (Tryz.C0_ok gl) Tryz.mixedB (by kernel_rfl) ?_
  simp (config := { maxSteps := 1000000 }) (disch := first | exact okQ_by (by kernel_rfl) | exact ordB_by (by kernel_rfl) | omega | assumption | (simp only [symE, List.all_cons, List.all_nil, Bool.and_true, Bool.and_self, List.length_cons, List.length_nil, Nat.reduceAdd, Nat.zero_add] <;> omega)) only [Tryz.C0_eq, symG, symA, symB, symC, symD, symE, Tryz.ty, ftR_some, Tryz.ftC_nil, Tryz.ftC_cons, List.getElem?_cons_zero, List.getElem?_cons_succ, List.length_cons, List.length_nil, List.map_cons, List.map_nil, List.nil_append, List.cons_append, List.append_nil, Option.map_some, Option.map_none, Nat.zero_add, Nat.add_zero, Nat.zero_mul, Nat.mul_one, Nat.one_mul, Nat.sub_zero, Int.toNat_natCast, reduceIte, Nat.reduceEqDiff, Nat.reduceAdd, Nat.reduceMul, Int.reduceToNat, clsOf, toArr_mk, if_true, if_false, Bool.not_true, Bool.not_false, Bool.false_eq_true, Tryz.C0_eq, hL, e4, Int.reduceLT, decide_true, Int.zero_add, Int.reduceAdd, Nat.add_assoc, Nat.add_left_cancel_iff, qaL, qbL, qaB1, qbB1, qaB2, qbB2, qaB3, qbB3, qaB4, qbB4, qf1, rr1, rs1, g1, qf2, rr2, rs2, g2, qf3, rr3, rs3, g3, qf4, rr4, rs4, g4, Tryz.app5at, Tryz.app5c, List.take_zero, decide_false]
  refine zLoop_step (Tryz.C0_ok gl) Tryz.mixedB (by kernel_rfl) ?_
  simp (config := { maxSteps := 1000000 }) (disch := first | exact okQ_by (by kernel_rfl) | exact ordB_by (by kernel_rfl) | omega | assumption | (simp only [symE, List.all_cons, List.all_nil, Bool.and_true, Bool.and_self, List.length_cons, List.length_nil, Nat.reduceAdd, Nat.zero_add] <;> omega)) only [Tryz.C0_eq, symG, symA, symB, symC, symD, symE, Tryz.ty, ftR_some, Tryz.ftC_nil, Tryz.ftC_cons, List.getElem?_cons_zero, List.getElem?_cons_succ, List.length_cons, List.length_nil, List.map_cons, List.map_nil, List.nil_append, List.cons_append, List.append_nil, Option.map_some, Option.map_none, Nat.zero_add, Nat.add_zero, Nat.zero_mul, Nat.mul_one, Nat.one_mul, Nat.sub_zero, Int.toNat_natCast, reduceIte, Nat.reduceEqDiff, Nat.reduceAdd, Nat.reduceMul, Int.reduceToNat, clsOf, toArr_mk, if_true, if_false, Bool.not_true, Bool.not_false, Bool.false_eq_true, Tryz.C0_eq, hL, e4, Int.reduceLT, decide_true, Int.zero_add, Int.reduceAdd, Nat.add_assoc, Nat.add_left_cancel_iff, qaL, qbL, qaB1, qbB1, qaB2, qbB2, qaB3, qbB3, qaB4, qbB4, qf1, rr1, rs1, g1, qf2, rr2, rs2, g2, qf3, rr3, rs3, g3, qf4, rr4, rs4, g4, Tryz.app5at, Tryz.app5c, List.take_zero, decide_false]
  refine zLoop_step (Tryz.C0_ok gl) Tryz.mixedB (by kernel_rfl) ?_
  simp (config := { maxSteps := 1000000 }) (disch := first | exact okQ_by (by kernel_rfl) | exact ordB_by (by kernel_rfl) | omega | assumption | (simp only [symE, List.all_cons, List.all_nil, Bool.and_true, Bool.and_self, List.length_cons, List.length_nil, Nat.reduceAdd, Nat.zero_add] <;> omega)) only [Tryz.C0_eq, symG, symA, symB, symC, symD, symE, Tryz.ty, ftR_some, Tryz.ftC_nil, Tryz.ftC_cons, List.getElem?_cons_zero, List.getElem?_cons_succ, List.length_cons, List.length_nil, List.map_cons, List.map_nil, List.nil_append, List.cons_append, List.append_nil, Option.map_some, Option.map_none, Nat.zero_add, Nat.add_zero, Nat.zero_mul, Nat.mul_one, Nat.one_mul, Nat.sub_zero, Int.toNat_natCast, reduceIte, Nat.reduceEqDiff, Nat.reduceAdd, Nat.reduceMul, Int.reduceToNat, clsOf, toArr_mk, if_true, if_false, Bool.not_true, Bool.not_false, Bool.false_eq_true, Tryz.C0_eq, hL, e4, Int.reduceLT, decide_true, Int.zero_add, Int.reduceAdd, Nat.add_assoc, Nat.add_left_cancel_iff, qaL, qbL, qaB1, qbB1, qaB2, qbB2, qaB3, qbB3, qaB4, qbB4, qf1, rr1, rs1, g1, qf2, rr2, rs2, g2, qf3, rr3, rs3, g3, qf4, rr4, rs4, g4, Tryz.app5at, Tryz.app5c, List.take_zero, decide_false]
  refine zLoop_step (Tryz.C0_ok gl) Tryz.mixedB (by kernel_rfl) ?_
  simp (config := { maxSteps := 1000000 }) (disch := first | exact okQ_by (by kernel_rfl) | exact ordB_by (by kernel_rfl) | omega | assumption | (simp only [symE, List.all_cons, List.all_nil, Bool.and_true, Bool.and_self, List.length_cons, List.length_nil, Nat.reduceAdd, Nat.zero_add] <;> omega)) only [Tryz.C0_eq, symG, symA, symB, symC, symD, symE, Tryz.ty, ftR_some, Tryz.ftC_nil, Tryz.ftC_cons, List.getElem?_cons_zero, List.getElem?_cons_succ, List.length_cons, List.length_nil, List.map_cons, List.map_nil, List.nil_append, List.cons_append, List.append_nil, Option.map_some, Option.map_none, Nat.zero_add, Nat.add_zero, Nat.zero_mul, Nat.mul_one, Nat.one_mul, Nat.sub_zero, Int.toNat_natCast, reduceIte, Nat.reduceEqDiff, Nat.reduceAdd, Nat.reduceMul, Int.reduceToNat, clsOf, toArr_mk, if_true, if_false, Bool.not_true, Bool.not_false, Bool.false_eq_true, Tryz.C0_eq, hL, e4, Int.reduceLT, decide_true, Int.zero_add, Int.reduceAdd, Nat.add_assoc, Nat.add_left_cancel_iff, qaL, qbL, qaB1, qbB1, qaB2, qbB2, qaB3, qbB3, qaB4, qbB4, qf1, rr1, rs1, g1, qf2, rr2, rs2, g2, qf3, rr3, rs3, g3, qf4, rr4, rs4, g4, Tryz.app5at, Tryz.app5c, List.take_zero, decide_false]
  refine zLoop_step (Tryz.C0_ok gl) Tryz.mixedB (by kernel_rfl) ?_
  simp (config := { maxSteps := 1000000 }) (disch := first | exact okQ_by (by kernel_rfl) | exact ordB_by (by kernel_rfl) | omega | assumption | (simp only [symE, List.all_cons, List.all_nil, Bool.and_true, Bool.and_self, List.length_cons, List.length_nil, Nat.reduceAdd, Nat.zero_add] <;> omega)) only [Tryz.C0_eq, symG, symA, symB, symC, symD, symE, Tryz.ty, ftR_some, Tryz.ftC_nil, Tryz.ftC_cons, List.getElem?_cons_zero, List.getElem?_cons_succ, List.length_cons, List.length_nil, List.map_cons, List.map_nil, List.nil_append, List.cons_append, List.append_nil, Option.map_some, Option.map_none, Nat.zero_add, Nat.add_zero, Nat.zero_mul, Nat.mul_one, Nat.one_mul, Nat.sub_zero, Int.toNat_natCast, reduceIte, Nat.reduceEqDiff, Nat.reduceAdd, Nat.reduceMul, Int.reduceToNat, clsOf, toArr_mk, if_true, if_false, Bool.not_true, Bool.not_false, Bool.false_eq_true, Tryz.C0_eq, hL, e4, Int.reduceLT, decide_true, Int.zero_add, Int.reduceAdd, Nat.add_assoc, Nat.add_left_cancel_iff, qaL, qbL, qaB1, qbB1, qaB2, qbB2, qaB3, qbB3, qaB4, qbB4, qf1, rr1, rs1, g1, qf2, rr2, rs2, g2, qf3, rr3, rs3, g3, qf4, rr4, rs4, g4, Tryz.app5at, Tryz.app5c, List.take_zero, decide_false]
  refine ⟨σ.next + 125, 1, σ.next + 79, rfl, if_pos rfl, by omega, by omega, by omega, by omega, fun B hB => ?_, fun F hF => ?_⟩ <;> repeat rw [if_neg (by omega)]
end Go.Proofs

namespace Go.Proofs
open Go Go.Ev
set_option maxRecDepth 100000
set_option linter.unusedSimpArgs false
set_option linter.unusedVariables false
set_option maxHeartbeats 4000000
def Tryz.sumN (ahead number : Nat) (l : List UInt8) : Nat := Tryz.crcN (fourL ahead ++ fourL number ++ twoL l.length ++ l) 4294967295 ^^^ 4294967295
theorem Piece.full {σ : St} {B v F n : Nat} {own : Bool} {l : List UInt8} (hg : σ.get B = some (.cells own v F (l.map byteV))) (hB : B < σ.next) (hF : F < σ.next) (ho : own = true ∨ σ.famO F = none) (hn : l.length = n) (h0 : n ≠ 0) (h1 : n < 100000000) : Piece σ B 0 n (l.map byteV) :=
  ⟨h0, h1, by simp [hn], by rw [List.all_eq_true]; intro v hv; obtain ⟨b, _, rfl⟩ := List.mem_map.1 hv; rfl, hB, own, v, F, l.map byteV, hg, sub_all (by simp [hn]), hF, ho⟩
theorem Tryz.sum_tf {F B k v FB : Nat} {own : Bool} (ahead number : Nat) (h1 : ahead < 4294967296) (h2 : number < 4294967296) (l : List UInt8) (hl : l.length ≤ 16384) (h0 : l ≠ []) (σ : St) (ht : Tryz.Tab F σ) (h3 : 3 < σ.next) (hF : F < σ.next)
    (hB : σ.get B = some (.cells own v FB (l.map byteV))) (hBn : B < σ.next) (hFB : FB < σ.next) (hro : own = true ∨ σ.famO FB = none) :
    TF Tryz.prog [3] 218 #[.int .u32 (ahead : Nat), .int .u32 (number : Nat), .slice (some ⟨B, 0, none⟩) l.length k] σ fun v σ' => v = .int .u32 (Tryz.sumN ahead number l : Nat) := by
  refine TF.walk (Tryz.C0_ok [3]) Tryz.mixedB Tryz.func218 (by kernel_rfl) rfl fun c hc => ?_
  cases hc
  have hl1 : ((16384 : Int) < (l.length : Int)) = False := eq_false (by omega)
  simp (config := { maxSteps := 1000000 }) (disch := first | exact okQ_by (by kernel_rfl) | exact ordB_by (by kernel_rfl) | omega | assumption | (simp only [symE, List.all_cons, List.all_nil, Bool.and_true, Bool.and_self, List.length_cons, List.length_nil, Nat.reduceAdd, Nat.zero_add] <;> omega)) only [Tryz.f218, Tryz.C0_eq, symG, symA, symB, symC, symD, symE, Tryz.ty, ftR_some, Tryz.ftC_nil, Tryz.ftC_cons, List.getElem?_cons_zero, List.getElem?_cons_succ, List.length_cons, List.length_nil, List.map_cons, List.map_nil, List.nil_append, List.cons_append, List.append_nil, Option.map_some, Option.map_none, Nat.zero_add, Nat.add_zero, Nat.zero_mul, Nat.mul_one, Nat.one_mul, Nat.sub_zero, Int.toNat_natCast, reduceIte, Nat.reduceEqDiff, Nat.reduceAdd, Nat.reduceMul, Int.reduceToNat, clsOf, toArr_mk, if_true, if_false, Bool.not_true, Bool.not_false, Bool.false_eq_true, hl1, decide_false]
  rw [zTF_def]
  refine (Tryz.four_tf ahead h1 _).mono ?_
  rintro _ _ ⟨rfl, rfl⟩
  simp (config := { maxSteps := 1000000 }) (disch := first | exact okQ_by (by kernel_rfl) | exact ordB_by (by kernel_rfl) | omega | assumption | (simp only [symE, List.all_cons, List.all_nil, Bool.and_true, Bool.and_self, List.length_cons, List.length_nil, Nat.reduceAdd, Nat.zero_add] <;> omega)) only [Tryz.C0_eq, symG, symA, symB, symC, symD, symE, Tryz.ty, ftR_some, Tryz.ftC_nil, Tryz.ftC_cons, List.getElem?_cons_zero, List.getElem?_cons_succ, List.length_cons, List.length_nil, List.map_cons, List.map_nil, List.nil_append, List.cons_append, List.append_nil, Option.map_some, Option.map_none, Nat.zero_add, Nat.add_zero, Nat.zero_mul, Nat.mul_one, Nat.one_mul, Nat.sub_zero, Int.toNat_natCast, reduceIte, Nat.reduceEqDiff, Nat.reduceAdd, Nat.reduceMul, Int.reduceToNat, clsOf, toArr_mk, if_true, if_false, Bool.not_true, Bool.not_false, Bool.false_eq_true, Tryz.C0_eq, Nat.add_assoc]
  rw [zTF_def]
  refine (Tryz.four_tf number h2 _).mono ?_
  rintro _ _ ⟨rfl, rfl⟩
  simp (config := { maxSteps := 1000000 }) (disch := first | exact okQ_by (by kernel_rfl) | exact ordB_by (by kernel_rfl) | omega | assumption | (simp only [symE, List.all_cons, List.all_nil, Bool.and_true, Bool.and_self, List.length_cons, List.length_nil, Nat.reduceAdd, Nat.zero_add] <;> omega)) only [Tryz.C0_eq, symG, symA, symB, symC, symD, symE, Tryz.ty, ftR_some, Tryz.ftC_nil, Tryz.ftC_cons, List.getElem?_cons_zero, List.getElem?_cons_succ, List.length_cons, List.length_nil, List.map_cons, List.map_nil, List.nil_append, List.cons_append, List.append_nil, Option.map_some, Option.map_none, Nat.zero_add, Nat.add_zero, Nat.zero_mul, Nat.mul_one, Nat.one_mul, Nat.sub_zero, Int.toNat_natCast, reduceIte, Nat.reduceEqDiff, Nat.reduceAdd, Nat.reduceMul, Int.reduceToNat, clsOf, toArr_mk, if_true, if_false, Bool.not_true, Bool.not_false, Bool.false_eq_true, Tryz.C0_eq, Nat.add_assoc]
  rw [zTF_def]
  refine (Tryz.two_tf l.length (by omega) _).mono ?_
  rintro _ _ ⟨rfl, rfl⟩
  simp (config := { maxSteps := 1000000 }) (disch := first | exact okQ_by (by kernel_rfl) | exact ordB_by (by kernel_rfl) | omega | assumption | (simp only [symE, List.all_cons, List.all_nil, Bool.and_true, Bool.and_self, List.length_cons, List.length_nil, Nat.reduceAdd, Nat.zero_add] <;> omega)) only [Tryz.C0_eq, symG, symA, symB, symC, symD, symE, Tryz.ty, ftR_some, Tryz.ftC_nil, Tryz.ftC_cons, List.getElem?_cons_zero, List.getElem?_cons_succ, List.length_cons, List.length_nil, List.map_cons, List.map_nil, List.nil_append, List.cons_append, List.append_nil, Option.map_some, Option.map_none, Nat.zero_add, Nat.add_zero, Nat.zero_mul, Nat.mul_one, Nat.one_mul, Nat.sub_zero, Int.toNat_natCast, reduceIte, Nat.reduceEqDiff, Nat.reduceAdd, Nat.reduceMul, Int.reduceToNat, clsOf, toArr_mk, if_true, if_false, Bool.not_true, Bool.not_false, Bool.false_eq_true, Tryz.C0_eq, Nat.add_assoc]
  rw [zTF_def]
  have hq : ∀ k, (σ.next + k = B) = False := fun k => eq_false (by omega)
  have hq3 : ∀ k, (σ.next + k = 3) = False := fun k => eq_false (by omega)
  have hpos : l.length ≠ 0 := by simpa using h0
  refine (Tryz.concat_tf (vL := 0) (FL := σ.next + 12) (k1 := 2) (k2 := 2) (k3 := 2) (k4 := k) (B1 := σ.next + 28) (B2 := σ.next + 42) (B3 := σ.next + 50) (B4 := B) (n4 := l.length) _ (by simp) (by simp)
    (Piece.full (own := true) (v := 0) (F := σ.next + 28) (n := 4) (l := fourL ahead) (by simp) (by simp) (by simp) (.inl rfl) rfl (by decide) (by decide))
    (Piece.full (own := true) (v := 0) (F := σ.next + 42) (n := 4) (l := fourL number) (by simp) (by simp) (by simp) (.inl rfl) rfl (by decide) (by decide))
    (Piece.full (own := true) (v := 0) (F := σ.next + 50) (n := 2) (l := twoL l.length) (by simp) (by simp) (by simp) (.inl rfl) rfl (by decide) (by decide))
    (Piece.full (own := own) (v := v) (F := FB) (l := l) (by simp [hq, hB]) (by simp; omega) (by simp; omega) (by simpa using hro) rfl hpos (by omega))).mono ?_
  rintro _ τ ⟨id, v1, F1, rfl, hg, h5, h6, h7, h8, h9, h10⟩
  simp (config := { maxSteps := 1000000 }) (disch := first | exact okQ_by (by kernel_rfl) | exact ordB_by (by kernel_rfl) | omega | assumption | (simp only [symE, List.all_cons, List.all_nil, Bool.and_true, Bool.and_self, List.length_cons, List.length_nil, Nat.reduceAdd, Nat.zero_add] <;> omega)) only [Tryz.C0_eq, symG, symA, symB, symC, symD, symE, Tryz.ty, ftR_some, Tryz.ftC_nil, Tryz.ftC_cons, List.getElem?_cons_zero, List.getElem?_cons_succ, List.length_cons, List.length_nil, List.map_cons, List.map_nil, List.nil_append, List.cons_append, List.append_nil, Option.map_some, Option.map_none, Nat.zero_add, Nat.add_zero, Nat.zero_mul, Nat.mul_one, Nat.one_mul, Nat.sub_zero, Int.toNat_natCast, reduceIte, Nat.reduceEqDiff, Nat.reduceAdd, Nat.reduceMul, Int.reduceToNat, clsOf, toArr_mk, if_true, if_false, Bool.not_true, Bool.not_false, Bool.false_eq_true, Nat.add_assoc]
  have hlen : 10 + l.length = (fourL ahead ++ fourL number ++ twoL l.length ++ l).length := by simp [fourL, twoL]; omega
  have hc : τ.cells? id = some ((fourL ahead ++ fourL number ++ twoL l.length ++ l).map byteV) := by
    unfold St.cells?; rw [hg]; simp [St.rd]
  have ht' : Tryz.Tab F τ := by
    refine ⟨?_, ?_⟩
    · rw [h9 3 (by simp <;> omega)]; simp [hq3, ht.get]
    · rw [h10 F (by simp <;> omega)]; simp [ht.fam]
  rw [zTF_def, hlen]
  refine (Tryz.crc_tf (F := F) _ (by omega) 2 τ ht' hc).mono ?_
  rintro _ τ' rfl
  simp (config := { maxSteps := 1000000 }) (disch := first | exact okQ_by (by kernel_rfl) | exact ordB_by (by kernel_rfl) | omega | assumption | (simp only [symE, List.all_cons, List.all_nil, Bool.and_true, Bool.and_self, List.length_cons, List.length_nil, Nat.reduceAdd, Nat.zero_add] <;> omega)) only [Tryz.C0_eq, symG, symA, symB, symC, symD, symE, Tryz.ty, ftR_some, Tryz.ftC_nil, Tryz.ftC_cons, List.getElem?_cons_zero, List.getElem?_cons_succ, List.length_cons, List.length_nil, List.map_cons, List.map_nil, List.nil_append, List.cons_append, List.append_nil, Option.map_some, Option.map_none, Nat.zero_add, Nat.add_zero, Nat.zero_mul, Nat.mul_one, Nat.one_mul, Nat.sub_zero, Int.toNat_natCast, reduceIte, Nat.reduceEqDiff, Nat.reduceAdd, Nat.reduceMul, Int.reduceToNat, clsOf, toArr_mk, if_true, if_false, Bool.not_true, Bool.not_false, Bool.false_eq_true, Tryz.sumN]
def Tryz.sealL (ahead number : Nat) (l : List UInt8) : List UInt8 := twoL l.length ++ fourL number ++ fourL (Tryz.sumN ahead number l) ++ l
theorem Tryz.sum_lt (ahead number : Nat) (l : List UInt8) : Tryz.sumN ahead number l < 4294967296 :=
  Nat.xor_lt_two_pow (n := 32) (Tryz.crc_lt _ _ (by decide)) (by decide)
/-- The table and bytes, seen in a great state. -/
def Tryz.roR (B o : Nat) (A : Nat) : Option (Nat × Nat) := if A = 3 then some (3, 0) else if A = 0 then some (B, o) else none
def Tryz.roB (l : List UInt8) : List (Nat × List Value) := [(3, Tryz.tabC), (0, l.map byteV)]
theorem Tryz.roB_tab (l : List UInt8) : Tryz.Tab 3 (roSt 1000 3 (Tryz.roB l)) := ⟨roSt_of (by simp [Tryz.roB]) (by simp [Tryz.roB]), roSt_famO⟩
theorem Tryz.roB_get (l : List UInt8) : (roSt 1000 3 (Tryz.roB l)).get 0 = some (.cells false 0 3 (l.map byteV)) := roSt_of (by simp [Tryz.roB]) (by simp [Tryz.roB])
theorem flat_bytes (l : List UInt8) : ∀ v ∈ l.map byteV, flatV v = true := fun v hv => by obtain ⟨b, _, rfl⟩ := List.mem_map.1 hv; rfl
theorem Tryz.flat_tab : ∀ v ∈ Tryz.tabC, flatV v = true := fun v hv => by obtain ⟨b, _, rfl⟩ := List.mem_map.1 hv; rfl
theorem Tryz.roB_view {σ : St} {l : List UInt8} {B o : Nat} {c : List Value} (hT : σ.cells? 3 = some Tryz.tabC) (hB : σ.cells? B = some c) (hs : (c.drop o).take l.length = l.map byteV) (ho : o + l.length ≤ c.length) :
    ∀ A B' d, Tryz.roR B o A = some (B', d) → ∃ c c', (A, c) ∈ Tryz.roB l ∧ σ.cells? B' = some c' ∧ CRen (Tryz.roR B o) d c c' := by
  intro A B' d h
  unfold Tryz.roR at h
  split at h
  · rename_i e; subst e; cases h
    exact ⟨Tryz.tabC, Tryz.tabC, by simp [Tryz.roB], hT, .flat (by simp) (by simp) Tryz.flat_tab⟩
  · split at h
    · rename_i e; subst e; cases h
      exact ⟨_, c, by simp [Tryz.roB], hB, .flat (by simpa using ho) (by simpa using hs) (flat_bytes l)⟩
    · cases h
theorem Tryz.sum_sim {σ : St} {B o k : Nat} {c : List Value} (ahead number : Nat) (h1 : ahead < 4294967296) (h2 : number < 4294967296) (l : List UInt8) (hl : l.length ≤ 16384) (h0 : l ≠ [])
    (hT : σ.cells? 3 = some Tryz.tabC) (hB : σ.cells? B = some c) (hs : (c.drop o).take l.length = l.map byteV) (ho : o + l.length ≤ c.length) :
    SimF Tryz.prog [3] 218 #[.int .u32 (ahead : Nat), .int .u32 (number : Nat), .slice (some ⟨B, o, none⟩) l.length k] σ (.int .u32 (Tryz.sumN ahead number l : Nat)) σ := by
  obtain ⟨v, σ', hsim, rfl⟩ := Tryz.sum_tf (F := 3) (B := 0) (k := k) ahead number h1 h2 l hl h0 (roSt 1000 3 (Tryz.roB l)) (Tryz.roB_tab l) (by rw [roSt_next]; decide) (by rw [roSt_next]; decide) (Tryz.roB_get l) (by rw [roSt_next]; decide) (by rw [roSt_next]; decide) (.inr roSt_famO)
  refine hsim.ro (ρ := Tryz.roR B o) (by simp [Tryz.roB]) (by simp [Tryz.roB]) ⟨Tryz.tabC, by simp [Tryz.roB]⟩ (Tryz.roB_view hT hB hs ho) ?_ ?_ (.flat rfl)
  · intro b hb
    have : b = 3 := by simpa using hb
    subst this; rfl
  · refine ⟨rfl, fun i h h' => ?_⟩
    have hi : i = 0 ∨ i = 1 ∨ i = 2 := by simp at h; omega
    rcases hi with rfl | rfl | rfl
    · exact .int _ _
    · exact .int _ _
    · have : VRen (Tryz.roR B o) (.slice (some ⟨0, 0, none⟩) l.length k) (.slice (some ⟨B, o + 0, none⟩) l.length k) := .slice 0 B o 0 _ _ (by simp [Tryz.roR])
      exact this
theorem Tryz.seal_tf {F B k v FB : Nat} {own : Bool} (ahead number : Nat) (h1 : ahead < 4294967296) (h2 : number < 4294967296) (l : List UInt8) (hl : l.length ≤ 16384) (h0 : l ≠ []) (σ : St) (ht : Tryz.Tab F σ) (h3 : 3 < σ.next) (hF : F < σ.next)
    (hB : σ.get B = some (.cells own v FB (l.map byteV))) (hBn : B < σ.next) (hFB : FB < σ.next) (hro : own = true ∨ σ.famO FB = none) :
    TF Tryz.prog [3] 217 #[.int .u32 (ahead : Nat), .int .u32 (number : Nat), .slice (some ⟨B, 0, none⟩) l.length k] σ fun v σ' => ∃ id v1 F1, v = .tuple #[.slice (some ⟨id, 0, none⟩) (10 + l.length) 2, .int .i64 0] ∧ σ'.get id = some (.cells true v1 F1 ((Tryz.sealL ahead number l).map byteV)) ∧ σ.next ≤ id := by
  refine TF.walk (Tryz.C0_ok [3]) Tryz.mixedB Tryz.func217 (by kernel_rfl) rfl fun c hc => ?_
  cases hc
  have hl1 : ((16384 : Int) < (l.length : Int)) = False := eq_false (by omega)
  simp (config := { maxSteps := 1000000 }) (disch := first | exact okQ_by (by kernel_rfl) | exact ordB_by (by kernel_rfl) | omega | assumption | (simp only [symE, List.all_cons, List.all_nil, Bool.and_true, Bool.and_self, List.length_cons, List.length_nil, Nat.reduceAdd, Nat.zero_add] <;> omega)) only [Tryz.f217, Tryz.C0_eq, symG, symA, symB, symC, symD, symE, Tryz.ty, ftR_some, Tryz.ftC_nil, Tryz.ftC_cons, List.getElem?_cons_zero, List.getElem?_cons_succ, List.length_cons, List.length_nil, List.map_cons, List.map_nil, List.nil_append, List.cons_append, List.append_nil, Option.map_some, Option.map_none, Nat.zero_add, Nat.add_zero, Nat.zero_mul, Nat.mul_one, Nat.one_mul, Nat.sub_zero, Int.toNat_natCast, reduceIte, Nat.reduceEqDiff, Nat.reduceAdd, Nat.reduceMul, Int.reduceToNat, clsOf, toArr_mk, if_true, if_false, Bool.not_true, Bool.not_false, Bool.false_eq_true, hl1, decide_false]
  rw [zTF_def]
  refine (Tryz.two_tf l.length (by omega) _).mono ?_
  rintro _ _ ⟨rfl, rfl⟩
  simp (config := { maxSteps := 1000000 }) (disch := first | exact okQ_by (by kernel_rfl) | exact ordB_by (by kernel_rfl) | omega | assumption | (simp only [symE, List.all_cons, List.all_nil, Bool.and_true, Bool.and_self, List.length_cons, List.length_nil, Nat.reduceAdd, Nat.zero_add] <;> omega)) only [Tryz.C0_eq, symG, symA, symB, symC, symD, symE, Tryz.ty, ftR_some, Tryz.ftC_nil, Tryz.ftC_cons, List.getElem?_cons_zero, List.getElem?_cons_succ, List.length_cons, List.length_nil, List.map_cons, List.map_nil, List.nil_append, List.cons_append, List.append_nil, Option.map_some, Option.map_none, Nat.zero_add, Nat.add_zero, Nat.zero_mul, Nat.mul_one, Nat.one_mul, Nat.sub_zero, Int.toNat_natCast, reduceIte, Nat.reduceEqDiff, Nat.reduceAdd, Nat.reduceMul, Int.reduceToNat, clsOf, toArr_mk, if_true, if_false, Bool.not_true, Bool.not_false, Bool.false_eq_true, Nat.add_assoc]
  rw [zTF_def]
  refine (Tryz.four_tf number h2 _).mono ?_
  rintro _ _ ⟨rfl, rfl⟩
  simp (config := { maxSteps := 1000000 }) (disch := first | exact okQ_by (by kernel_rfl) | exact ordB_by (by kernel_rfl) | omega | assumption | (simp only [symE, List.all_cons, List.all_nil, Bool.and_true, Bool.and_self, List.length_cons, List.length_nil, Nat.reduceAdd, Nat.zero_add] <;> omega)) only [Tryz.C0_eq, symG, symA, symB, symC, symD, symE, Tryz.ty, ftR_some, Tryz.ftC_nil, Tryz.ftC_cons, List.getElem?_cons_zero, List.getElem?_cons_succ, List.length_cons, List.length_nil, List.map_cons, List.map_nil, List.nil_append, List.cons_append, List.append_nil, Option.map_some, Option.map_none, Nat.zero_add, Nat.add_zero, Nat.zero_mul, Nat.mul_one, Nat.one_mul, Nat.sub_zero, Int.toNat_natCast, reduceIte, Nat.reduceEqDiff, Nat.reduceAdd, Nat.reduceMul, Int.reduceToNat, clsOf, toArr_mk, if_true, if_false, Bool.not_true, Bool.not_false, Bool.false_eq_true, Nat.add_assoc]
  have hq : ∀ k, (σ.next + k = B) = False := fun k => eq_false (by omega)
  have hq3 : ∀ k, (σ.next + k = 3) = False := fun k => eq_false (by omega)
  have hpos : l.length ≠ 0 := by simpa using h0
  rw [zTF_def]
  refine TF.of (Tryz.sum_sim (c := l.map byteV) ahead number h1 h2 l hl h0 ?_ ?_ (List.take_of_length_le (by simp)) (by simp)) ?_
  · simp [St.cells?, St.rd, hq3, ht.get, ht.fam]
  · simp only [St.cells?, St.rd, St.get_set, St.get_bump, hq, if_false, hB, St.famO_set, St.famO_bump]
    rcases hro with rfl | h
    · simp
    · simp [h]
  simp (config := { maxSteps := 1000000 }) (disch := first | exact okQ_by (by kernel_rfl) | exact ordB_by (by kernel_rfl) | omega | assumption | (simp only [symE, List.all_cons, List.all_nil, Bool.and_true, Bool.and_self, List.length_cons, List.length_nil, Nat.reduceAdd, Nat.zero_add] <;> omega)) only [Tryz.C0_eq, symG, symA, symB, symC, symD, symE, Tryz.ty, ftR_some, Tryz.ftC_nil, Tryz.ftC_cons, List.getElem?_cons_zero, List.getElem?_cons_succ, List.length_cons, List.length_nil, List.map_cons, List.map_nil, List.nil_append, List.cons_append, List.append_nil, Option.map_some, Option.map_none, Nat.zero_add, Nat.add_zero, Nat.zero_mul, Nat.mul_one, Nat.one_mul, Nat.sub_zero, Int.toNat_natCast, reduceIte, Nat.reduceEqDiff, Nat.reduceAdd, Nat.reduceMul, Int.reduceToNat, clsOf, toArr_mk, if_true, if_false, Bool.not_true, Bool.not_false, Bool.false_eq_true, Nat.add_assoc]
  rw [zTF_def]
  refine (Tryz.four_tf (Tryz.sumN ahead number l) (Tryz.sum_lt _ _ _) _).mono ?_
  rintro _ _ ⟨rfl, rfl⟩
  simp (config := { maxSteps := 1000000 }) (disch := first | exact okQ_by (by kernel_rfl) | exact ordB_by (by kernel_rfl) | omega | assumption | (simp only [symE, List.all_cons, List.all_nil, Bool.and_true, Bool.and_self, List.length_cons, List.length_nil, Nat.reduceAdd, Nat.zero_add] <;> omega)) only [Tryz.C0_eq, symG, symA, symB, symC, symD, symE, Tryz.ty, ftR_some, Tryz.ftC_nil, Tryz.ftC_cons, List.getElem?_cons_zero, List.getElem?_cons_succ, List.length_cons, List.length_nil, List.map_cons, List.map_nil, List.nil_append, List.cons_append, List.append_nil, Option.map_some, Option.map_none, Nat.zero_add, Nat.add_zero, Nat.zero_mul, Nat.mul_one, Nat.one_mul, Nat.sub_zero, Int.toNat_natCast, reduceIte, Nat.reduceEqDiff, Nat.reduceAdd, Nat.reduceMul, Int.reduceToNat, clsOf, toArr_mk, if_true, if_false, Bool.not_true, Bool.not_false, Bool.false_eq_true, Nat.add_assoc]
  rw [zTF_def]
  refine (Tryz.concat_tf (vL := 0) (FL := σ.next + 16) (k1 := 2) (k2 := 2) (k3 := 2) (k4 := k) (B1 := σ.next + 26) (B2 := σ.next + 40) (B3 := σ.next + 54) (B4 := B) (n4 := l.length) _ (by simp) (by simp)
    (Piece.full (own := true) (v := 0) (F := σ.next + 26) (n := 2) (l := twoL l.length) (by simp) (by simp) (by simp) (.inl rfl) rfl (by decide) (by decide))
    (Piece.full (own := true) (v := 0) (F := σ.next + 40) (n := 4) (l := fourL number) (by simp) (by simp) (by simp) (.inl rfl) rfl (by decide) (by decide))
    (Piece.full (own := true) (v := 0) (F := σ.next + 54) (n := 4) (l := fourL (Tryz.sumN ahead number l)) (by simp) (by simp) (by simp) (.inl rfl) rfl (by decide) (by decide))
    (Piece.full (own := own) (v := v) (F := FB) (l := l) (by simp [hq, hB]) (by simp; omega) (by simp; omega) (by simpa using hro) rfl hpos (by omega))).mono ?_
  rintro _ τ ⟨id, v1, F1, rfl, hg, h5, h6, h7, h8, h9, h10⟩
  simp (config := { maxSteps := 1000000 }) (disch := first | exact okQ_by (by kernel_rfl) | exact ordB_by (by kernel_rfl) | omega | assumption | (simp only [symE, List.all_cons, List.all_nil, Bool.and_true, Bool.and_self, List.length_cons, List.length_nil, Nat.reduceAdd, Nat.zero_add] <;> omega)) only [Tryz.C0_eq, symG, symA, symB, symC, symD, symE, Tryz.ty, ftR_some, Tryz.ftC_nil, Tryz.ftC_cons, List.getElem?_cons_zero, List.getElem?_cons_succ, List.length_cons, List.length_nil, List.map_cons, List.map_nil, List.nil_append, List.cons_append, List.append_nil, Option.map_some, Option.map_none, Nat.zero_add, Nat.add_zero, Nat.zero_mul, Nat.mul_one, Nat.one_mul, Nat.sub_zero, Int.toNat_natCast, reduceIte, Nat.reduceEqDiff, Nat.reduceAdd, Nat.reduceMul, Int.reduceToNat, clsOf, toArr_mk, if_true, if_false, Bool.not_true, Bool.not_false, Bool.false_eq_true, Nat.add_assoc]
  exact ⟨id, v1, F1, rfl, by rw [hg]; simp [Tryz.sealL], by simp at h5; omega⟩
/-- Sealing, anywhere: one new row. -/
theorem Tryz.seal_sim {σ : St} {B o k : Nat} {c : List Value} (ahead number : Nat) (h1 : ahead < 4294967296) (h2 : number < 4294967296) (l : List UInt8) (hl : l.length ≤ 16384) (h0 : l ≠ [])
    (hT : σ.cells? 3 = some Tryz.tabC) (hB : σ.cells? B = some c) (hs : (c.drop o).take l.length = l.map byteV) (ho : o + l.length ≤ c.length) :
    SimF Tryz.prog [3] 217 #[.int .u32 (ahead : Nat), .int .u32 (number : Nat), .slice (some ⟨B, o, none⟩) l.length k] σ (.tuple #[.slice (some ⟨σ.next, 0, none⟩) (10 + l.length) 2, .int .i64 0])
      ((σ.set σ.next (.cells true 0 σ.next ((Tryz.sealL ahead number l).map byteV))).bump 1) := by
  obtain ⟨v, σ', hsim, id, v1, F1, rfl, hg, hid⟩ := Tryz.seal_tf (F := 3) (B := 0) (k := k) ahead number h1 h2 l hl h0 (roSt 1000 3 (Tryz.roB l)) (Tryz.roB_tab l) (by rw [roSt_next]; decide) (by rw [roSt_next]; decide) (Tryz.roB_get l) (by rw [roSt_next]; decide) (by rw [roSt_next]; decide) (.inr roSt_famO)
  rw [roSt_next] at hid
  refine hsim.roNew (ρ := Tryz.roR B o) (by simp [Tryz.roB]) (by simp [Tryz.roB]) ⟨Tryz.tabC, by simp [Tryz.roB]⟩ (Tryz.roB_view hT hB hs ho) ?_ ?_ hid hg (flat_bytes _) ?_
  · intro b hb
    have : b = 3 := by simpa using hb
    subst this; rfl
  · refine ⟨rfl, fun i h h' => ?_⟩
    have hi : i = 0 ∨ i = 1 ∨ i = 2 := by simp at h; omega
    rcases hi with rfl | rfl | rfl
    · exact .int _ _
    · exact .int _ _
    · have : VRen (Tryz.roR B o) (.slice (some ⟨0, 0, none⟩) l.length k) (.slice (some ⟨B, o + 0, none⟩) l.length k) := .slice 0 B o 0 _ _ (by simp [Tryz.roR])
      exact this
  · refine .tuple _ _ rfl fun i h h' => ?_
    have hi : i = 0 ∨ i = 1 := by simp at h; omega
    rcases hi with rfl | rfl
    · have := VRen.slice (ρ := fun A => if A = id then some (σ.next, 0) else Tryz.roR B o A) id σ.next 0 0 (10 + l.length) 2 (by simp)
      exact this
    · exact .int _ _
end Go.Proofs

namespace Go.Proofs
open Go Go.Ev
set_option maxRecDepth 100000
set_option linter.unusedSimpArgs false
set_option linter.unusedVariables false
set_option maxHeartbeats 4000000
/-- One more 0 behind bytes that may be written. -/
noncomputable def pushZ (x : St × Value) : St × Value := match x with
  | (σ, .slice (some ⟨A, _, _⟩) len _) => match σ.get A with
    | some (.cells _ v F c) => ((((((((σ.bump 5).set (σ.next + 2) (.cells true 0 (σ.next + 2) [.int .u8 0])).set A (.cells false v F c)).set (σ.next + 3) (.cells true v F (c ++ [.int .u8 0]))).setFam F (σ.next + 3)).setHint A len).setHint (σ.next + 3) (len + 1)).bump 2, .slice (some ⟨σ.next + 3, 0, none⟩) (len + 1) 2)
    | _ => x
  | (σ, _) => ((((σ.bump 5).set (σ.next + 2) (.cells true 0 (σ.next + 2) [.int .u8 0])).set (σ.next + 3) (.cells true 0 (σ.next + 3) [.int .u8 0])).bump 2, .slice (some ⟨σ.next + 3, 0, none⟩) 1 2)
/-- Bytes that may be written. -/
def Ow (σ : St) (s : Value) (c : List Value) : Prop := (c = [] ∧ s = .slice none 0 0) ∨ ∃ A v F, s = .slice (some ⟨A, 0, none⟩) c.length 2 ∧ σ.get A = some (.cells true v F c) ∧ A < σ.next
theorem pushZ_nil {σ : St} : pushZ (σ, .slice none 0 0) = ((((σ.bump 5).set (σ.next + 2) (.cells true 0 (σ.next + 2) [.int .u8 0])).set (σ.next + 3) (.cells true 0 (σ.next + 3) [.int .u8 0])).bump 2, .slice (some ⟨σ.next + 3, 0, none⟩) 1 2) := rfl
theorem pushZ_own {σ : St} {A len v F : Nat} {c : List Value} (hA : σ.get A = some (.cells true v F c)) : pushZ (σ, .slice (some ⟨A, 0, none⟩) len 2) =
    ((((((((σ.bump 5).set (σ.next + 2) (.cells true 0 (σ.next + 2) [.int .u8 0])).set A (.cells false v F c)).set (σ.next + 3) (.cells true v F (c ++ [.int .u8 0]))).setFam F (σ.next + 3)).setHint A len).setHint (σ.next + 3) (len + 1)).bump 2, .slice (some ⟨σ.next + 3, 0, none⟩) (len + 1) 2) := by
  unfold pushZ; simp only [hA]
theorem pushZ_ow {σ : St} {s : Value} {c : List Value} (h : Ow σ s c) : Ow (pushZ (σ, s)).1 (pushZ (σ, s)).2 (c ++ [.int .u8 0]) := by
  rcases h with ⟨rfl, rfl⟩ | ⟨A, v, F, rfl, hA, hl⟩
  · rw [pushZ_nil]
    exact .inr ⟨σ.next + 3, 0, σ.next + 3, rfl, by simp, by simp⟩
  · rw [pushZ_own hA]
    exact .inr ⟨σ.next + 3, v, F, by simp, by simp, by simp⟩
/-- What a block holds stays, if it is no part of the bytes. -/
theorem pushZ_get {σ : St} {s : Value} {B : Nat} (hB : B < σ.next) (hne : ∀ A l k, s = .slice (some ⟨A, 0, none⟩) l k → A ≠ B) {c : List Value} (h : Ow σ s c) :
    (pushZ (σ, s)).1.get B = σ.get B ∧ σ.next ≤ (pushZ (σ, s)).1.next ∧ (∀ A l k, (pushZ (σ, s)).2 = .slice (some ⟨A, 0, none⟩) l k → A ≠ B) := by
  have e2 : ¬ (σ.next + 2 = B) := by omega
  have e3 : ¬ (σ.next + 3 = B) := by omega
  rcases h with ⟨rfl, rfl⟩ | ⟨A, v, F, rfl, hA, hl⟩
  · rw [pushZ_nil]
    refine ⟨by simp [e2, e3], by simp; omega, fun A l k e => ?_⟩
    cases e; omega
  · rw [pushZ_own hA]
    have := hne A _ _ rfl
    refine ⟨by simp [e2, e3, this], by simp; omega, fun A l k e => ?_⟩
    cases e; omega
noncomputable def pushZs : Nat → St × Value → St × Value
  | 0, x => x
  | n + 1, x => pushZs n (pushZ x)
theorem pushZs_succ : ∀ (n : Nat) (x : St × Value), pushZs (n + 1) x = pushZ (pushZs n x)
  | 0, _ => rfl
  | n + 1, x => pushZs_succ n (pushZ x)
/-- Bytes laid over others that may be written. -/
noncomputable def layAt (σ : St) (s : Value) (at' : Nat) (cB : List Value) : St := match s with
  | .slice (some ⟨A, _, _⟩) _ _ => match σ.get A with
    | some (.cells _ v F c) => σ.set A (.cells true (v + 1) F (lay c at' cB))
    | _ => σ
  | _ => σ
theorem Tryz.copy32 {A B o o2 m n k k2 v F vB FB : Nat} {c lb cB : List Value} {σ : St} (hA : σ.get A = some (.cells true v F c)) (hB : σ.get B = some (.cells true vB FB lb)) (hsub : sub? lb o2 n = some cB) (hsz : cB.length = n) (hn : n ≠ 0) (hm : n ≤ m) (ho : o + n ≤ c.length) (h1 : cB.all (·.oneCell') = true) :
    opCopy Tryz.prog 32 (.slice (some ⟨A, o, none⟩) m k) (.slice (some ⟨B, o2, none⟩) n k2) σ = some (.val (.int .i64 (n : Nat)) (σ.set A (.cells true (v + 1) F (lay c o cB)))) := by
  have e1 : Nat.min n m = n := Nat.min_eq_left hm
  have e2 : σ.read? B o2 (n * 1) = some cB := by rw [Nat.mul_one, read_get, hB, rdG_own, hsub]
  have e3 : layInto A o cB σ = some (σ.set A (.cells true (v + 1) F (lay c o cB))) := by
    unfold layInto; rw [hA]; simp only; rw [if_pos ⟨by omega, h1⟩]
  simp only [opCopy, Tryz.u32, Tryz.s5, len?, e1, if_neg hn, src?, Nat.le_refl, if_true, e2, e3]
theorem Tryz.over_tf {gl : List Nat} {at' B o k n vB FB : Nat} {s : Value} {c cB lb : List Value} (hat : at' ≤ c.length) (hn : n ≠ 0) (hl : c.length + n < 100000000) (σ : St) (hA : Ow σ s c)
    (hB : σ.get B = some (.cells true vB FB lb)) (hBn : B < σ.next) (hsub : sub? lb o n = some cB) (hne : ∀ A l k, s = .slice (some ⟨A, 0, none⟩) l k → A ≠ B) (hsz : cB.length = n) (hone : cB.all (·.oneCell') = true) :
    TF Tryz.prog gl 171 #[s, .int .i64 (at' : Nat), .slice (some ⟨B, o, none⟩) n k] σ fun v σ' => v = (pushZs (at' + n - c.length) (σ.bump 13, s)).2 ∧ σ' = (layAt ((pushZs (at' + n - c.length) (σ.bump 13, s)).1.bump 6) (pushZs (at' + n - c.length) (σ.bump 13, s)).2 at' cB).bump 2 := by
  refine TF.walk (Tryz.C0_ok gl) Tryz.mixedB Tryz.func171 (by kernel_rfl) rfl fun c hc => ?_
  cases hc
  have h1 : ((n : Int) = 0) = False := eq_false (by omega)
  obtain ⟨l0, k0, hs⟩ : ∃ b0 k0, s = .slice b0 c.length k0 := by
    rcases hA with ⟨rfl, rfl⟩ | ⟨A, v, F, rfl, _, _⟩
    · exact ⟨_, _, rfl⟩
    · exact ⟨_, _, rfl⟩
  have hs' := hs
  generalize hd : at' + n - c.length = d
  have hmax : max ((at' : Int) + (n : Int) - (c.length : Int)) 0 = (d : Int) := by omega
  rw [hs]
  simp (config := { maxSteps := 1000000 }) (disch := first | exact okQ_by (by kernel_rfl) | exact ordB_by (by kernel_rfl) | omega | assumption | (simp only [symE, List.all_cons, List.all_nil, Bool.and_true, Bool.and_self, List.length_cons, List.length_nil, Nat.reduceAdd, Nat.zero_add] <;> omega)) only [Tryz.f171, Tryz.C0_eq, symG, symA, symB, symC, symD, symE, Tryz.ty, ftR_some, Tryz.ftC_nil, Tryz.ftC_cons, List.getElem?_cons_zero, List.getElem?_cons_succ, List.length_cons, List.length_nil, List.map_cons, List.map_nil, List.nil_append, List.cons_append, List.append_nil, Option.map_some, Option.map_none, Nat.zero_add, Nat.add_zero, Nat.zero_mul, Nat.mul_one, Nat.one_mul, Nat.sub_zero, Int.toNat_natCast, reduceIte, Nat.reduceEqDiff, Nat.reduceAdd, Nat.reduceMul, Int.reduceToNat, clsOf, toArr_mk, if_true, if_false, Bool.not_true, Bool.not_false, Bool.false_eq_true, h1, decide_false, hmax]
  rw [← hs]
  refine zLoop_ind (Tryz.C0_ok gl) Tryz.mixedB (fun kk env τ => ∃ i s' ca, i + kk = d ∧ (τ, s') = pushZs i (σ.bump 13, s) ∧ Ow τ s' (c ++ ca) ∧ ca.length = i ∧ τ.get B = some (.cells true vB FB lb) ∧ B < τ.next ∧ (∀ A l k, s' = .slice (some ⟨A, 0, none⟩) l k → A ≠ B) ∧
      eget env 0 = s' ∧ eget env 1 = .int .i64 (at' : Nat) ∧ eget env 2 = .slice (some ⟨B, o, none⟩) n k ∧ eget env 18 = .int .i64 (d : Nat) ∧ eget env 19 = .int .i64 (i : Nat)) (n := d) (by kernel_rfl) ?_ ?_
  · refine ⟨0, s, [], by omega, rfl, ?_, rfl, hB, Nat.lt_of_lt_of_le hBn (Nat.le_add_right _ _), hne, ?_, ?_, ?_, ?_, ?_⟩
    · rw [List.append_nil]
      rcases hA with h | ⟨A, v, F, h1, h2, h3⟩
      · exact .inl h
      · exact .inr ⟨A, v, F, h1, h2, Nat.lt_of_lt_of_le h3 (Nat.le_add_right _ _)⟩
    all_goals simp [eget_eput]
  rintro kk env τ ⟨i, s', ca, hi, hp, hO, hca, hB', hBn', hne', e0, e1, e2, e18, e19⟩
  have hpp := hO
  cases kk with
  | zero =>
    have hlt : ((i : Int) < (d : Int)) = False := eq_false (by omega)
    have hid : i = d := by omega
    subst hid
    have hlen : (c ++ ca).length = c.length + i := by simp [hca]
    rcases hO with ⟨hnil, _⟩ | ⟨A2, v2, F2, rfl, hg, hl2⟩
    · rw [hnil] at hlen; simp at hlen; omega
    rw [hlen] at e0
    have hcp : ∀ j, opCopy Tryz.prog 32 (.slice (some ⟨A2, at', none⟩) (c.length + i - at') 2) (.slice (some ⟨B, o, none⟩) n k) (τ.bump j) = some (.val (.int .i64 (n : Nat)) ((τ.bump j).set A2 (.cells true (v2 + 1) F2 (lay (c ++ ca) at' cB)))) := fun j =>
      Tryz.copy32 (σ := τ.bump j) hg hB' hsub hsz hn (by omega) (by rw [hlen]; omega) hone
    simp (config := { maxSteps := 1000000 }) (disch := first | exact okQ_by (by kernel_rfl) | exact ordB_by (by kernel_rfl) | omega | assumption | (simp only [symE, List.all_cons, List.all_nil, Bool.and_true, Bool.and_self, List.length_cons, List.length_nil, Nat.reduceAdd, Nat.zero_add] <;> omega)) only [Tryz.C0_eq, symG, symA, symB, symC, symD, symE, Tryz.ty, ftR_some, Tryz.ftC_nil, Tryz.ftC_cons, List.getElem?_cons_zero, List.getElem?_cons_succ, List.length_cons, List.length_nil, List.map_cons, List.map_nil, List.nil_append, List.cons_append, List.append_nil, Option.map_some, Option.map_none, Nat.zero_add, Nat.add_zero, Nat.zero_mul, Nat.mul_one, Nat.one_mul, Nat.sub_zero, Int.toNat_natCast, reduceIte, Nat.reduceEqDiff, Nat.reduceAdd, Nat.reduceMul, Int.reduceToNat, clsOf, toArr_mk, if_true, if_false, Bool.not_true, Bool.not_false, Bool.false_eq_true, e0, e1, e2, e18, e19, hlt, decide_false, hcp]
    rw [← hp]
    refine ⟨by rw [hlen], ?_⟩
    simp [layAt, hg]
  | succ kk =>
    have hlt : ((i : Int) < (d : Int)) = True := eq_true (by omega)
    have hlen : (c ++ ca).length = c.length + i := by simp [hca]
    have hgo := pushZ_get hBn' hne' hO
    have how := pushZ_ow hO
    have hps : pushZs (i + 1) (σ.bump 13, s) = pushZ (τ, s') := by rw [pushZs_succ, ← hp]
    rw [List.append_assoc] at how
    rcases hO with ⟨hnil, rfl⟩ | ⟨A2, v2, F2, rfl, hg, hl2⟩
    · simp (config := { maxSteps := 1000000 }) (disch := first | exact okQ_by (by kernel_rfl) | exact ordB_by (by kernel_rfl) | omega | assumption | (simp only [symE, List.all_cons, List.all_nil, Bool.and_true, Bool.and_self, List.length_cons, List.length_nil, Nat.reduceAdd, Nat.zero_add] <;> omega)) only [Tryz.C0_eq, symG, symA, symB, symC, symD, symE, Tryz.ty, ftR_some, Tryz.ftC_nil, Tryz.ftC_cons, List.getElem?_cons_zero, List.getElem?_cons_succ, List.length_cons, List.length_nil, List.map_cons, List.map_nil, List.nil_append, List.cons_append, List.append_nil, Option.map_some, Option.map_none, Nat.zero_add, Nat.add_zero, Nat.zero_mul, Nat.mul_one, Nat.one_mul, Nat.sub_zero, Int.toNat_natCast, reduceIte, Nat.reduceEqDiff, Nat.reduceAdd, Nat.reduceMul, Int.reduceToNat, clsOf, toArr_mk, if_true, if_false, Bool.not_true, Bool.not_false, Bool.false_eq_true, e0, e1, e2, e18, e19, hlt, decide_true, Tryz.nil5]
      rw [pushZ_nil] at hps hgo how
      exact ⟨kk, by omega, i + 1, _, ca ++ [.int .u8 0], by omega, hps.symm, how, by simp [hca], by rw [if_neg (by omega), if_neg (by omega)]; exact hB', Nat.lt_of_lt_of_le hBn' hgo.2.1, hgo.2.2, rfl, trivial, trivial, trivial, by simp⟩
    · have q1 : ∀ k, (τ.next + k = A2) = False := fun k => eq_false (by omega)
      rw [hlen] at e0
      simp (config := { maxSteps := 1000000 }) (disch := first | exact okQ_by (by kernel_rfl) | exact ordB_by (by kernel_rfl) | omega | assumption | (simp only [symE, List.all_cons, List.all_nil, Bool.and_true, Bool.and_self, List.length_cons, List.length_nil, Nat.reduceAdd, Nat.zero_add] <;> omega)) only [Tryz.C0_eq, symG, symA, symB, symC, symD, symE, Tryz.ty, ftR_some, Tryz.ftC_nil, Tryz.ftC_cons, List.getElem?_cons_zero, List.getElem?_cons_succ, List.length_cons, List.length_nil, List.map_cons, List.map_nil, List.nil_append, List.cons_append, List.append_nil, Option.map_some, Option.map_none, Nat.zero_add, Nat.add_zero, Nat.zero_mul, Nat.mul_one, Nat.one_mul, Nat.sub_zero, Int.toNat_natCast, reduceIte, Nat.reduceEqDiff, Nat.reduceAdd, Nat.reduceMul, Int.reduceToNat, clsOf, toArr_mk, if_true, if_false, Bool.not_true, Bool.not_false, Bool.false_eq_true, e0, e1, e2, e18, e19, hlt, decide_true, Tryz.app5c, Nat.add_assoc, q1, hg]
      rw [pushZ_own hg, hlen] at hps hgo how
      exact ⟨kk, by omega, i + 1, _, ca ++ [.int .u8 0], by omega, hps.symm, how, by simp [hca], by have := hne' _ _ _ rfl; rw [if_neg (by omega), if_neg this, if_neg (by omega)]; exact hB', Nat.lt_of_lt_of_le hBn' hgo.2.1, hgo.2.2, rfl, trivial, trivial, trivial, by simp⟩
end Go.Proofs
