/-
  The evaluator and the contracts, merged out of 12 texts (Ev24 to Ev33). No condition.
-/
import Derived.Test.YtedojhheppepdaaGreatDoorKEv13TEv23
import Derived.Lib.Repeat
import Derived.RangeFuncLeaves
import Derived.RangeFuncRecord

namespace Go.Ev
open Go
set_option linter.unusedVariables false
set_option linter.unusedSimpArgs false
section
variable {P : Program} {gl : List Nat} {W : List (Nat × Src)} {K : List Nat} {i n : Nat} {env : XEnv} {L : List XV}

theorem lenK_eq : ∀ (l : List UInt8) (acc : Nat) (k : Nat → R), lenK l acc k = k (acc + l.length)
  | [], acc, k => rfl
  | _ :: l, acc, k => by
    show forceN (Nat.add acc 1) (fun acc => lenK l acc k) = _
    rw [forceN_eq, lenK_eq l]
    congr 1
    simp only [List.length_cons]
    show acc + 1 + l.length = _
    omega
theorem lenS_ok {c : Call} {t : TypeId} {x : Operand} {o : Oper} (ho : o.op = .call c) (hf : c.callee = .builtin .len) (ht : c.argTypes.toList = [t]) (hx0 : c.args.toList = [x]) {str : Bool}
    (hu : match str with | true => P.underlying t = some .string | false => ∃ e, P.underlying t = some (.slice e)) {a : XArg} (ha : resolve W K i x = some a) : InsOk P gl W K i n o (iLen str a) := by
  refine .of fun env L base σ k r e => ?_
  have hx : rhoX W K i env L x = (a.get env L).out := rhoX_eq ha
  unfold iLen at e
  generalize a.get env L = xa at e hx
  split at e
  · rename_i s
    rw [lenK_eq, Nat.zero_add, Array.length_toList] at e
    refine ⟨_, σ, one_run (x := x) (vx := .string s) ?_ hx rfl rfl fun ρ' w h => ?_, e⟩
    · rw [ho]
      have : x ∈ c.args := by rw [← Array.mem_toList_iff, hx0]; simp
      simp only [Op.operands]
      simp [Call.operands, hf, this]
    · have e1 : c.args = #[x] := by rw [← Array.toArray_toList (xs := c.args), hx0]
      have e2 : c.argTypes = #[t] := by rw [← Array.toArray_toList (xs := c.argTypes), ht]
      have hu : P.underlying t = some .string := hu
      simp [execOp, ho, Go.resolve, hf, e1, e2, h, invoke, builtin, Builtin.len_, rU w hu, XV.out, goInt, kindOf]
  · rename_i A l cap
    refine ⟨_, σ, .inl ?_, e⟩
    obtain ⟨e', hu⟩ : ∃ e', P.underlying t = some (.slice e') := hu
    have hx' : rhoX W K i env L x = .slice A l cap := hx
    unfold evalOp
    rw [ho]
    simp only [hf, ht, hx0, hu, hx', opLen, valOf]
    rfl
  · cases e
theorem byteN_eq (s : ByteArray) (j : Nat) (h : j < s.size) : (s.get! j).toNat = byteN s j := by
  obtain ⟨⟨l⟩⟩ := s
  have hl : j < l.length := h
  have e : ∀ (l : List UInt8) (j : Nat) (h : j < l.length), (l[j]).toNat = byteN ⟨⟨l⟩⟩ j := by
    intro l
    induction l with
    | nil => intro j h; simp at h
    | cons b l ih =>
      intro j h
      cases j with
      | zero => rfl
      | succ j => exact ih j (by simpa using h)
  rw [← e l j hl]
  have : (ByteArray.mk ⟨l⟩).get! j = l[j] := by
    show (Array.mk l)[j]! = _
    rw [getElem!_pos (Array.mk l) j (by simpa using hl)]
    rfl
  rw [this]
theorem byteN_get (s : ByteArray) (j : Nat) (h : j < s.size) : (s[j]'h).toNat = byteN s j := by
  rw [← byteN_eq s j h]
  congr 1
  obtain ⟨⟨l⟩⟩ := s
  have hl : j < l.length := h
  show l[j] = (Array.mk l)[j]!
  rw [getElem!_pos (Array.mk l) j (by simpa using hl)]
  rfl
theorem decode_small (s : ByteArray) (j : Nat) (h : j < s.size) (hb : byteN s j < 128) : Utf8.decode s j = (byteN s j, 1) := by
  unfold Utf8.decode
  have : (s.get! (j + 0)).toNat = byteN s j := by rw [Nat.add_zero]; exact byteN_eq s j h
  simp only [this]
  rw [if_pos hb]
theorem next_ok {x : Operand} {o : Oper} (ho : o.op = .next x true) {a : XArg} (ha : resolve W K i x = some a) : InsOk P gl W K i n o (iNext a) := by
  refine .of fun env L base σ k r e => ?_
  have hx : rhoX W K i env L x = (a.get env L).out := rhoX_eq ha
  unfold iNext at e
  generalize a.get env L = xa at e hx
  split at e
  · rename_i A
    have hx' : rhoX W K i env L x = .pointer (some ⟨A, 0, none⟩) := hx
    split at e
    · rename_i s pos hA
      rw [blk_eq] at hA
      have key : ∀ v σ', opNext true (.pointer (some ⟨A, 0, none⟩)) σ = some (.val v σ') → evalOp P (rhoX W K i env L) (base + n) o σ = some (.val v σ') := fun v σ' hv => by
        unfold evalOp; rw [ho]; simp only [hx', hv]
      cases hlt : Nat.blt pos s.size with
      | false =>
        rw [hlt] at e
        simp only [cond_false] at e
        refine ⟨_, σ, .inl (key _ _ ?_), e⟩
        have : ¬ pos < s.size := fun hh => by rw [← Nat.blt_eq, hlt] at hh; cases hh
        simp only [opNext, hA, if_neg this]; rfl
      | true =>
        rw [hlt] at e
        have hlt : pos < s.size := by rw [Nat.blt_eq] at hlt; exact hlt
        simp only [cond_true, forceN_eq] at e
        cases hb : Nat.blt (byteN s pos) 128 with
        | true =>
          rw [hb] at e
          have hb : byteN s pos < 128 := by rw [Nat.blt_eq] at hb; exact hb
          simp only [cond_true, setBlk_eq] at e
          refine ⟨_, _, .inl (key _ _ ?_), e⟩
          simp only [opNext, hA, if_pos hlt, decode_small s pos hlt hb]; rfl
        | false =>
          rw [hb] at e
          simp only [cond_false, setBlk_eq] at e
          refine ⟨_, _, .inl (key _ _ ?_), e⟩
          simp only [opNext, hA, if_pos hlt]; rfl
    · cases e
  · cases e

theorem conv_ok {src dst : TypeId} {kd : IntKind} {x : Operand} {o : Oper} (ho : o.op = .convert src dst x) (hs : isInt P src = true) (hd : P.underlying dst = some (.int kd)) {a : XArg} (ha : resolve W K i x = some a) : InsOk P gl W K i n o (iConv (codeOf kd) a) := by
  refine .of fun env L base σ k r e => ?_
  have hx : rhoX W K i env L x = (a.get env L).out := rhoX_eq ha
  have hs2 : (P.underlying src).isSome = true := by
    unfold isInt at hs; split at hs
    · rename_i h; rw [h]; rfl
    · cases hs
  have key : ∀ (kk : IntKind) (m : Int), (a.get env L).out = .int kk m → StepR P gl (rhoX W K i env L) (base + n) o σ (.int kd (kd.wrap m)) σ := fun kk m he => by
    refine one_run (x := x) (vx := .int kk m) (by rw [ho]; simp [Op.operands]) (hx.trans he) rfl rfl fun ρ' w h => ?_
    have : (convert src dst (.int kk m)).run P w = .ok (.int kd (kd.wrap m)) w := by
      unfold isInt at hs
      split at hs
      · rename_i q hq
        simp [convert, rU w hq, rU w hd, Conv.intToInt]
      · cases hs
    simp only [execOp, ho, h, Sem.run_bind, this, Result.andThen_ok, Sem.run_pure]
  unfold iConv at e
  generalize hxa : a.get env L = xa at e key
  split at e
  · rename_i c m
    have hk := key _ _ rfl
    cases hlt : Nat.blt m (limN (codeOf kd)) with
    | true =>
      rw [hlt] at e
      have hlt : m < limN (codeOf kd) := by rw [Nat.blt_eq] at hlt; exact hlt
      refine ⟨.nat (codeOf kd) m, σ, ?_, e⟩
      have := wrap_small _ _ hlt
      rw [kindOf_codeOf] at this
      rw [this] at hk
      simpa [XV.out, kindOf_codeOf] using hk
    | false =>
      rw [hlt] at e
      simp only [cond_false, retI_eq, kindOf_codeOf] at e
      exact ⟨_, σ, by rw [xvOf_out]; exact hk, e⟩
  · rename_i kk m
    simp only [retI_eq, kindOf_codeOf] at e
    exact ⟨_, σ, by rw [xvOf_out]; exact key _ _ rfl, e⟩
  · cases e
theorem idxS_ok {t : TypeId} {x y : Operand} {o : Oper} (ho : o.op = .index t x y) (ht : P.underlying t = some .string) {a b : XArg} (ha : resolve W K i x = some a) (hb : resolve W K i y = some b) : InsOk P gl W K i n o (iIdxS a b) := by
  refine .of fun env L base σ k r e => ?_
  have hx : rhoX W K i env L x = (a.get env L).out := rhoX_eq ha
  have hy : rhoX W K i env L y = (b.get env L).out := rhoX_eq hb
  unfold iIdxS at e
  generalize a.get env L = xa at e hx
  generalize b.get env L = xb at e hy
  split at e
  · rename_i s c j
    cases hlt : Nat.blt j s.size with
    | false => rw [hlt] at e; cases e
    | true =>
      rw [hlt] at e
      have hlt : j < s.size := by rw [Nat.blt_eq] at hlt; exact hlt
      simp only [cond_true, retN_eq] at e
      refine ⟨_, σ, two_run (x := x) (y := y) (by rw [ho]; simp [Op.operands]) (by rw [ho]; simp [Op.operands]) hx hy rfl rfl rfl fun ρ' w h1 h2 => ?_, e⟩
      simp only [execOp, ho, h1, h2, XV.out]
      simp [Instr.index, rU w ht, asIntOf, kindOf, hlt, byteN_get]
  · cases e
theorem int_self' {g : Gam} {k : IntKind} {n : Int} : VRel g (.int k n) (.int k n) := .int k n
theorem bitsN_eq : ∀ c, bitsN c = (kindOf c).bits
  | 0 | 1 | 2 | 3 | 4 | 5 | 6 | _ + 7 => rfl
theorem limN_pow : ∀ c, ∃ p, limN c = 2 ^ p ∧ p ≤ (kindOf c).bits
  | 0 => ⟨63, rfl, by decide⟩
  | 1 => ⟨8, rfl, by decide⟩
  | 2 => ⟨31, rfl, by decide⟩
  | 3 => ⟨32, rfl, by decide⟩
  | 4 => ⟨64, rfl, by decide⟩
  | 5 => ⟨16, rfl, by decide⟩
  | 6 => ⟨15, rfl, by decide⟩
  | _ + 7 => ⟨7, rfl, by show (7 : Nat) ≤ 8; decide⟩
theorem shf_ok {op : BinOp} {t yt : TypeId} {x y : Operand} {o : Oper} {left : Bool} (ho : o.op = .binOp op t x y yt) (hop : op = if left then .shl else .shr) {a b : XArg} (ha : resolve W K i x = some a) (hb : resolve W K i y = some b) : InsOk P gl W K i n o (iShf left a b) := by
  refine .of fun env L base σ k r e => ?_
  have hx : rhoX W K i env L x = (a.get env L).out := rhoX_eq ha
  have hy : rhoX W K i env L y = (b.get env L).out := rhoX_eq hb
  unfold iShf at e
  generalize a.get env L = xa at e hx
  generalize b.get env L = xb at e hy
  have run : ∀ (kd : IntKind) (m : Int) (kd' : IntKind) (q : Nat) (w : World), q ≤ kd.bits → (binOp op t (.int kd m) (.int kd' (.ofNat q))).run P w = .ok (if left then .int kd (kd.wrap (m * 2 ^ q)) else .int kd (m.fdiv (2 ^ q))) w := by
    intro kd m kd' q w hq
    have h0 : ¬ ((Int.ofNat q : Int) < 0) := by simp
    have h1 : min (Int.ofNat q).toNat kd.bits = q := by simp; omega
    cases left with
    | true =>
      simp only [if_true] at hop
      subst hop
      rw [binOp_shl]
      simp only [Op.shift, if_neg h0, h1, Sem.run_pure, if_true]
    | false =>
      simp only [Bool.false_eq_true, if_false] at hop
      subst hop
      rw [binOp_shr]
      simp only [Op.shift, if_neg h0, h1, Sem.run_pure, Bool.false_eq_true, if_false]
  split at e
  · rename_i c m c' q
    cases hq : Nat.ble q (bitsN c) with
    | false => rw [hq] at e; cases e
    | true =>
      rw [hq] at e
      have hq : q ≤ (kindOf c).bits := by rw [Nat.ble_eq, bitsN_eq] at hq; exact hq
      simp only [cond_true] at e
      cases left with
      | false =>
        simp only at e
        cases hm : Nat.blt m (limN c) with
        | false => rw [hm] at e; cases e
        | true =>
          rw [hm] at e
          simp only [cond_true, retN_eq] at e
          refine ⟨_, σ, bin_run ho hx hy (fun w => ?_) (fun g => int_self'), e⟩
          have := run (kindOf c) (.ofNat m) (kindOf c') q w hq
          rw [this]
          simp only [Bool.false_eq_true, if_false]
          have e1 : (Int.ofNat m).fdiv (2 ^ q) = Int.ofNat (m / 2 ^ q) := by
            rw [show (2 : Int) ^ q = ((2 ^ q : Nat) : Int) by simp]
            exact (Int.ofNat_fdiv m (2 ^ q)).symm
          rw [e1]; rfl
      | true =>
        simp only at e
        have hmul : (Int.ofNat m * 2 ^ q : Int) = Int.ofNat (m * 2 ^ q) := by simp
        have hrun := fun w => run (kindOf c) (.ofNat m) (kindOf c') q w hq
        simp only [if_true, hmul] at hrun
        cases hm : Nat.blt (Nat.mul m (Nat.pow 2 q)) (limN c) with
        | true =>
          rw [hm] at e
          simp only [cond_true, retN_eq] at e
          refine ⟨_, σ, bin_run ho hx hy (fun w => ?_) (fun g => int_self'), e⟩
          rw [hrun w]
          have := wrap_small c (m * 2 ^ q) (by rw [Nat.blt_eq] at hm; exact hm)
          rw [this]; rfl
        | false =>
          rw [hm] at e
          simp only [cond_false, retI_eq] at e
          refine ⟨_, σ, ?_, e⟩
          rw [xvOf_out]
          exact bin_run ho hx hy (fun w => hrun w) (fun g => int_self')
  · rename_i kd m c' q
    cases hq : Nat.ble q kd.bits with
    | false => rw [hq] at e; cases e
    | true =>
      rw [hq] at e
      have hq : q ≤ kd.bits := by rw [Nat.ble_eq] at hq; exact hq
      simp only [cond_true] at e
      have hrun := fun w => run kd m (kindOf c') q w hq
      cases left with
      | false =>
        simp only [retI_eq] at e
        refine ⟨_, σ, ?_, e⟩
        rw [xvOf_out]
        exact bin_run ho hx hy (fun w => hrun w) (fun g => int_self')
      | true =>
        simp only [retI_eq] at e
        refine ⟨_, σ, ?_, e⟩
        rw [xvOf_out]
        exact bin_run ho hx hy (fun w => hrun w) (fun g => int_self')
  · cases e
theorem bits_run {c m q : Nat} (hm : m < limN c) (hq : q < limN c) {op : BinOp} {t : TypeId} {z : Nat} (hz : (op = .and ∧ z = m &&& q) ∨ (op = .or ∧ z = m ||| q) ∨ (op = .xor ∧ z = m ^^^ q)) (w : World) :
    (binOp op t (.int (kindOf c) (.ofNat m)) (.int (kindOf c) (.ofNat q))).run P w = .ok (.int (kindOf c) (.ofNat z)) w := by
  obtain ⟨p, hp, hpb⟩ := limN_pow c
  rw [hp] at hm hq
  have hle : 2 ^ p ≤ 2 ^ (kindOf c).bits := Nat.pow_le_pow_right (by decide) hpb
  have t1 : (BitVec.ofInt (kindOf c).bits (Int.ofNat m)).toNat = m := by
    rw [show (Int.ofNat m) = ((m : Nat) : Int) from rfl, BitVec.ofInt_natCast, BitVec.toNat_ofNat]
    exact Nat.mod_eq_of_lt (by omega)
  have t2 : (BitVec.ofInt (kindOf c).bits (Int.ofNat q)).toNat = q := by
    rw [show (Int.ofNat q) = ((q : Nat) : Int) from rfl, BitVec.ofInt_natCast, BitVec.toNat_ofNat]
    exact Nat.mod_eq_of_lt (by omega)
  have fin : ∀ z, z < 2 ^ p → (kindOf c).wrap ((z : Nat) : Int) = .ofNat z := fun z hz => wrap_small c z (by rw [hp]; exact hz)
  rcases hz with ⟨rfl, rfl⟩ | ⟨rfl, rfl⟩ | ⟨rfl, rfl⟩
  · rw [binOp_and]
    simp only [Op.intBits, Sem.run_pure, BitVec.toNat_and, t1, t2]
    rw [fin _ (Nat.and_lt_two_pow m hq)]
  · rw [binOp_or]
    simp only [Op.intBits, Sem.run_pure, BitVec.toNat_or, t1, t2]
    rw [fin _ (Nat.or_lt_two_pow hm hq)]
  · rw [binOp_xor]
    simp only [Op.intBits, Sem.run_pure, BitVec.toNat_xor, t1, t2]
    rw [fin _ (Nat.xor_lt_two_pow hm hq)]
theorem bits_ok {op : BinOp} {t yt : TypeId} {x y : Operand} {o : Oper} (ho : o.op = .binOp op t x y yt) {a b : XArg} (ha : resolve W K i x = some a) (hb : resolve W K i y = some b) : InsOk P gl W K i n o (iBits op a b) := by
  refine .of fun env L base σ k r e => ?_
  have hx : rhoX W K i env L x = (a.get env L).out := rhoX_eq ha
  have hy : rhoX W K i env L y = (b.get env L).out := rhoX_eq hb
  unfold iBits at e
  generalize a.get env L = xa at e hx
  generalize b.get env L = xb at e hy
  split at e
  · rename_i c m c' q
    cases hc : (Nat.beq c c' && Nat.blt m (limN c) && Nat.blt q (limN c)) with
    | false => rw [hc] at e; cases e
    | true =>
      rw [hc] at e
      simp only [Bool.and_eq_true, Nat.beq_eq, Nat.blt_eq] at hc
      obtain ⟨⟨rfl, hm⟩, hq⟩ := hc
      simp only [cond_true] at e
      split at e
      · rw [retN_eq] at e
        exact ⟨_, σ, bin_run ho hx hy (bits_run hm hq (.inl ⟨rfl, rfl⟩)) (fun g => int_self'), e⟩
      · rw [retN_eq] at e
        exact ⟨_, σ, bin_run ho hx hy (bits_run hm hq (.inr (.inl ⟨rfl, rfl⟩))) (fun g => int_self'), e⟩
      · rw [retN_eq] at e
        exact ⟨_, σ, bin_run ho hx hy (bits_run hm hq (.inr (.inr ⟨rfl, rfl⟩))) (fun g => int_self'), e⟩
      · cases e
  · cases e

theorem cut_eq (s : ByteArray) (l h : Nat) : cut s l h = s.extract l h := by
  apply ByteArray.ext
  simp only [cut, ByteArray.data_extract]
  apply Array.ext'
  simp
theorem bound_spec {d : Nat} {x : Option Operand} {ax : Option XArg} (hr : resolveO W K i x = some ax) {k : Nat → R} {r : R} (h : bound d ax env L k = r) (hr0 : r ≠ none) :
    ∃ q, k q = r ∧ ((x = none ∧ q = d) ∨ ∃ y c, x = some y ∧ rhoX W K i env L y = .int (kindOf c) (.ofNat q)) := by
  unfold resolveO at hr
  cases x with
  | none =>
    cases hr
    exact ⟨d, h, .inl ⟨rfl, rfl⟩⟩
  | some y =>
    simp only at hr
    cases ha : Ev.resolve W K i y with
    | none => rw [ha] at hr; cases hr
    | some a =>
      rw [ha] at hr
      cases hr
      have hy : rhoX W K i env L y = (a.get env L).out := rhoX_eq ha
      unfold bound at h
      simp only at h
      generalize a.get env L = xa at h hy
      split at h
      · rename_i c q
        exact ⟨q, h, .inr ⟨y, c, rfl, hy⟩⟩
      · exact (hr0 h.symm).elim
theorem subS_ok {t : TypeId} {x : Operand} {lo hi : Option Operand} {o : Oper} (ho : o.op = .slice t x lo hi none) (ht : P.underlying t = some .string) {a : XArg} {al ah : Option XArg} (ha : resolve W K i x = some a) (hl : resolveO W K i lo = some al) (hh : resolveO W K i hi = some ah) :
    InsOk P gl W K i n o (iSubS a al ah) := by
  refine .of fun env L base σ k r e => ?_
  have hx : rhoX W K i env L x = (a.get env L).out := rhoX_eq ha
  unfold iSubS at e
  generalize a.get env L = xa at e hx
  split at e
  · rename_i s
    obtain ⟨l, e, hl⟩ := bound_spec hl e (by simp)
    obtain ⟨h, e, hh⟩ := bound_spec hh e (by simp)
    cases hc : (Nat.ble l h && Nat.ble h s.size) with
    | false => rw [hc] at e; cases e
    | true =>
      rw [hc] at e
      simp only [Bool.and_eq_true, Nat.ble_eq] at hc
      simp only [cond_true] at e
      refine ⟨_, σ, .inr (.inr (.inl ⟨rfl, fun g ρ' w hρ => ⟨.string (cut s l h), ?_, .string _⟩⟩)), e⟩
      rw [ho] at hρ
      have hxs : ρ' x = .string s := by
        have := hρ x (by simp [Op.operands])
        rw [hx] at this
        exact flatV_eq rfl this
      have hlo : ∀ y c, lo = some y → rhoX W K i env L y = .int (kindOf c) (.ofNat l) → ρ' y = .int (kindOf c) (.ofNat l) := fun y c e1 e2 => by
        have := hρ y (by simp [Op.operands, e1])
        rw [e2] at this
        exact flatV_eq rfl this
      have hhi : ∀ y c, hi = some y → rhoX W K i env L y = .int (kindOf c) (.ofNat h) → ρ' y = .int (kindOf c) (.ofNat h) := fun y c e1 e2 => by
        have := hρ y (by simp [Op.operands, e1])
        rw [e2] at this
        exact flatV_eq rfl this
      rw [cut_eq]
      simp only [execOp, ho, hxs, XV.out]
      rcases hl with ⟨rfl, rfl⟩ | ⟨y, c, rfl, hy⟩ <;> rcases hh with ⟨rfl, rfl⟩ | ⟨y', c', rfl, hy'⟩
      · simp [Instr.sliceAt, Instr.slice, rU w ht, Instr.sliceBounds, sliced]
      · rw [Option.map_some, hhi y' c' rfl hy']
        simp [Instr.sliceAt, Instr.slice, rU w ht, Instr.sliceBounds, sliced, sliceBound_ok w hc.2]
      · rw [Option.map_some, hlo y c rfl hy]
        simp [Instr.sliceAt, Instr.slice, rU w ht, Instr.sliceBounds, sliced, sliceBound_ok w hc.1]
      · rw [Option.map_some, Option.map_some, hlo y c rfl hy, hhi y' c' rfl hy']
        simp [Instr.sliceAt, Instr.slice, rU w ht, Instr.sliceBounds, sliced, sliceBound_ok w hc.1, sliceBound_ok w hc.2]
  · cases e
theorem app_ok {c : Call} {sT xT e : TypeId} {s x : Operand} {o : Oper} {ti : TypeInfo} {z : Array Value} (ho : o.op = .call c) (hf : c.callee = .builtin .append) (h1 : c.argTypes.toList = [sT, xT]) (h2 : c.args.toList = [s, x])
    (hu : P.underlying sT = some (.slice e)) (hi : P.info? e = some ti) (hz : zcells? P e ti.size = some z) {a b : XArg} (ha : resolve W K i s = some a) (hb : resolve W K i x = some b) : InsOk P gl W K i n o (iApp P xT ti z n a b) := by
  refine .of fun env L base σ k r h => ?_
  have hx : rhoX W K i env L s = (a.get env L).out := rhoX_eq ha
  have hy : rhoX W K i env L x = (b.get env L).out := rhoX_eq hb
  have hcl : clsOf P o.op = .loud := by rw [ho]; unfold clsOf; simp only [hf]
  have hev : ∀ σ, evalOp P (rhoX W K i env L) (base + n) o σ = opAppend P sT xT (base + n) (a.get env L).out (b.get env L).out σ := by
    intro σ
    unfold evalOp
    rw [ho]
    simp only [hf, h1, h2, hx, hy]
  unfold iApp at h
  generalize a.get env L = xa at h hev
  generalize (b.get env L).out = yb at h hev
  split at h
  · rename_i m nc hsrc
    rw [forceN_eq] at h
    split at h
    · rename_i bs len kk
      have hev : ∀ σ2, evalOp P (rhoX W K i env L) (base + n) o σ2 = opAppend P sT xT (base + n) (.slice bs len kk) yb σ2 := hev
      cases hm : Nat.beq m 0 with
      | true =>
        rw [hm] at h
        have hm : m = 0 := by rw [Nat.beq_eq] at hm; exact hm
        subst hm
        refine ⟨.oth (.slice bs len kk), σ, .inl ?_, h⟩
        rw [hev]
        unfold opAppend
        simp only [hu, hi, hz, hsrc]
        rfl
      | false =>
        rw [hm] at h
        have hm : m ≠ 0 := fun e => by subst e; cases hm
        cases hbd : (Nat.ble (Nat.add len m) 9223372036854775807 && Nat.ble (Nat.mul (Nat.add (Nat.mul 2 (Nat.add len m)) 1000) ti.bytes) 281474976710656) with
        | false => rw [hbd] at h; cases h
        | true =>
          rw [hbd] at h
          simp only [Bool.and_eq_true, Nat.ble_eq] at hbd
          have hbd : len + m ≤ 9223372036854775807 ∧ (2 * (len + m) + 1000) * ti.bytes ≤ 281474976710656 := hbd
          simp only [cond_true, cond_false, forceN_eq] at h
          cases kk with
          | zero =>
            dsimp only at h
            cases hl : Nat.beq len 0 with
            | false => rw [hl] at h; cases h
            | true =>
              rw [hl] at h
              have hl : len = 0 := by rw [Nat.beq_eq] at hl; exact hl
              simp only [cond_true, forceL_eq, setBlk_eq, forceN_eq] at h
              refine ⟨.oth (sliceTo (base + n) m ti.size), σ.set (base + n) (.cells true 0 (base + n) nc), .inl ?_, h⟩
              rw [hev]
              unfold opAppend
              simp only [hu, hi, hz, hsrc, if_neg hm, if_pos hbd, if_pos hl]
              rfl
          | succ k' =>
            dsimp only at h
            rcases bs with _ | ⟨A, o', _ | ix⟩
            · cases h
            · dsimp only at h
              cases hk : (Nat.beq k' ti.size && nc.all (·.oneCell')) with
              | false => rw [hk] at h; cases h
              | true =>
                rw [hk] at h
                simp only [Bool.and_eq_true, Nat.beq_eq] at hk
                simp only [cond_true] at h
                split at h
                · rename_i ver F c hA
                  rw [blk_eq] at hA
                  rw [hintK_N] at h
                  obtain ⟨Lc, hLc⟩ : ∃ Lc, Lc = hintN A σ c := ⟨_, rfl⟩
                  rw [← hLc] at h
                  have hw : σ.Wf → Lc = c.length := fun hw => by rw [hLc, hintN_eq hA hw]
                  have hmain : ∀ σ', (o' + len * ti.size ≤ c.length → σ.Wf → appSt σ A (base + n) ver F c o' (o' + len * ti.size) nc = σ') → (σ.Wf → o' + len * ti.size ≤ c.length) →
                      StepR P gl (rhoX W K i env L) (base + n) o σ (.slice (some ⟨base + n, 0, none⟩) (len + m) (k' + 1)) σ' := by
                    intro σ' he hle
                    refine .inr (.inr (.inr ⟨hcl, fun hwf => ?_⟩))
                    rw [hev]
                    unfold opAppend
                    simp only [hu, hi, hz, hsrc, if_neg hm, if_pos hbd, if_pos hk, hA, if_pos (hle hwf)]
                    rw [he (hle hwf) hwf, hk.1]
                    rfl
                  cases ht : (Nat.beq o' 0 && Nat.beq (Nat.add o' (Nat.mul len ti.size)) Lc) with
                  | true =>
                    rw [ht] at h
                    simp only [Bool.and_eq_true, Nat.beq_eq] at ht
                    have ht : o' = 0 ∧ o' + len * ti.size = Lc := ht
                    simp only [cond_true, appK_eq] at h
                    refine ⟨.oth (.slice (some ⟨base + n, 0, none⟩) (len + m) (k' + 1)), _, hmain _ (fun _ hwf => ?_) (fun hwf => by rw [ht.2, hw hwf]; exact Nat.le_refl _), h⟩
                    have e1 : o' + len * ti.size = c.length := by rw [ht.2, hw hwf]
                    rw [e1, hw hwf, ht.1]
                    exact appK_app.symm
                  | false =>
                    rw [ht] at h
                    simp only [cond_false] at h
                    cases hq : Nat.ble (Nat.add o' (Nat.mul len ti.size)) Lc with
                    | false => rw [hq] at h; cases h
                    | true =>
                      rw [hq] at h
                      have hq : o' + len * ti.size ≤ Lc := by rw [Nat.ble_eq] at hq; exact hq
                      exact ⟨.oth (.slice (some ⟨base + n, 0, none⟩) (len + m) (k' + 1)), _, hmain _ (fun _ _ => rfl) (fun hwf => by rw [← hw hwf]; exact hq), h⟩
                · cases h
            · cases h
    · cases h
  · cases h
theorem mk_ok {t e : TypeId} {x y : Operand} {o : Oper} {ti : TypeInfo} {z : Array Value} (ho : o.op = .makeSlice t x y) (hu : P.underlying t = some (.slice e)) (hi : P.info? e = some ti) (hz : zcells? P e ti.size = some z)
    {a b : XArg} (ha : resolve W K i x = some a) (hb : resolve W K i y = some b) : InsOk P gl W K i n o (iMake ti z n a b) := by
  refine .of fun env L base σ k r h => ?_
  have hx : rhoX W K i env L x = (a.get env L).out := rhoX_eq ha
  have hy : rhoX W K i env L y = (b.get env L).out := rhoX_eq hb
  unfold iMake at h
  generalize a.get env L = xa at h hx
  generalize b.get env L = xb at h hy
  split at h
  · rename_i c1 p c2 m
    cases hc : (Nat.ble p m && Nat.ble m 9223372036854775807 && Nat.ble (Nat.mul ti.bytes m) 281474976710656) with
    | false => rw [hc] at h; cases h
    | true =>
      rw [hc] at h
      simp only [cond_true, forceN_eq, forceL_eq, setBlk_eq] at h
      refine ⟨.oth (sliceTo (base + n) p ti.size), _, .inl ?_, h⟩
      have hx' : rhoX W K i env L x = .int (kindOf c1) (.ofNat p) := hx
      have hy' : rhoX W K i env L y = .int (kindOf c2) (.ofNat m) := hy
      have hc2 : (decide (p ≤ m) && decide (m ≤ 9223372036854775807) && decide (ti.bytes * m ≤ 281474976710656)) = true := by
        simp only [Bool.and_eq_true, Nat.ble_eq, decide_eq_true_eq] at hc ⊢; exact hc
      unfold evalOp
      rw [ho]
      simp only [hx', hy', opMakeSlice, hu, hi, hc2, if_true]
      by_cases h0 : m * ti.size = 0
      · simp only [if_pos h0, opNew]
        have e1 : Nat.mul m ti.size = 0 := h0
        rw [e1]
        have : (zrow #[] (m * ti.size)).toList = [] := by rw [h0]; simp [zrow]
        rw [this]
        rfl
      · simp only [if_neg h0, hz, opNew]
        have hsz : z.size ≠ 0 := by
          obtain ⟨v, _, _, q, _⟩ := zcells?_spec hz
          rw [q]; intro e; rw [e] at h0; simp at h0
        rw [← cycR_zrow z _ hsz]
        rfl
  · cases h
end
end Go.Ev

namespace Go.Ev
open Go
set_option linter.unusedVariables false
set_option linter.unusedSimpArgs false
section
variable {P : Program} {gl : List Nat} {W : List (Nat × Src)} {K : List Nat} {i n : Nat} {env : XEnv} {L : List XV}

theorem map_some {α β : Type} {f : α → β} {x : Option α} {y : β} (h : x.map f = some y) : ∃ a, x = some a ∧ y = f a := by
  cases x with
  | none => cases h
  | some a => cases h; exact ⟨a, rfl, rfl⟩

theorem compIns_ok {call : KF} (hc : call.ok P gl) {o : Oper} {ins : XIns} (h : compIns P W K i n o = some ins) : InsW P gl W K i n o (xins P call ins) := by
  unfold compIns at h
  split at h
  · rename_i x ho
    obtain ⟨a, ha, rfl⟩ := map_some h
    exact (mov_ok (.inl ho) ha).toW
  · rename_i x ho
    obtain ⟨a, ha, rfl⟩ := map_some h
    exact (mov_ok (.inr ho) ha).toW
  · rename_i op t x y yt ho
    split at h
    · split at h
      · rename_i a b ha hb
        split at h
        · cases h; exact (shf_ok (left := true) ho rfl ha hb).toW
        · cases h; exact (shf_ok (left := false) ho rfl ha hb).toW
        · cases h; exact (bits_ok ho ha hb).toW
        · cases h; exact (bits_ok ho ha hb).toW
        · cases h; exact (bits_ok ho ha hb).toW
        · split at h
          · cases h; exact (bin_ok ho ha hb).toW
          · exact gen_ok hc h
      · cases h
    · exact gen_ok hc h
  · rename_i t x lo hi mx ho
    split at h
    · rename_i ht
      split at h
      · rename_i a l h' ha hl hh
        cases h
        exact (subS_ok ho ht ha hl hh).toW
      · cases h
    · exact gen_ok hc h
  · rename_i t x ho
    obtain ⟨a, ha, rfl⟩ := map_some h
    exact (not_ok ho ha).toW
  · rename_i x ix ho
    obtain ⟨a, ha, rfl⟩ := map_some h
    exact (ext_ok ho ha).toW
  · rename_i c x y ho
    split at h
    · rename_i a b d ha hb hd
      cases h
      exact (pick_ok ho ha hb hd).toW
    · cases h
  · rename_i it isS ho
    split at h
    · rename_i hs
      subst hs
      obtain ⟨a, ha, rfl⟩ := map_some h
      exact (next_ok ho ha).toW
    · exact gen_ok hc h
  · rename_i src dst x ho
    split at h
    · rename_i k hs hd
      obtain ⟨a, ha, rfl⟩ := map_some h
      exact (conv_ok ho hs hd ha).toW
    · exact gen_ok hc h
  · rename_i t x ix ho
    split at h
    · rename_i ht
      split at h
      · rename_i a b ha hb
        cases h
        exact (idxS_ok ho ht ha hb).toW
      · cases h
    · exact gen_ok hc h
  · rename_i x ho
    obtain ⟨a, ha, rfl⟩ := map_some h
    exact (nil_ok ho ha).toW
  · rename_i t a ho
    split at h
    · rename_i hl
      obtain ⟨a, ha, rfl⟩ := map_some h
      exact (load1_ok ho hl ha).toW
    · rename_i m hl
      obtain ⟨a, ha, rfl⟩ := map_some h
      exact (loadN_ok ho hl ha).toW
    · cases h
  · rename_i t a v ho
    split at h
    · rename_i m a v hs ha hv
      cases h
      exact (store_ok ho hs ha hv).toW
    · cases h
  · rename_i s x f ho
    split at h
    · rename_i off hf
      obtain ⟨a, ha, rfl⟩ := map_some h
      exact (faddr_ok ho hf ha).toW
    · cases h
  · rename_i t l c ho
    split at h
    · rename_i e hu
      split at h
      · rename_i ti hi
        split at h
        · rename_i z a b hz ha hb
          cases h
          exact (mk_ok ho hu hi hz ha hb).toW
        · cases h
      · cases h
    · cases h
  · rename_i t x ix ho
    split at h
    · rename_i e ht
      split at h
      · rename_i m a b hs ha hb
        cases h
        exact (iaddr_ok (len := none) ho ht hs ha hb).toW
      · cases h
    · rename_i len e ht
      split at h
      · rename_i m a b hs ha hb
        cases h
        exact (iaddr_ok (len := some len) ho ht hs ha hb).toW
      · cases h
    · exact gen_ok hc h
  · rename_i c ho
    split at h
    · rename_i f hf
      split at h
      · rename_i hb
        obtain ⟨l, hl, rfl⟩ := map_some h
        exact callF_ok hc ho hf hb hl
      · exact gen_ok hc h
    · rename_i hf
      split at h
      · rename_i t x h1 h2
        split at h
        · rename_i hu
          obtain ⟨a, ha, rfl⟩ := map_some h
          exact (lenS_ok ho hf h1 h2 (str := true) hu ha).toW
        · rename_i e hu
          obtain ⟨a, ha, rfl⟩ := map_some h
          exact (lenS_ok ho hf h1 h2 (str := false) ⟨e, hu⟩ ha).toW
        · exact gen_ok hc h
      · exact gen_ok hc h
    · rename_i hf
      split at h
      · rename_i sT xT s x h1 h2
        split at h
        · rename_i e hu
          split at h
          · rename_i ti hi
            split at h
            · rename_i z a b hz ha hb
              cases h
              exact (app_ok ho hf h1 h2 hu hi hz ha hb).toW
            · cases h
          · cases h
        · cases h
      · cases h
    · exact gen_ok hc h
  · exact gen_ok hc h

theorem gen_ok2 {call : KF} {o : Oper} {ins : XIns} (hcl : clsOf P o.op = .pure ∨ clsOf P o.op = .read) (h : compGen W K i n o = some ins) : InsOk P gl W K i n o (xins P call ins) := by
  intro env L base σ k r e
  unfold compGen at h
  obtain ⟨m, hm, rfl⟩ := map_some h
  have e : iGen P call o m n env L base σ k = some r := e
  unfold iGen at e
  rw [evalOpQ_eq] at e
  refine ⟨rgen m env L, fun x hx => resolveT_spec _ m hm x (by simpa using hx), ?_⟩
  split at e
  · rename_i v σ' he
    rw [normK_eq, take_eq] at e
    exact ⟨xvOf v, σ', by rw [xvOf_out]; exact .inl he, e⟩
  · rename_i f args he
    rcases hcl with hcl | hcl
    · obtain ⟨v, q, _⟩ := evalOp_pure hcl he; cases q
    · obtain ⟨v, q, _⟩ := evalOp_read hcl he; cases q
  · cases e
/-- What looks at no memory, or reads, or stores. -/
theorem compIns_ok2 {call : KF} {o : Oper} {ins : XIns} (hcl : (clsOf P o.op = .pure ∨ clsOf P o.op = .read) ∨ isStoreOp o.op = true) (h : compIns P W K i n o = some ins) : InsOk P gl W K i n o (xins P call ins) := by
  unfold compIns at h
  split at h
  · rename_i x ho
    obtain ⟨a, ha, rfl⟩ := map_some h
    exact (mov_ok (.inl ho) ha)
  · rename_i x ho
    obtain ⟨a, ha, rfl⟩ := map_some h
    exact (mov_ok (.inr ho) ha)
  · rename_i op t x y yt ho
    split at h
    · split at h
      · rename_i a b ha hb
        split at h
        · cases h; exact (shf_ok (left := true) ho rfl ha hb)
        · cases h; exact (shf_ok (left := false) ho rfl ha hb)
        · cases h; exact (bits_ok ho ha hb)
        · cases h; exact (bits_ok ho ha hb)
        · cases h; exact (bits_ok ho ha hb)
        · split at h
          · cases h; exact (bin_ok ho ha hb)
          · exact gen_ok2 (by rcases hcl with q | q; exact q; rw [ho] at q; cases q) h
      · cases h
    · exact gen_ok2 (by rcases hcl with q | q; exact q; rw [ho] at q; cases q) h
  · rename_i t x lo hi mx ho
    split at h
    · rename_i ht
      split at h
      · rename_i a l h' ha hl hh
        cases h
        exact (subS_ok ho ht ha hl hh)
      · cases h
    · exact gen_ok2 (by rcases hcl with q | q; exact q; rw [ho] at q; cases q) h
  · rename_i t x ho
    obtain ⟨a, ha, rfl⟩ := map_some h
    exact (not_ok ho ha)
  · rename_i x ix ho
    obtain ⟨a, ha, rfl⟩ := map_some h
    exact (ext_ok ho ha)
  · rename_i c x y ho
    split at h
    · rename_i a b d ha hb hd
      cases h
      exact (pick_ok ho ha hb hd)
    · cases h
  · rename_i it isS ho
    split at h
    · rename_i hs
      subst hs
      obtain ⟨a, ha, rfl⟩ := map_some h
      exact (next_ok ho ha)
    · exact gen_ok2 (by rcases hcl with q | q; exact q; rw [ho] at q; cases q) h
  · rename_i src dst x ho
    split at h
    · rename_i k hs hd
      obtain ⟨a, ha, rfl⟩ := map_some h
      exact (conv_ok ho hs hd ha)
    · exact gen_ok2 (by rcases hcl with q | q; exact q; rw [ho] at q; cases q) h
  · rename_i t x ix ho
    split at h
    · rename_i ht
      split at h
      · rename_i a b ha hb
        cases h
        exact (idxS_ok ho ht ha hb)
      · cases h
    · exact gen_ok2 (by rcases hcl with q | q; exact q; rw [ho] at q; cases q) h
  · rename_i x ho
    obtain ⟨a, ha, rfl⟩ := map_some h
    exact (nil_ok ho ha)
  · rename_i t a ho
    split at h
    · rename_i hl
      obtain ⟨a, ha, rfl⟩ := map_some h
      exact (load1_ok ho hl ha)
    · rename_i m hl
      obtain ⟨a, ha, rfl⟩ := map_some h
      exact (loadN_ok ho hl ha)
    · cases h
  · rename_i t a v ho
    split at h
    · rename_i m a v hs ha hv
      cases h
      exact (store_ok ho hs ha hv)
    · cases h
  · rename_i s x f ho
    split at h
    · rename_i off hf
      obtain ⟨a, ha, rfl⟩ := map_some h
      exact (faddr_ok ho hf ha)
    · cases h
  · rename_i t l c ho
    split at h
    · rename_i e hu
      split at h
      · rename_i ti hi
        split at h
        · rename_i z a b hz ha hb
          cases h
          exact (mk_ok ho hu hi hz ha hb)
        · cases h
      · cases h
    · cases h
  · rename_i t x ix ho
    split at h
    · rename_i e ht
      split at h
      · rename_i m a b hs ha hb
        cases h
        exact (iaddr_ok (len := none) ho ht hs ha hb)
      · cases h
    · rename_i len e ht
      split at h
      · rename_i m a b hs ha hb
        cases h
        exact (iaddr_ok (len := some len) ho ht hs ha hb)
      · cases h
    · exact gen_ok2 (by rcases hcl with q | q; exact q; rw [ho] at q; cases q) h
  · rename_i c ho
    split at h
    · rename_i f hf
      split at h
      · rename_i hb
        obtain ⟨l, hl, rfl⟩ := map_some h
        rcases hcl with (q | q) | q
        · rw [ho] at q; simp [clsOf, hf] at q
        · rw [ho] at q; simp [clsOf, hf] at q
        · rw [ho] at q; simp [isStoreOp, hf] at q
      · exact gen_ok2 (by rcases hcl with q | q; exact q; rw [ho] at q; simp [isStoreOp, hf] at q) h
    · rename_i hf
      split at h
      · rename_i t x h1 h2
        split at h
        · rename_i hu
          obtain ⟨a, ha, rfl⟩ := map_some h
          exact (lenS_ok ho hf h1 h2 (str := true) hu ha)
        · rename_i e hu
          obtain ⟨a, ha, rfl⟩ := map_some h
          exact (lenS_ok ho hf h1 h2 (str := false) ⟨e, hu⟩ ha)
        · exact gen_ok2 (by rcases hcl with q | q; exact q; rw [ho] at q; simp [isStoreOp, hf] at q) h
      · exact gen_ok2 (by rcases hcl with q | q; exact q; rw [ho] at q; simp [isStoreOp, hf] at q) h
    · rename_i hf
      split at h
      · rename_i sT xT s x h1 h2
        split at h
        · rename_i e hu
          split at h
          · rename_i ti hi
            split at h
            · rename_i z a b hz ha hb
              cases h
              exact app_ok ho hf h1 h2 hu hi hz ha hb
            · cases h
          · cases h
        · cases h
      · cases h
    · rename_i hno _
      refine gen_ok2 ?_ h
      rcases hcl with q | q
      · exact q
      · exfalso
        rw [ho] at q
        simp only [isStoreOp] at q
        cases q
  · refine gen_ok2 ?_ h
    rcases hcl with q | q
    · exact q
    · exfalso
      cases hop : o.op <;> simp_all [isStoreOp]

/-! ## Slots -/
theorem rank_inj {K : List Nat} : ∀ {j : Nat} {t t' r : Nat}, rank K t j = some r → rank K t' j = some r → t = t' := by
  have ge : ∀ (K : List Nat) (t j r : Nat), rank K t j = some r → j ≤ r := by
    intro K
    induction K with
    | nil => intro t j r h; cases h
    | cons a K ih =>
      intro t j r h
      simp only [rank] at h
      split at h
      · cases h; exact Nat.le_refl _
      · have := ih t (j + 1) r h; omega
  induction K with
  | nil => intro j t t' r h; cases h
  | cons a K ih =>
    intro j t t' r h h'
    simp only [rank] at h h'
    split at h
    · rename_i e1
      cases h
      split at h'
      · rename_i e2
        rw [Nat.beq_eq] at e1 e2
        omega
      · have := ge K t' (j + 1) j h'; omega
    · split at h'
      · cases h'
        have := ge K t (j + 1) j h; omega
      · exact ih h h'
theorem varOf_inj {K : List Nat} {t t' : Nat} {p : List Bool} (h : varOf K t = some p) (h' : varOf K t' = some p) : t = t' := by
  obtain ⟨r, h1, e1⟩ := map_some h
  obtain ⟨r', h2, e2⟩ := map_some h'
  have : r = r' := path_inj (e1.symm.trans e2)
  subst this
  exact rank_inj h1 h2

theorem resolve_tmp (t : Nat) : resolve W K i (.tmp t) = (match look W t with | some (.at j) => some (.loc (i - 1 - j)) | some (.arg a) => some a | none => (varOf K t).map .var) := rfl
/-- The kept slots stand to the frame. -/
structure VarRel (K : List Nat) (N : Nat) (g : Gam) (env : XEnv) (a : Act) : Prop where
  defers : a.defers = []
  size : a.tmps.size = N
  vars : ∀ t p, varOf K t = some p → VRel g (orUndef (env.get p)).out (a.tmps.getD t undef)
  rest : ∀ t, varOf K t = none → N ≤ t → (∀ t' p, varOf K t' = some p → p ≠ path t) → VRel g (orUndef (env.get (path t))).out undef
theorem VarRel.mono {K : List Nat} {N : Nat} {g g' : Gam} {env : XEnv} {a : Act} (h : VarRel K N g env a) (hg : Gam.le g g') : VarRel K N g' env a := ⟨h.defers, h.size, fun t p e => (h.vars t p e).mono hg, fun t a b c => (h.rest t a b c).mono hg⟩

/-- What stands of the slots told of, ahead of the operations l. -/
def SrcOk (K : List Nat) (i : Nat) (l : List Oper) : Src → Prop
  | .at j => j < i
  | .arg (.val _) => True
  | .arg (.var p) => ∃ t0, varOf K t0 = some p ∧ ∀ o ∈ l, o.dst ≠ some t0
  | .arg (.loc _) => False
def WOk (K : List Nat) (i : Nat) (l : List Oper) (W : List (Nat × Src)) : Prop := ∀ t s, look W t = some s → SrcOk K i l s
structure XRel (K : List Nat) (N : Nat) (g : Gam) (W : List (Nat × Src)) (i : Nat) (env : XEnv) (L : List XV) (a : Act) : Prop extends VarRel K N g env a where
  len : L.length = i
  told : ∀ t b, resolve W K i (.tmp t) = some b → VRel g (b.get env L).out (a.tmps.getD t undef)
theorem XRel.mono {N : Nat} {g g' : Gam} {a : Act} (h : XRel K N g W i env L a) (hg : Gam.le g g') : XRel K N g' W i env L a := ⟨h.toVarRel.mono hg, h.len, fun t b e => (h.told t b e).mono hg⟩

theorem look_cons (d t : Nat) (s : Src) (W : List (Nat × Src)) : look ((d, s) :: W) t = if d = t then some s else look W t := by
  simp only [look]
  by_cases h : d = t
  · subst h
    have : Nat.beq d d = true := by simp
    simp [this]
  · have : Nat.beq d t = false := by rw [← Bool.not_eq_true, Nat.beq_eq]; exact h
    simp [this, h]
theorem SrcOk.tail {K : List Nat} {i j : Nat} {o : Oper} {l : List Oper} (hij : i ≤ j) {s : Src} (h : SrcOk K i (o :: l) s) : SrcOk K j l s := by
  cases s with
  | «at» k => exact Nat.lt_of_lt_of_le h hij
  | arg b => cases b with
    | loc _ => exact h
    | val _ => trivial
    | var p => obtain ⟨t0, h1, h2⟩ := h; exact ⟨t0, h1, fun o' ho' => h2 o' (List.mem_cons_of_mem _ ho')⟩

theorem get_loc (j : Nat) (v : XV) : (XArg.loc (j + 1)).get env (v :: L) = (XArg.loc j).get env L := rfl
theorem get_var (p : List Bool) (env : XEnv) (L : List XV) : (XArg.var p).get env L = orUndef (env.get p) := by
  show orUndef (getR p env) = _
  rw [getR_eq]

def putE (p : Option (List Bool)) (v : XV) (env : XEnv) : XEnv := match p with | some p => env.set p v | none => env
/-- A value pushed, and laid into its slot. -/
theorem XRel.push {N : Nat} {g : Gam} {a : Act} {o : Oper} {l : List Oper} (h : XRel K N g W i env L a) (hw : WOk K i (o :: l) W) (hd : ∀ d, o.dst = some d → d < N) {v : XV} {v' : Value} (hv : VRel g v.out v') :
    XRel K N g (pushW o.dst i W) (i + 1) (putE (dstVar K o.dst) v env) (v :: L) (a.put o.dst v') ∧
    WOk K (i + 1) l (pushW o.dst i W) := by
  cases hdd : o.dst with
  | none =>
    simp only [Act.put, pushW, dstVar, putE]
    refine ⟨⟨h.toVarRel, by simp [h.len], fun t b hb => ?_⟩, fun t s hs => (hw t s hs).tail (by omega)⟩
    rw [resolve_tmp] at hb
    split at hb
    · rename_i j hj
      cases hb
      have hlt : j < i := hw t _ hj
      have := h.told t (.loc (i - 1 - j)) (by rw [resolve_tmp, hj])
      rw [show i + 1 - 1 - j = (i - 1 - j) + 1 by omega, get_loc]
      exact this
    · rename_i b' hj
      cases hb
      have := h.told t b (by rw [resolve_tmp, hj])
      have hs := hw t _ hj
      cases b with
      | loc _ => exact hs.elim
      | val x => exact this
      | var p => rw [get_var] at this ⊢; exact this
    · rename_i hj
      obtain ⟨p, hp, rfl⟩ := map_some hb
      rw [get_var]; exact h.vars t p hp
  | some d =>
    have hdN := hd d hdd
    have hgetd : ∀ t, (a.put (some d) v').tmps.getD t undef = if d = t then v' else a.tmps.getD t undef := by
      intro t
      simp only [Act.put]
      by_cases e : d = t
      · subst e
        rw [if_pos rfl]
        have : d < a.tmps.size := by rw [h.size]; exact hdN
        simp [this]
      · rw [if_neg e]
        simp only [Array.getD_eq_getD_getElem?, Array.getElem?_setIfInBounds, if_neg e]
    simp only [pushW, dstVar]
    obtain ⟨env', he'⟩ : ∃ env', env' = putE (varOf K d) v env := ⟨_, rfl⟩
    rw [← he']
    have hother : ∀ t p, varOf K t = some p → d ≠ t → env'.get p = env.get p := by
      intro t p hp hne
      rw [he']
      unfold putE
      split
      · rename_i q hq
        rw [Tr.get_set, if_neg (fun e => by subst e; exact hne (varOf_inj hq hp))]
      · rfl
    have hself : ∀ p, varOf K d = some p → env'.get p = some v := by
      intro p hp
      rw [he', hp]
      simp [putE, Tr.get_set]
    refine ⟨⟨⟨h.defers, by simp [Act.put, h.size], fun t p hp => ?_, fun t h1 h2 h3 => ?_⟩, by simp [h.len], fun t b hb => ?_⟩, fun t s hs => ?_⟩
    · rw [hgetd]
      by_cases e : d = t
      · subst e
        rw [if_pos rfl, hself p hp]; exact hv
      · rw [if_neg e, hother t p hp e]; exact h.vars t p hp
    · have : env'.get (path t) = env.get (path t) := by
        rw [he']
        unfold putE
        split
        · rename_i q hq
          rw [Tr.get_set, if_neg (h3 d q hq)]
        · rfl
      rw [this]; exact h.rest t h1 h2 h3
    · rw [hgetd]
      rw [resolve_tmp] at hb
      simp only [look_cons] at hb
      by_cases e : d = t
      · subst e
        rw [if_pos rfl] at hb ⊢
        cases hb
        rw [show i + 1 - 1 - i = 0 by omega]
        exact hv
      · rw [if_neg e] at hb ⊢
        split at hb
        · rename_i j hj
          cases hb
          have hlt : j < i := hw t _ hj
          have := h.told t (.loc (i - 1 - j)) (by rw [resolve_tmp, hj])
          rw [show i + 1 - 1 - j = (i - 1 - j) + 1 by omega, get_loc]
          exact this
        · rename_i b' hj
          cases hb
          have := h.told t b (by rw [resolve_tmp, hj])
          have hs := hw t _ hj
          cases b with
          | loc _ => exact hs.elim
          | val x => exact this
          | var p =>
            obtain ⟨t0, h1, h2⟩ := hs
            have hne : d ≠ t0 := fun e => h2 o List.mem_cons_self (by rw [hdd, e])
            rw [get_var] at this ⊢
            rw [hother t0 p h1 hne]; exact this
        · rename_i hj
          obtain ⟨p, hp, rfl⟩ := map_some hb
          rw [get_var, hother t p hp e]; exact h.vars t p hp
    · rw [look_cons] at hs
      split at hs
      · cases hs; exact Nat.lt_succ_self i
      · exact (hw t s hs).tail (by omega)
end
end Go.Ev

namespace Go.Ev
open Go
set_option linter.unusedVariables false
set_option linter.unusedSimpArgs false
section
variable {P : Program} {gl : List Nat} {K : List Nat}

theorem XRel.opnd {W : List (Nat × Src)} {i N : Nat} {env : XEnv} {L : List XV} {g : Gam} {a : Act} (h : XRel K N g W i env L a) (hg : Glob gl g) {x : Operand} (ho : okOperand gl x = true) (hr : (resolve W K i x).isSome = true) : VRel g (rhoX W K i env L x) (a.eval x) := by
  cases x with
  | tmp t =>
    obtain ⟨b, hb⟩ := Option.isSome_iff_exists.1 hr
    rw [rhoX_eq hb]
    exact h.told t b hb
  | const v => rw [rhoX_const]; exact flatV_rel ho
  | global b =>
    rw [rhoX_global]
    obtain ⟨n, e⟩ := hg b ho
    exact .ptr b 0 _ e
  | func f => rw [rhoX_func]; exact .func _ _ _ _ _ rfl (fun i h => by simp at h) rfl (fun i h => by simp at h)

def boolOf (x : Value) : Option Bool := match x with
  | .bool b => some b
  | _ => none
theorem yielded_of {ops : Array Oper} {g : Gam} {a : Act} {j d : Nat} {x : Value} (hj : (ops[j]?).bind (·.dst) = some d) (hd : d < a.tmps.size) (hv : VRel g x (a.tmps.getD d undef)) : yielded ops a.tmps j = boolOf x := by
  unfold yielded
  rw [hj]
  simp only [Option.bind_some, Array.getElem?_eq_getElem hd]
  have e : a.tmps.getD d undef = a.tmps[d] := by simp [hd]
  rw [e] at hv
  generalize a.tmps[d] = v' at hv
  cases hv <;> rfl

theorem copyOf_spec {o : Oper} {l : List Oper} {x : Operand} (h : copyOf o l = some x) : o.guard = none ∧ (o.op = .move x ∨ o.op = .assign x) ∧ ∀ t, x = .tmp t → ∀ o' ∈ l, o'.dst ≠ some t := by
  have key : ∀ (y : Operand), (match y with
      | .tmp t => if l.all (fun o' => match o'.dst with | some d => !Nat.beq d t | none => true) then some y else none
      | _ => some y) = some x → y = x ∧ ∀ t, x = .tmp t → ∀ o' ∈ l, o'.dst ≠ some t := by
    intro y hy
    split at hy
    · rename_i t
      split at hy
      · rename_i hall
        cases hy
        refine ⟨rfl, fun t' e o' ho' hd => ?_⟩
        cases e
        have := List.all_eq_true.1 hall o' ho'
        rw [hd] at this
        simp at this
      · cases hy
    · rename_i hne
      cases hy
      exact ⟨rfl, fun t e => (hne t e).elim⟩
  unfold copyOf at h
  split at h
  · cases h
  · rename_i hg
    split at h
    · rename_i y ho
      obtain ⟨rfl, h2⟩ := key y h
      exact ⟨hg, .inl ho, h2⟩
    · rename_i y ho
      obtain ⟨rfl, h2⟩ := key y h
      exact ⟨hg, .inr ho, h2⟩
    · cases h

theorem XRel.copy {W : List (Nat × Src)} {i N : Nat} {env : XEnv} {L : List XV} {g : Gam} {a : Act} {o : Oper} {l : List Oper} (h : XRel K N g W i env L a) (hw : WOk K i (o :: l) W) {d : Nat} (hdd : o.dst = some d) (hdN : d < N) (hk : varOf K d = none) {x : Operand}
    (hlater : ∀ t, x = .tmp t → ∀ o' ∈ l, o'.dst ≠ some t) {b : XArg} (hb : resolve W K i x = some b) {v' : Value} (hv : VRel g (b.get env L).out v') {s : Src} (hs : s = srcOf i b) :
    XRel K N g ((d, s) :: W) i env L (a.put o.dst v') ∧ WOk K i l ((d, s) :: W) := by
  have hgetd : ∀ t, (a.put o.dst v').tmps.getD t undef = if d = t then v' else a.tmps.getD t undef := by
    intro t
    rw [hdd]
    simp only [Act.put]
    by_cases e : d = t
    · subst e
      rw [if_pos rfl]
      have : d < a.tmps.size := by rw [h.size]; exact hdN
      simp [this]
    · rw [if_neg e]
      simp only [Array.getD_eq_getD_getElem?, Array.getElem?_setIfInBounds, if_neg e]
  have src : (∀ j, b = .loc j → j < i ∧ ∃ j0, j0 < i ∧ j = i - 1 - j0) ∧ SrcOk K i l s := by
    cases x with
    | const v => cases hb; subst hs; exact ⟨(fun j e => by cases e), trivial⟩
    | global v => cases hb; subst hs; exact ⟨(fun j e => by cases e), trivial⟩
    | func v => cases hb; subst hs; exact ⟨(fun j e => by cases e), trivial⟩
    | tmp t =>
      rw [resolve_tmp] at hb
      split at hb
      · rename_i j hj
        cases hb
        have hlt : j < i := hw t _ hj
        subst hs
        refine ⟨fun j' e => ?_, ?_⟩
        · cases e; exact ⟨by omega, j, hlt, rfl⟩
        · show i - 1 - (i - 1 - j) < i
          omega
      · rename_i b' hj
        cases hb
        have h1 := hw t _ hj
        cases b with
        | loc _ => exact h1.elim
        | val _ => subst hs; exact ⟨(fun j e => by cases e), trivial⟩
        | var p => subst hs; exact ⟨(fun j e => by cases e), (h1.tail (Nat.le_refl _) : SrcOk K i l (.arg (.var p)))⟩
      · obtain ⟨p, hp, rfl⟩ := map_some hb
        subst hs
        exact ⟨(fun j e => by cases e), ⟨t, hp, hlater t rfl⟩⟩
  refine ⟨⟨⟨?_, ?_, fun t p hp => ?_, h.rest⟩, h.len, fun t c hc => ?_⟩, fun t s' hs' => ?_⟩
  · rw [hdd]; exact h.defers
  · rw [hdd]; simp [Act.put, h.size]
  · rw [hgetd, if_neg (fun e => by subst e; rw [hk] at hp; cases hp)]
    exact h.vars t p hp
  · rw [hgetd]
    rw [resolve_tmp] at hc
    simp only [look_cons] at hc
    by_cases e : d = t
    · rw [if_pos e] at hc ⊢
      have : c = b := by
        subst hs
        cases b with
        | loc j =>
          obtain ⟨h1, j0, h2, rfl⟩ := src.1 j rfl
          have hc : some (XArg.loc (i - 1 - (i - 1 - (i - 1 - j0)))) = some c := hc
          cases hc
          congr 1
          omega
        | val _ => cases hc; rfl
        | var _ => cases hc; rfl
      rw [this]; exact hv
    · rw [if_neg e] at hc ⊢
      exact h.told t c hc
  · rw [look_cons] at hs'
    split at hs'
    · cases hs'; exact src.2
    · exact (hw t s' hs').tail (Nat.le_refl _)

theorem xops_ok {call : KF} (hc : call.ok P gl) {ops : Array Oper} {N base : Nat} {Q : Exit → Act → World → Prop} {r : Value × St} {k : XEnv → St → R} : ∀ (l : List Oper) (n i : Nat) (W : List (Nat × Src)) (X : List XI) (env : XEnv) (L : List XV) (σ : St) (g : Gam) (w : World) (a : Act),
    compOps P gl N K ops l i n W = some X → (∀ j o, l[j]? = some o → ops[n + j]? = some o) → n + l.length = ops.size → WOk K i l W → base + ops.size ≤ σ.next → (∀ j, n ≤ j → j < ops.size → σ.get (base + j) = none) → Glob gl g → Rel g σ w → XRel K N g W i env L a →
    xops P call X env L base σ k = some r →
    (∀ env' σ' a' w' g', k env' σ' = some r → Rel g' σ' w' → VarRel K N g' env' a' → Ext (fun A => base ≤ A) g g' σ σ' w w' → Q .normal a' w') → wpOps P ops Q (List.range' n l.length) a w
  | [], n, i, W, X, env, L, σ, g, w, a, hX, _, _, _, _, _, hg, hr, hx, he, hk => by
    simp only [compOps] at hX
    cases hX
    exact hk env σ a w g he hr hx.toVarRel (Ext.refl _ _ _ _)
  | o :: l, n, i, W, X, env, L, σ, g, w, a, hX, hops, hlen, hw, hnext, hfree, hg, hr, hx, he, hk => by
    have hoi : ops[n]? = some o := by have := hops 0 o rfl; simpa using this
    have hn : n < ops.size := by simp at hlen; omega
    simp only [compOps] at hX
    split at hX
    · rename_i hok
      simp only [Bool.and_eq_true, List.all_eq_true] at hok
      obtain ⟨⟨ok1, ok2⟩, ok3⟩ := hok
      have hd := okDst ok1
      simp only [okOper, Bool.and_eq_true, List.all_eq_true] at ok1
      have hρ : ∀ x ∈ o.op.operands, VRel g (rhoX W K i env L x) (a.eval x) := fun x hx' => hx.opnd hg (ok1.1 x (by simpa using hx')) (ok3 x (by simpa using hx'))
      simp only [List.length_cons, List.range'_succ, wpOps, hoi]
      have rest := fun (i2 : Nat) (W2 : List (Nat × Src)) (X2 : List XI) (env2 : XEnv) (L2 : List XV) (σ2 : St) (g2 : Gam) (w2 : World) (a2 : Act) (h1 : compOps P gl N K ops l i2 (n + 1) W2 = some X2) (h2 : WOk K i2 l W2) (hx2 : Ext (fun A => base ≤ A) g g2 σ σ2 w w2)
          (hnx : ∀ j, n + 1 ≤ j → j < ops.size → σ2.get (base + j) = none) (h5 : Rel g2 σ2 w2) (h6 : XRel K N g2 W2 i2 env2 L2 a2) (h7 : xops P call X2 env2 L2 base σ2 k = some r) =>
        xops_ok hc l (n + 1) i2 W2 X2 env2 L2 σ2 g2 w2 a2 h1 (fun j o' hj => by have := hops (j + 1) o' (by simpa using hj); rwa [show n + 1 + j = n + (j + 1) by omega]) (by simp at hlen; omega) h2 (Nat.le_trans hnext hx2.next) hnx (hg.mono hx2.le) h5 h6 h7
          (fun env' σ' a' w' g' q1 q2 q3 q4 => hk env' σ' a' w' g' q1 q2 q3 (hx2.trans q4))
      have step : ∀ {f : SK} {k2 : XV → St → R}, InsW P gl W K i n o f → f env L base σ k2 = some r →
          (∀ (v : XV) v' σ' w' g', k2 v σ' = some r → VRel g' v.out v' → Rel g' σ' w' → Ext (fun A => base ≤ A) g g' σ σ' w w' → (∀ j, n + 1 ≤ j → j < ops.size → σ'.get (base + j) = none) → wpOps P ops Q (List.range' (n + 1) l.length) (a.put o.dst v') w') → o.wp P a w (wpOps P ops Q (List.range' (n + 1) l.length)) Q := by
        intro f k2 hst he2 hcont
        refine hst env L base σ k2 r he2 g w a _ Q hg hr (hfree n (Nat.le_refl _) hn) (by omega) hρ fun v σ' v' w' g' q0 q1 q2 q3 => ?_
        refine hcont v v' σ' w' g' q0 q1 q2 (q3.mono fun A hA => by rcases hA with rfl | hA <;> omega) fun j h1 h2 => ?_
        have hnone := hfree j (by omega) h2
        rw [q3.frame (base + j) (hr.none_of hnone) (by omega)]
        exact hnone
      split at hX
      · rename_i x d hp hcp hdd
        obtain ⟨hgd, hop, hlater⟩ := copyOf_spec hcp
        rw [hdd] at hp
        have hwant : Region.wanted o (yielded ops a.tmps) = true := by unfold Region.wanted; rw [hgd]
        rw [if_pos hwant]
        left
        split at hX
        · rename_i b hb
          classical
          have hmv := (mov_ok (P := P) (gl := gl) (n := n) hop hb).toW
          refine step (k2 := fun v σ2 => if σ2 = σ ∧ v = b.get env L then xops P call X env L base σ k else none) hmv ?_ fun v v' σ' w' g' q0 q1 q2 q3 q4 => ?_
          · unfold iMov
            rw [forceX_eq]
            simp only [and_self, if_true]
            exact he
          · split at q0
            · rename_i hq
              obtain ⟨rfl, rfl⟩ := hq
              obtain ⟨c1, c2⟩ := (hx.mono q3.le).copy hw hdd (hd d hdd) hp hlater hb q1 rfl
              exact rest i _ X env L σ' g' w' _ hX c2 q3 q4 q2 c1 q0
            · cases q0
        · cases hX
      · split at hX
        · rename_i ins hins
          have hio := compIns_ok hc hins
          split at hX
          · rename_i X2 hX2
            have go : ∀ (v : XV) (v' : Value) (σ' : St) (w' : World) (g' : Gam), VRel g' v.out v' → Rel g' σ' w' → Ext (fun A => base ≤ A) g g' σ σ' w w' → (∀ j, n + 1 ≤ j → j < ops.size → σ'.get (base + j) = none) →
                xops P call X2 (putE (dstVar K o.dst) v env) (v :: L) base σ' k = some r → wpOps P ops Q (List.range' (n + 1) l.length) (a.put o.dst v') w' := by
              intro v v' σ' w' g' q1 q2 q3 q4 q5
              obtain ⟨c1, c2⟩ := (hx.mono q3.le).push hw hd q1
              exact rest (i + 1) _ X2 _ _ σ' g' w' _ hX2 c2 q3 q4 q2 c1 q5
            split at hX
            · rename_i hgd
              have hwant : Region.wanted o (yielded ops a.tmps) = true := by unfold Region.wanted; rw [hgd]
              rw [if_pos hwant]
              left
              split at hX
              · rename_i hp
                cases hX
                have he : xins P call ins env L base σ (fun v σ => xops P call X2 env (v :: L) base σ k) = some r := he
                refine step hio he fun v v' σ' w' g' he2 q1 q2 q3 q4 => go v v' σ' w' g' q1 q2 q3 q4 ?_
                rw [hp]; exact he2
              · rename_i p hp
                cases hX
                have he : xins P call ins env L base σ (fun v σ => setK p v env fun env => xops P call X2 env (v :: L) base σ k) = some r := he
                refine step hio he fun v v' σ' w' g' he2 q1 q2 q3 q4 => go v v' σ' w' g' q1 q2 q3 q4 ?_
                rw [setK_eq] at he2
                rw [hp]; exact he2
            · rename_i j want hgd
              split at hX
              · rename_i d hjd
                split at hX
                · rename_i gd hgr
                  cases hX
                  have hdN : d < a.tmps.size := by
                    rw [hx.size]
                    unfold okGuard at ok2
                    rw [hgd] at ok2
                    simp only [hjd] at ok2
                    simpa using ok2
                  have hyv := hx.told d gd hgr
                  have hy := yielded_of hjd hdN hyv
                  have hwant : Region.wanted o (yielded ops a.tmps) = (yielded ops a.tmps j == some want) := by unfold Region.wanted; rw [hgd]
                  rw [hwant, hy]
                  obtain ⟨p, hp⟩ : ∃ p, p = dstVar K o.dst := ⟨_, rfl⟩
                  rw [← hp] at he go
                  have skip : (Option.casesOn p (xops P call X2 env (.oth undef :: L) base σ k) (fun p => setK p (.oth undef) env fun env => xops P call X2 env (.oth undef :: L) base σ k) : R) = some r → wpOps P ops Q (List.range' (n + 1) l.length) (a.put o.dst undef) w := by
                    intro hs
                    refine go (.oth undef) undef σ w g (.tuple _ _ rfl fun i h => by simp at h) hr (Ext.refl _ _ _ _) (fun j h1 h2 => hfree j (by omega) h2) ?_
                    cases p with
                    | none => exact hs
                    | some p => simp only [setK_eq] at hs; exact hs
                  have he : (XV.casesOn (gd.get env L)
                      (fun _ _ => Option.casesOn p (xops P call X2 env (.oth undef :: L) base σ k) (fun p => setK p (.oth undef) env fun env => xops P call X2 env (.oth undef :: L) base σ k))
                      (fun b => cond (b == want) (xins P call ins env L base σ fun v σ => Option.casesOn p (xops P call X2 env (v :: L) base σ k) (fun p => setK p v env fun env => xops P call X2 env (v :: L) base σ k))
                          (Option.casesOn p (xops P call X2 env (.oth undef :: L) base σ k) (fun p => setK p (.oth undef) env fun env => xops P call X2 env (.oth undef :: L) base σ k)))
                      (fun _ _ => Option.casesOn p (xops P call X2 env (.oth undef :: L) base σ k) (fun p => setK p (.oth undef) env fun env => xops P call X2 env (.oth undef :: L) base σ k))
                      (fun v => match v with
                        | .bool _ => none
                        | _ => Option.casesOn p (xops P call X2 env (.oth undef :: L) base σ k) (fun p => setK p (.oth undef) env fun env => xops P call X2 env (.oth undef :: L) base σ k)) : R) = some r := he
                  generalize gd.get env L = xg at he
                  cases xg with
                  | nat _ _ => exact skip he
                  | nxt _ _ => exact skip he
                  | oth v =>
                    cases v with
                    | bool _ => cases he
                    | _ => exact skip he
                  | bool b =>
                    by_cases hb : b = want
                    · subst hb
                      rw [if_pos (by simp [boolOf, XV.out])]
                      simp only [beq_self_eq_true, cond_true] at he
                      left
                      refine step hio he fun v v' σ' w' g' he2 q1 q2 q3 q4 => go v v' σ' w' g' q1 q2 q3 q4 ?_
                      cases p with
                      | none => exact he2
                      | some p => simp only [setK_eq] at he2; exact he2
                    · have h1 : (b == want) = false := by simpa using hb
                      simp only [h1, cond_false] at he
                      rw [if_neg (by simp [boolOf, XV.out]; exact hb)]
                      exact skip he
                · cases hX
              · cases hX
          · cases hX
        · cases hX
    · cases hX
end
end Go.Ev

namespace Go.Ev
open Go
set_option linter.unusedVariables false
set_option linter.unusedSimpArgs false

theorem instK_eq : ∀ (l : List (Nat × AObj)) (σ : St) (k : St → R), instK l σ k = k (l.foldl (fun σ x => σ.set x.1 x.2) σ)
  | [], σ, k => rfl
  | x :: l, σ, k => by
    show setBlk x.1 x.2 σ (fun σ => instK l σ k) = _
    rw [setBlk_eq, instK_eq l]; rfl
theorem putK_eq (p : Option (List Bool)) (v : XV) (env : XEnv) (k : XEnv → R) : putK p v env k = k (putE p v env) := by
  cases p with
  | none => rfl
  | some p => exact setK_eq p v env k
theorem mapT_set {α β : Type} (f : α → β) : ∀ (p : List Bool) (x : α) (t : Tr α), mapT f (t.set p x) = (mapT f t).set p (f x)
  | [], x, .nil => rfl
  | [], x, .node v l r => rfl
  | b :: p, x, .nil => by
    have := mapT_set f p x .nil
    simp only [mapT] at this
    cases b <;> simp [Tr.set, mapT, this]
  | b :: p, x, .node v l r => by
    have h1 := mapT_set f p x l
    have h2 := mapT_set f p x r
    cases b <;> simp [Tr.set, mapT, h1, h2]

theorem rank_range : ∀ (m s t r : Nat), rank (List.range' s m) t s = some r → r = t ∧ s ≤ t ∧ t < s + m
  | 0, s, t, r, h => by simp [rank] at h
  | m + 1, s, t, r, h => by
    rw [List.range'_succ] at h
    simp only [rank] at h
    split at h
    · rename_i e
      rw [Nat.beq_eq] at e
      cases h
      omega
    · have := rank_range m (s + 1) t r h
      omega
theorem rank_in : ∀ (m s t : Nat), s ≤ t → t < s + m → rank (List.range' s m) t s = some t
  | 0, s, t, h1, h2 => by omega
  | m + 1, s, t, h1, h2 => by
    rw [List.range'_succ]
    simp only [rank]
    by_cases e : s = t
    · subst e
      have : Nat.beq s s = true := by simp
      rw [this]; rfl
    · have : Nat.beq s t = false := by rw [← Bool.not_eq_true, Nat.beq_eq]; exact e
      rw [this]
      exact rank_in m (s + 1) t (by omega) (by omega)
theorem varOf_range {N t : Nat} {p : List Bool} (h : varOf (List.range N) t = some p) : t < N ∧ p = path t := by
  obtain ⟨r, h1, rfl⟩ := map_some h
  rw [List.range_eq_range'] at h1
  obtain ⟨rfl, _, h2⟩ := rank_range N 0 t r h1
  exact ⟨by omega, rfl⟩
theorem varOf_range_in {N t : Nat} (h : t < N) : varOf (List.range N) t = some (path t) := by
  unfold varOf
  rw [List.range_eq_range', rank_in N 0 t (by omega) (by omega)]
  rfl

theorem get_mapT {α β : Type} (f : α → β) : ∀ (t : Tr α) (p : List Bool), (mapT f t).get p = (t.get p).map f
  | .nil, p => by cases p <;> rfl
  | .node v l r, [] => rfl
  | .node v l r, b :: p => by
    cases b
    · exact get_mapT f r p
    · exact get_mapT f l p

theorem okQ_spec {P : Program} {ops : Array Oper} {B : List Nat} (h : okQ P ops B = true) : okDraw P ops B = true ∧ ∀ (i : Nat) (o : Oper), ops[i]? = some o → clsOf P o.op = .loud → ∀ (k : Nat) (ok : Oper), ops[k]? = some ok →
    (clsOf P ok.op = .alloc → k < i → bit B i k = true) ∧ (clsOf P ok.op = .read → bit B i k = true ∨ bit B k i = true) := by
  unfold okQ at h
  simp only [Bool.and_eq_true, List.all_eq_true] at h
  refine ⟨h.1, fun i o ho hl k ok hk => ?_⟩
  have h1 := h.2 (o, i) (by rw [List.mem_zipIdx_iff_getElem?]; simpa using ho)
  simp only [hl, List.all_eq_true] at h1
  have h2 := h1 (ok, k) (by rw [List.mem_zipIdx_iff_getElem?]; simpa using hk)
  simp only at h2
  refine ⟨fun hc hlt => ?_, fun hc => ?_⟩
  · rw [hc] at h2
    simp only [Bool.or_eq_true, Bool.not_eq_true'] at h2
    rcases h2 with q | q
    · have : Nat.blt k i = true := by simp [Nat.blt, Nat.ble_eq]; omega
      rw [this] at q; cases q
    · exact q
  · rw [hc] at h2
    simpa using h2

theorem stepR_pure {P : Program} {gl : List Nat} {ρ : Operand → Value} {id : Nat} {o : Oper} {σ σ' : St} {v : Value} (hcl : clsOf P o.op = .pure) (h : StepR P gl ρ id o σ v σ') : σ' = σ ∧ PureW P ρ o v := by
  rcases h with h | ⟨f, args, h, _⟩ | ⟨h1, h2⟩ | ⟨h1, _⟩
  · obtain ⟨v2, q, q2⟩ := evalOp_pure hcl h
    cases q
    exact ⟨rfl, q2.2⟩
  · obtain ⟨v2, q, q2⟩ := evalOp_pure hcl h
    cases q
  · exact ⟨h1, h2⟩
  · rw [hcl] at h1; cases h1

theorem load_congr {P : Program} {ρ ρ2 : Operand → Value} {id : Nat} {o : Oper} {σ : St} {t : TypeId} {x : Operand} (ho : o.op = .load t x) (h : ∀ x ∈ o.op.operands, ρ x = ρ2 x) : evalOp P ρ id o σ = evalOp P ρ2 id o σ := by
  have := h x (by rw [ho]; simp [Op.operands])
  unfold evalOp
  rw [ho]
  simp only [this]

theorem dcall_sim {P : Program} {gl : List Nat} {call : KF} (hc : call.ok P gl) {f : FuncId} {vs : List XV} {σ σ' : St} {v : Value} (h : call f vs σ (fun v σ' => some (v.out, σ')) = some (v, σ')) : SimF P gl f (vs.map XV.out).toArray σ v σ' := by
  intro g w args' hg hr ha
  refine hc _ _ _ _ _ h g w args' _ hg hr ha fun x σ2 v' w' g' q1 q2 q3 q4 => ?_
  simp only [Option.some.injEq, Prod.mk.injEq] at q1
  obtain ⟨rfl, rfl⟩ := q1
  exact ⟨v', g', rfl, q2, q3, q4⟩

/-! ## Rows -/
def pendL (base : Nat) (B : List Nat) (R : List TRow) : List (Nat × AObj) := (pendAt (rlo R) (ral R) B R.length).map fun k => (base + k, rao R k)
theorem pendL_inst (base : Nat) (B : List Nat) (R : List TRow) (τ : St) : (pendL base B R).foldl (fun σ x => σ.set x.1 x.2) τ = instL base (rao R) (pendAt (rlo R) (ral R) B R.length) τ := by
  unfold pendL instL
  rw [List.foldl_map]
theorem row_old {R S : List TRow} {j : Nat} (h : j < R.length) : (R ++ S)[j]? = R[j]? := List.getElem?_append_left h
theorem rlo_old {R S : List TRow} {j : Nat} (h : j < R.length) : rlo (R ++ S) j = rlo R j := by unfold rlo; rw [row_old h]
theorem ral_old {R S : List TRow} {j : Nat} (h : j < R.length) : ral (R ++ S) j = ral R j := by unfold ral; rw [row_old h]
theorem rao_old {R S : List TRow} {j : Nat} (h : j < R.length) : rao (R ++ S) j = rao R j := by unfold rao; rw [row_old h]
theorem row_new {R S : List TRow} {r : TRow} : (R ++ r :: S)[R.length]? = some r := by simp
theorem pendAt_lt {lo al : Nat → Bool} {B : List Nat} {p k : Nat} (h : k ∈ pendAt lo al B p) : k < p := by
  simp only [pendAt, List.mem_filter, List.mem_range] at h; exact h.1
theorem gone_step {lo : Nat → Bool} {B : List Nat} {p k : Nat} : gone lo B (p + 1) k = (gone lo B p k || (lo p && bit B p k)) := by
  unfold gone
  rw [List.range_succ, List.any_append]
  simp

theorem pendL_snoc {P : Program} {ops : Array Oper} {base : Nat} {B : List Nat} {R : List TRow} {r : TRow} (hs : OkDraw P ops B) (hlo : (r.k == 4) = false) :
    pendL base B (R ++ [r]) = pendL base B R ++ (if (r.k == 2) = true then [(base + R.length, r.ao)] else []) := by
  have hlast : rlo (R ++ [r]) R.length = false := by unfold rlo; rw [row_new]; exact hlo
  unfold pendL
  rw [List.length_append, List.length_singleton]
  unfold pendAt
  rw [List.range_succ, List.filter_append, List.map_append]
  congr 1
  · rw [List.filter_congr (q := fun k => ral R k && !gone (rlo R) B R.length k)]
    · refine List.map_congr_left fun k hk => ?_
      have : k < R.length := List.mem_range.1 (List.mem_filter.1 hk).1
      rw [rao_old this]
    · intro k hk
      have hk := List.mem_range.1 hk
      rw [ral_old hk, gone_step, hlast, gone_congr (lo' := rlo R) (fun j hj => rlo_old hj)]
      simp
  · have hg : gone (rlo (R ++ [r])) B (R.length + 1) R.length = false := by
      cases h : gone (rlo (R ++ [r])) B (R.length + 1) R.length with
      | false => rfl
      | true =>
        rw [gone_ex] at h
        obtain ⟨j, h1, _, h3⟩ := h
        have := hs.lt j R.length h3
        omega
    have ha : ral (R ++ [r]) R.length = (r.k == 2) := by unfold ral; rw [row_new]
    have hao : rao (R ++ [r]) R.length = r.ao := by unfold rao; rw [row_new]
    simp only [List.filter_cons, List.filter_nil, ha, hg]
    cases (r.k == 2) <;> simp [hao]

theorem pendL_loud {base : Nat} {B : List Nat} {R : List TRow} {r : TRow} (hk : r.k = 4) (hall : ∀ k, k < R.length → ral R k = true → bit B R.length k = true) : pendL base B (R ++ [r]) = [] := by
  unfold pendL
  rw [List.map_eq_nil_iff]
  unfold pendAt
  rw [List.filter_eq_nil_iff]
  intro k hk2
  have hk2 := List.mem_range.1 hk2
  rw [List.length_append, List.length_singleton] at hk2 ⊢
  have hlast : rlo (R ++ [r]) R.length = true := by unfold rlo; rw [row_new]; simp [hk]
  by_cases e : k = R.length
  · subst e
    have : ral (R ++ [r]) R.length = false := by unfold ral; rw [row_new]; simp [hk]
    simp [this]
  · have hlt : k < R.length := by omega
    rw [ral_old hlt]
    cases ha : ral R k with
    | false => simp
    | true => rw [gone_step, hlast, hall k hlt ha]; simp

theorem inst_pend {lo al : Nat → Bool} {B : List Nat} {i : Nat} (hall : ∀ k, k < i → al k = true → bit B i k = true) : instAt lo al B i = pendAt lo al B i := by
  unfold instAt pendAt
  refine List.filter_congr fun k hk => ?_
  have hk := List.mem_range.1 hk
  cases ha : al k with
  | false => simp
  | true => rw [hall k hk ha]; simp

/-- What a row says of its operation. -/
def RowOk2 (P : Program) (gl : List Nat) (ops : Array Oper) (base : Nat) (B : List Nat) (e : Nat → Env) (τ : Nat → St) (val : Nat → Value) (ao : Nat → AObj) (lo al : Nat → Bool) (i : Nat) (o : Oper) : Prop :=
  (wantedA ops (e i) o = false ∧ val i = undef ∧ lo i = false ∧ al i = false ∧ τ (i + 1) = τ i) ∨
  (wantedA ops (e i) o = true ∧ lo i = false ∧ al i = false ∧ τ (i + 1) = τ i ∧ PureW P (rho (e i)) o (val i)) ∨
  (wantedA ops (e i) o = true ∧ lo i = false ∧ al i = true ∧ τ (i + 1) = τ i ∧ AllocW P (rho (e i)) o (base + i) (val i) (ao i)) ∨
  (wantedA ops (e i) o = true ∧ lo i = false ∧ al i = false ∧ τ (i + 1) = τ i ∧ clsOf P o.op = .read ∧ evalOp P (rho (e i)) (base + i) o (τ i) = some (.val (val i) (τ i))) ∨
  (wantedA ops (e i) o = true ∧ lo i = true ∧ al i = false ∧ clsOf P o.op = .loud ∧ ∃ ρ, (∀ x ∈ o.op.operands, ρ x = rho (e i) x) ∧ StepR P gl ρ (base + i) o (instL base ao (instAt lo al B i) (τ i)) (val i) (τ (i + 1)))

theorem rhoX_rho {N : Nat} {env : XEnv} {x : Operand} (hx : (resolve [] (List.range N) 0 x).isSome = true) : rhoX [] (List.range N) 0 env [] x = rho (mapT XV.out env) x := by
  cases x with
  | tmp t =>
    rw [resolve_tmp] at hx
    simp only [look] at hx
    cases hv : varOf (List.range N) t with
    | none => rw [hv] at hx; cases hx
    | some p =>
      obtain ⟨h1, rfl⟩ := varOf_range hv
      have : resolve [] (List.range N) 0 (.tmp t) = some (.var (path t)) := by rw [resolve_tmp]; simp only [look, hv]; rfl
      rw [rhoX_eq this, get_var]
      show _ = eget _ t
      unfold eget
      rw [get_mapT]
      cases env.get (path t) <;> rfl
  | const v => exact rhoX_const v
  | global b => exact rhoX_global b
  | func f => exact rhoX_func f
end Go.Ev

namespace Go.Ev
open Go
set_option linter.unusedVariables false
set_option linter.unusedSimpArgs false

section
variable {P : Program} {gl : List Nat} {call : KF} {ops : Array Oper} {N base : Nat} {B : List Nat}

theorem pendL_q {R : List TRow} {r : TRow} (hs : OkDraw P ops B) (h4 : (r.k == 4) = false) (h2 : (r.k == 2) = false) : pendL base B (R ++ [r]) = pendL base B R := by
  rw [pendL_snoc (P := P) (ops := ops) hs h4, h2]
  simp
theorem pendL_a {R : List TRow} {r : TRow} (hs : OkDraw P ops B) (h2 : r.k = 2) : pendL base B (R ++ [r]) = pendL base B R ++ [(base + R.length, r.ao)] := by
  rw [pendL_snoc (P := P) (ops := ops) hs (by rw [h2]; rfl), h2]
  rfl
theorem eputo_env {env : XEnv} {o : Oper} {v : XV} (hd : ∀ d, o.dst = some d → d < N) : mapT XV.out (putE (dstVar (List.range N) o.dst) v env) = eputo (mapT XV.out env) o.dst v.out := by
  cases h : o.dst with
  | none => rfl
  | some d =>
    have : dstVar (List.range N) (some d) = some (path d) := varOf_range_in (hd d h)
    rw [this]
    exact mapT_set _ _ _ _

theorem eget_mapT (env : XEnv) (t : Nat) : eget (mapT XV.out env) t = (orUndef (env.get (path t))).out := by
  unfold eget
  rw [get_mapT]
  cases env.get (path t) <;> rfl

/-- The guard, as it is asked. -/
theorem guard_spec {o : Oper} {g : Option (XArg × Bool)} (hg : compDG (List.range N) ops o = some g) {env : XEnv} {A C : R} {r : Value × St}
    (h : (Option.casesOn g A (fun gw => XV.casesOn (gw.1.get env []) (fun _ _ => C) (fun b => cond (b == gw.2) A C) (fun _ _ => C) (fun v => match v with
          | .bool _ => none
          | _ => C)) : R) = some r) : (wantedA ops (mapT XV.out env) o = true ∧ A = some r) ∨ (wantedA ops (mapT XV.out env) o = false ∧ C = some r) := by
  unfold compDG at hg
  unfold wantedA
  cases hgd : o.guard with
  | none =>
    rw [hgd] at hg
    cases hg
    exact .inl ⟨rfl, h⟩
  | some p =>
    obtain ⟨j, want⟩ := p
    rw [hgd] at hg
    simp only at hg ⊢
    cases hd : (ops[j]?).bind (·.dst) with
    | none => rw [hd] at hg; cases hg
    | some d =>
      rw [hd] at hg
      simp only at hg
      obtain ⟨a, ha, rfl⟩ := map_some hg
      rw [resolve_tmp] at ha
      simp only [look] at ha
      obtain ⟨p, hp, rfl⟩ := map_some ha
      obtain ⟨_, rfl⟩ := varOf_range hp
      have hy : yieldsA ops (mapT XV.out env) j = boolOf (orUndef (env.get (path d))).out := by
        unfold yieldsA
        rw [hd]
        simp only [eget_mapT]
        unfold boolOf
        cases (orUndef (env.get (path d))).out <;> rfl
      have h : (XV.casesOn ((XArg.var (path d)).get env []) (fun _ _ => C) (fun b => cond (b == want) A C) (fun _ _ => C) (fun v => match v with
          | .bool _ => none
          | _ => C) : R) = some r := h
      rw [get_var] at h
      rw [hy]
      generalize orUndef (env.get (path d)) = x at h ⊢
      cases x with
      | nat _ _ => exact .inr ⟨rfl, h⟩
      | nxt _ _ => exact .inr ⟨rfl, h⟩
      | bool b =>
        have h : cond (b == want) A C = some r := h
        simp only [boolOf, XV.out]
        cases hb : b == want with
        | true => rw [hb] at h; exact .inl ⟨by have := (by simpa using hb : b = want); simp [this], h⟩
        | false => rw [hb] at h; exact .inr ⟨by have := (by simpa using hb : b ≠ want); simp [this], h⟩
      | oth v =>
        cases v <;> first | (cases h; done) | exact .inr ⟨rfl, h⟩

theorem compDI_spec {o : Oper} {n : Nat} {b : Bool} {d : DI} (h : compDI P (List.range N) n o = some (b, d)) : (∀ x ∈ o.op.operands, (resolve [] (List.range N) 0 x).isSome = true) ∧ compDI0 P (List.range N) n o = some (b, d) := by
  unfold compDI at h
  cases hc : o.op.operands.toList.all (fun x => (resolve [] (List.range N) 0 x).isSome) with
  | false => rw [hc] at h; cases h
  | true =>
    rw [hc] at h
    rw [List.all_eq_true] at hc
    exact ⟨fun x hx => hc x (by simpa using hx), h⟩

/-- One operation's run. -/
theorem xdrun_spec (hc : call.ok P gl) {o : Oper} {n : Nat} {b : Bool} {d : DI} (h : compDI P (List.range N) n o = some (b, d)) {g : Option (XArg × Bool)} {p : Option (List Bool)} {env : XEnv} {τ : St} {pend : List (Nat × AObj)} {k : XV → St → List (Nat × AObj) → R} {r : Value × St}
    (e : xdrun P call ⟨b, g, p, d⟩ env base τ pend k = some r) :
    (∃ v : XV, clsOf P o.op = .pure ∧ PureW P (rho (mapT XV.out env)) o v.out ∧ k v τ pend = some r) ∨
    (∃ v : XV, clsOf P o.op = .read ∧ evalOp P (rho (mapT XV.out env)) (base + n) o τ = some (.val v.out τ) ∧ k v τ pend = some r) ∨
    (∃ (v : XV) (ao : AObj), clsOf P o.op = .alloc ∧ AllocW P (rho (mapT XV.out env)) o (base + n) v.out ao ∧ k v τ (pend ++ [(base + n, ao)]) = some r) ∨
    (∃ (v : XV) (σ' : St), clsOf P o.op = .loud ∧ (∃ ρ, (∀ x ∈ o.op.operands, ρ x = rho (mapT XV.out env) x) ∧ StepR P gl ρ (base + n) o (pend.foldl (fun σ x => σ.set x.1 x.2) τ) v.out σ') ∧ k v σ' [] = some r) := by
  obtain ⟨hres, h⟩ := compDI_spec h
  have hrx : ∀ x ∈ o.op.operands, rhoX [] (List.range N) 0 env [] x = rho (mapT XV.out env) x := fun x hx => rhoX_rho (hres x hx)
  have hrg : ∀ m, resolveT [] (List.range N) 0 o.op.operands.toList = some m → ∀ x ∈ o.op.operands, rgen m env [] x = rho (mapT XV.out env) x := fun m hm x hx => by
    rw [resolveT_spec _ m hm x (by simpa using hx)]; exact hrx x hx
  unfold compDI0 at h
  cases hcl : clsOf P o.op with
  | pure =>
    rw [hcl] at h
    obtain ⟨i, hi, he⟩ := map_some h
    cases he
    have e : xins P call i env [] base τ (fun v σ => k v σ pend) = some r := e
    obtain ⟨ρ, hρ, v, σ', hst, hk⟩ := compIns_ok2 (call := call) (gl := gl) (.inl (.inl hcl)) hi env [] base τ _ r e
    obtain ⟨rfl, hp⟩ := stepR_pure hcl hst
    exact .inl ⟨v, rfl, hp.congr fun x hx => (hρ x hx).trans (hrx x hx), hk⟩
  | read =>
    rw [hcl] at h
    simp only at h
    cases hl : isLoadOp o.op with
    | false => rw [hl] at h; cases h
    | true =>
      rw [hl] at h
      obtain ⟨i, hi, he⟩ := map_some h
      cases he
      have e : xins P call i env [] base τ (fun v σ => k v σ pend) = some r := e
      cases ho : o.op with
      | load t x =>
        have hcg := load_congr (P := P) (ρ := rhoX [] (List.range N) 0 env []) (ρ2 := rho (mapT XV.out env)) (id := base + n) (σ := τ) ho hrx
        unfold compIns at hi
        rw [ho] at hi
        simp only at hi
        split at hi
        · rename_i hld
          obtain ⟨a, ha, rfl⟩ := map_some hi
          obtain ⟨v, h1, h2⟩ := load1_ev (n := n) ho hld ha env [] base τ (fun v σ => k v σ pend) r e
          exact .inr (.inl ⟨v, rfl, by rw [← hcg]; exact h1, h2⟩)
        · rename_i m hld
          obtain ⟨a, ha, rfl⟩ := map_some hi
          obtain ⟨v, h1, h2⟩ := loadN_ev (n := n) ho hld ha env [] base τ (fun v σ => k v σ pend) r e
          exact .inr (.inl ⟨v, rfl, by rw [← hcg]; exact h1, h2⟩)
        · cases hi
      | _ => rw [ho] at hl; cases hl
  | alloc =>
    rw [hcl] at h
    obtain ⟨m, hm, he⟩ := map_some h
    cases he
    have e : xdi P call (.al o m n) env base τ (fun v ao τ' => k v τ' (pushP ao pend)) = some r := e
    simp only [xdi, evalOpQ_eq] at e
    split at e
    · rename_i v σ' he
      obtain ⟨v2, ao, q1, q2⟩ := evalOp_alloc hcl he
      cases q1
      split at e
      · rename_i ao2 hb
        rw [blk_eq, St.get_set, if_pos rfl] at hb
        cases hb
        rw [take_eq] at e
        refine .inr (.inr (.inl ⟨xvOf v, ao, rfl, ?_, e⟩))
        rw [xvOf_out]
        exact AllocW.congr (ρ := rgen m env []) ⟨q2.2.1, q2.2.2⟩ (hrg m hm)
      · cases e
    · cases e
  | loud =>
    rw [hcl] at h
    simp only at h
    cases hs : isStoreOp o.op with
    | true =>
      rw [hs] at h
      obtain ⟨i, hi, he⟩ := map_some h
      cases he
      have e : instK pend τ (fun σ => xins P call i env [] base σ (fun v σ => k v σ [])) = some r := e
      rw [instK_eq] at e
      obtain ⟨ρ, hρ, v, σ', hst, hk⟩ := compIns_ok2 (call := call) (gl := gl) (.inr hs) hi env [] base _ _ r e
      exact .inr (.inr (.inr ⟨v, σ', rfl, ⟨ρ, fun x hx => (hρ x hx).trans (hrx x hx), hst⟩, hk⟩))
    | false =>
      rw [hs] at h
      obtain ⟨m, hm, he⟩ := map_some h
      cases he
      have e : instK pend τ (fun σ => xdi P call (.gen o m n) env base σ (fun v _ σ => k v σ [])) = some r := e
      rw [instK_eq] at e
      simp only [xdi, evalOpQ_eq] at e
      split at e
      · rename_i v σ' he
        rw [normK_eq, take_eq] at e
        exact .inr (.inr (.inr ⟨xvOf v, σ', rfl, ⟨_, hrg m hm, by rw [xvOf_out]; exact .inl he⟩, e⟩))
      · rename_i f args he
        rw [takes_eq] at e
        unfold dcall at e
        split at e
        · rename_i v σ' hcall
          rw [take_eq] at e
          have hsim := dcall_sim hc hcall
          have h2 : ((args.toList.map xvOf).map XV.out).toArray = args := by
            rw [List.map_map]
            have : (XV.out ∘ xvOf) = id := funext xvOf_out
            rw [this, List.map_id]
          rw [h2] at hsim
          exact .inr (.inr (.inr ⟨xvOf v, σ', rfl, ⟨_, hrg m hm, by rw [xvOf_out]; exact .inr (.inl ⟨f, args, he, hsim⟩)⟩, e⟩))
        · cases e
      · cases e

theorem xdq_spec (hc : call.ok P gl) (hs : OkDraw P ops B) (hq : ∀ (i : Nat) (o : Oper), ops[i]? = some o → clsOf P o.op = .loud → ∀ (k : Nat) (ok : Oper), ops[k]? = some ok → (clsOf P ok.op = .alloc → k < i → bit B i k = true) ∧ (clsOf P ok.op = .read → bit B i k = true ∨ bit B k i = true))
    (hok : ∀ o ∈ ops.toList, okOper gl N o = true) {k : XEnv → St → R} {r : Value × St} : ∀ (l : List Oper) (X : List DQ) (env : XEnv) (τ : St) (Rw : List TRow),
    compDQ P (List.range N) ops l Rw.length = some X → (∀ j o, l[j]? = some o → ops[Rw.length + j]? = some o) → Rw.length + l.length = ops.size →
    (∀ j, j < Rw.length → ral Rw j = true → ∃ o, ops[j]? = some o ∧ clsOf P o.op = .alloc) →
    xdq P call X env base τ (pendL base B Rw) k = some r →
    ∃ (R' : List TRow) (env' : XEnv) (τ' : St), (∃ S, R' = Rw ++ S ∧ S.length = l.length) ∧ k env' (instL base (rao R') (pendAt (rlo R') (ral R') B ops.size) τ') = some r ∧
      renv R' (mapT XV.out env') Rw.length = mapT XV.out env ∧ rst R' τ' Rw.length = τ ∧
      ∀ j o, l[j]? = some o → renv R' (mapT XV.out env') (Rw.length + j + 1) = eputo (renv R' (mapT XV.out env') (Rw.length + j)) o.dst (rval R' (Rw.length + j)) ∧
        RowOk2 P gl ops base B (renv R' (mapT XV.out env')) (rst R' τ') (rval R') (rao R') (rlo R') (ral R') (Rw.length + j) o
  | [], X, env, τ, Rw, hX, hl, hlen, hal, h => by
    simp only [compDQ, Option.some.injEq] at hX
    subst hX
    have h : instK (pendL base B Rw) τ (fun σ => k env σ) = some r := h
    rw [instK_eq, pendL_inst] at h
    simp only [List.length_nil, Nat.add_zero] at hlen
    refine ⟨Rw, env, τ, ⟨[], by simp⟩, by rw [← hlen]; exact h, ?_, ?_, fun j o hj => by simp at hj⟩
    · unfold renv; rw [List.getElem?_eq_none (Nat.le_refl _)]
    · unfold rst; rw [List.getElem?_eq_none (Nat.le_refl _)]
  | o :: l, X, env, τ, Rw, hX, hl, hlen, hal, h => by
    have hoi : ops[Rw.length]? = some o := by have := hl 0 o rfl; simpa using this
    have hd : ∀ d, o.dst = some d → d < N := okDst (hok o (by rw [Array.mem_toList_iff]; exact Array.mem_of_getElem? hoi))
    simp only [compDQ] at hX
    split at hX
    · rename_i b d g X2 hdi hdg hX2
      cases hX
      -- the rows behind
      have behind : ∀ (r0 : TRow) (v : XV) (τ2 : St), r0.v = v.out → r0.env = mapT XV.out env → r0.st = τ →
          xdq P call X2 (putE (dstVar (List.range N) o.dst) v env) base τ2 (pendL base B (Rw ++ [r0])) k = some r → ((r0.k == 2) = true → clsOf P o.op = .alloc) →
          (∀ (R' : List TRow) (e' : Env) (τ' : St), (∃ S, R' = Rw ++ r0 :: S) → renv R' e' Rw.length = mapT XV.out env → rst R' τ' Rw.length = τ → rst R' τ' (Rw.length + 1) = τ2 → rval R' Rw.length = v.out → rao R' Rw.length = r0.ao → rlo R' Rw.length = (r0.k == 4) → ral R' Rw.length = (r0.k == 2) →
            RowOk2 P gl ops base B (renv R' e') (rst R' τ') (rval R') (rao R') (rlo R') (ral R') Rw.length o) →
          ∃ (R' : List TRow) (env' : XEnv) (τ' : St), (∃ S, R' = Rw ++ S ∧ S.length = (o :: l).length) ∧ k env' (instL base (rao R') (pendAt (rlo R') (ral R') B ops.size) τ') = some r ∧
            renv R' (mapT XV.out env') Rw.length = mapT XV.out env ∧ rst R' τ' Rw.length = τ ∧
            ∀ j o', (o :: l)[j]? = some o' → renv R' (mapT XV.out env') (Rw.length + j + 1) = eputo (renv R' (mapT XV.out env') (Rw.length + j)) o'.dst (rval R' (Rw.length + j)) ∧
              RowOk2 P gl ops base B (renv R' (mapT XV.out env')) (rst R' τ') (rval R') (rao R') (rlo R') (ral R') (Rw.length + j) o' := by
        intro r0 v τ2 hv he hst hrun hk2 hrow
        have hlen2 : (Rw ++ [r0]).length = Rw.length + 1 := by simp
        obtain ⟨R', env', τ', ⟨S, hS, hSl⟩, h1, h2, h3, h4⟩ := xdq_spec hc hs hq hok l X2 _ τ2 (Rw ++ [r0]) (by rw [hlen2]; exact hX2) (fun j o' hj => by rw [hlen2]; have := hl (j + 1) o' (by simpa using hj); rwa [show Rw.length + 1 + j = Rw.length + (j + 1) by omega])
          (by rw [hlen2]; simp at hlen; omega) (fun j hj ha => by
            rw [hlen2] at hj
            by_cases e : j = Rw.length
            · subst e
              have : ral (Rw ++ [r0]) Rw.length = (r0.k == 2) := by unfold ral; rw [row_new]
              exact ⟨o, hoi, hk2 (by rw [← this]; exact ha)⟩
            · have hlt : j < Rw.length := by omega
              rw [ral_old hlt] at ha
              exact hal j hlt ha) hrun
        have hR' : R' = Rw ++ r0 :: S := by rw [hS]; simp
        have hget : R'[Rw.length]? = some r0 := by rw [hR']; exact row_new
        have e1 : renv R' (mapT XV.out env') Rw.length = mapT XV.out env := by unfold renv; rw [hget]; exact he
        have e2 : rst R' τ' Rw.length = τ := by unfold rst; rw [hget]; exact hst
        have e3 : rval R' Rw.length = v.out := by unfold rval; rw [hget]; exact hv
        have e4 : rlo R' Rw.length = (r0.k == 4) := by unfold rlo; rw [hget]
        have e5 : ral R' Rw.length = (r0.k == 2) := by unfold ral; rw [hget]
        have e6 : rao R' Rw.length = r0.ao := by unfold rao; rw [hget]
        rw [hlen2] at h2 h3 h4
        refine ⟨R', env', τ', ⟨r0 :: S, hR', by simp [hSl]⟩, h1, e1, e2, fun j o' hj => ?_⟩
        cases j with
        | succ j =>
          have := h4 j o' (by simpa using hj)
          rw [show Rw.length + (j + 1) = Rw.length + 1 + j by omega]
          exact this
        | zero =>
          simp only [List.getElem?_cons_zero, Option.some.injEq] at hj
          subst hj
          simp only [Nat.add_zero]
          refine ⟨by rw [h2, e1, e3, eputo_env hd], hrow R' _ τ' ⟨S, hR'⟩ e1 e2 h3 e3 e6 e4 e5⟩
      rcases guard_spec hdg h with ⟨hw, h⟩ | ⟨hw, h⟩
      · rcases xdrun_spec hc hdi h with ⟨v, hcl, hp, hk⟩ | ⟨v, hcl, hp, hk⟩ | ⟨v, ao, hcl, hp, hk⟩ | ⟨v, σ', hcl, hp, hk⟩
        · rw [putK_eq] at hk
          refine behind ⟨v.out, 1, .iter .empty 0, mapT XV.out env, τ⟩ v τ rfl rfl rfl (by rw [pendL_q (P := P) (ops := ops) hs rfl rfl]; exact hk) (fun q => by cases q) fun R' e' τ' _ q1 q2 q3 q4 q5 q6 q7 => ?_
          refine .inr (.inl ⟨by rw [q1]; exact hw, q6, q7, by rw [q3, q2], by rw [q1, q4]; exact hp⟩)
        · rw [putK_eq] at hk
          refine behind ⟨v.out, 3, .iter .empty 0, mapT XV.out env, τ⟩ v τ rfl rfl rfl (by rw [pendL_q (P := P) (ops := ops) hs rfl rfl]; exact hk) (fun q => by cases q) fun R' e' τ' _ q1 q2 q3 q4 q5 q6 q7 => ?_
          refine .inr (.inr (.inr (.inl ⟨by rw [q1]; exact hw, q6, q7, by rw [q3, q2], hcl, by rw [q1, q2, q4]; exact hp⟩)))
        · rw [putK_eq] at hk
          refine behind ⟨v.out, 2, ao, mapT XV.out env, τ⟩ v τ rfl rfl rfl (by rw [pendL_a (P := P) (ops := ops) hs rfl]; exact hk) (fun _ => hcl) fun R' e' τ' _ q1 q2 q3 q4 q5 q6 q7 => ?_
          refine .inr (.inr (.inl ⟨by rw [q1]; exact hw, q6, q7, by rw [q3, q2], by rw [q1, q4, q5]; exact hp⟩))
        · rw [putK_eq] at hk
          have hall : ∀ k, k < Rw.length → ral Rw k = true → bit B Rw.length k = true := fun k hk2 ha => by
            obtain ⟨ok, h1, h2⟩ := hal k hk2 ha
            exact (hq _ o hoi hcl k ok h1).1 h2 hk2
          refine behind ⟨v.out, 4, .iter .empty 0, mapT XV.out env, τ⟩ v σ' rfl rfl rfl (by rw [pendL_loud rfl hall]; exact hk) (fun q => by cases q) fun R' e' τ' hS q1 q2 q3 q4 q5 q6 q7 => ?_
          obtain ⟨S, hS⟩ := hS
          refine .inr (.inr (.inr (.inr ⟨by rw [q1]; exact hw, q6, q7, hcl, ?_⟩)))
          obtain ⟨ρ, hρ, hst⟩ := hp
          rw [pendL_inst] at hst
          refine ⟨ρ, fun x hx => by rw [q1]; exact hρ x hx, ?_⟩
          rw [q2, q3, q4]
          have e1 : instAt (rlo R') (ral R') B Rw.length = pendAt (rlo Rw) (ral Rw) B Rw.length := by
            rw [instAt_congr (lo' := rlo Rw) (al' := ral Rw) (fun j hj => by rw [hS]; exact rlo_old hj) (fun j hj => by rw [hS]; exact ral_old hj)]
            exact inst_pend hall
          rw [e1, instL_congr (ao' := rao Rw)]
          · exact hst
          · intro k hk2
            rw [hS]; exact rao_old (pendAt_lt hk2)
      · rw [putK_eq] at h
        refine behind ⟨undef, 0, .iter .empty 0, mapT XV.out env, τ⟩ (.oth undef) τ rfl rfl rfl (by rw [pendL_q (P := P) (ops := ops) hs rfl rfl]; exact h) (fun q => by cases q) fun R' e' τ' _ q1 q2 q3 q4 q5 q6 q7 => ?_
        refine .inl ⟨by rw [q1]; exact hw, q4, q6, q7, by rw [q3, q2]⟩
    · cases hX

theorem xdrawq_ok (hc : call.ok P gl) (hm : P.follows .mixedOrders = true) {id : Nat} {X : List DQ} (hQ : okQ P ops (befores ops) = true) (hX : compDQ P (List.range N) ops ops.toList 0 = some X) (hok : ∀ o ∈ ops.toList, okOper gl N o = true ∧ okGuard ops N o = true)
    {env : XEnv} {σ : St} {k : XEnv → St → R} {r : Value × St} (h : xdq P call X env σ.next (σ.bump ops.size) [] k = some r) :
    ∃ (env' : XEnv) (σ' : St), k env' σ' = some r ∧ SimC P gl N (.region id ops true) (mapT XV.out env) σ .normal (mapT XV.out env') σ' := by
  obtain ⟨hdr, hq⟩ := okQ_spec hQ
  have hs := okDraw_ok hdr
  obtain ⟨R', env', τ', ⟨S, hS, hSl⟩, h1, h2, h3, h4⟩ := xdq_spec (base := σ.next) hc hs hq (fun o ho => (hok o ho).1) ops.toList X env (σ.bump ops.size) [] hX (fun j o hj => by simpa using hj) (by simp) (fun j hj => by simp at hj) h
  simp only [List.nil_append] at hS
  subst hS
  simp only [Array.length_toList] at hSl
  simp only [List.length_nil, Nat.zero_add] at h2 h3 h4
  have hlast1 : renv R' (mapT XV.out env') ops.size = mapT XV.out env' := by unfold renv; rw [List.getElem?_eq_none (by omega)]
  have hlast2 : rst R' τ' ops.size = τ' := by unfold rst; rw [List.getElem?_eq_none (by omega)]
  have ht : Trc P gl ops σ.next (befores ops) (renv R' (mapT XV.out env')) (rst R' τ') (rval R') (rao R') (rlo R') (ral R') := by
    refine ⟨fun i o ho => (h4 i o (by simpa using ho)).1, fun i o ho => ?_, fun i hi => ?_, fun i hi => ?_⟩
    · rcases (h4 i o (by simpa using ho)).2 with q | q | q | q | q
      · exact .inl q
      · exact .inr (.inl q)
      · exact .inr (.inr (.inl q))
      · obtain ⟨k1, k2, k3, k4, k5, k6⟩ := q
        refine .inr (.inr (.inr (.inl ⟨k1, k2, k3, k4, k5, k6, fun j hj hl b1 b2 => ?_⟩)))
        exfalso
        have hoj : ops[j]? = some ops[j] := Array.getElem?_eq_getElem hj
        rcases (h4 j ops[j] (by simp [hj])).2 with q | q | q | q | q
        · rw [hl] at q; cases q.2.2.1
        · rw [hl] at q; cases q.2.1
        · rw [hl] at q; cases q.2.1
        · rw [hl] at q; cases q.2.1
        · rcases (hq j _ hoj q.2.2.2.1 i o ho).2 k5 with p | p
          · rw [b2] at p; cases p
          · rw [b1] at p; cases p
      · exact .inr (.inr (.inr (.inr ⟨q.1, q.2.1, q.2.2.1, q.2.2.2.2⟩)))
    · have hin : i < ops.size := by
        rcases Nat.lt_or_ge i ops.size with q | q
        · exact q
        · unfold rlo at hi; rw [List.getElem?_eq_none (by omega)] at hi; cases hi
      refine ⟨ops[i], Array.getElem?_eq_getElem hin, ?_⟩
      rcases (h4 i ops[i] (by simp [hin])).2 with q | q | q | q | q
      · rw [hi] at q; cases q.2.2.1
      · rw [hi] at q; cases q.2.1
      · rw [hi] at q; cases q.2.1
      · rw [hi] at q; cases q.2.1
      · exact q.2.2.2.1
    · rcases Nat.lt_or_ge i ops.size with q | q
      · exact q
      · unfold ral at hi; rw [List.getElem?_eq_none (by omega)] at hi; cases hi
  have := simC_draw (id := id) hm hs ht h2 h3 hok
  rw [hlast1, hlast2] at this
  exact ⟨env', _, h1, this⟩
end
end Go.Ev

namespace Go.Ev
open Go
set_option linter.unusedVariables false
set_option linter.unusedSimpArgs false

abbrev DrawK := Array Oper → List Nat → XEnv → St → (XEnv → St → R) → R
def DrawKOk (P : Program) (gl : List Nat) (draw : DrawK) : Prop := ∀ (N id : Nat) (ops : Array Oper) (env : XEnv) (σ : St) (k : XEnv → St → R) (r : Value × St) (g : Gam) (w : World) (a : Act) (Q : Exit → Act → World → Prop),
  draw ops (List.range N) env σ k = some r → (∀ o ∈ ops.toList, okOper gl N o = true ∧ okGuard ops N o = true) → Glob gl g → Rel g σ w → VarRel (List.range N) N g env a →
  (∀ env' σ' a' w' g', k env' σ' = some r → Rel g' σ' w' → VarRel (List.range N) N g' env' a' → Ext (fun A => σ.next ≤ A) g g' σ σ' w w' → Q .normal a' w') → (Code.region id ops true).wp P Q a w

section
variable {P : Program} {gl : List Nat} {K : List Nat} {N : Nat}

/-- What code made ready does. -/
def XOk (P : Program) (gl : List Nat) (K : List Nat) (N : Nat) (c : Code) (f : XEnv → St → (Ex → XEnv → St → R) → R) : Prop :=
  ∀ (env : XEnv) (σ : St) (g : Gam) (w : World) (a : Act) (k : Ex → XEnv → St → R) (r : Value × St) (Q : Exit → Act → World → Prop), Glob gl g → Rel g σ w → VarRel K N g env a → f env σ k = some r →
    (∀ ex env' σ' a' w' g', k ex env' σ' = some r → Rel g' σ' w' → VarRel K N g' env' a' → Ext (fun A => σ.next ≤ A) g g' σ σ' w w' → Q ex.to a' w') → c.wp P Q a w

theorem Ext.after {g g1 g2 : Gam} {σ σ1 σ2 : St} {w w1 w2 : World} (h : Ext (fun A => σ.next ≤ A) g g1 σ σ1 w w1) (k : Ext (fun A => σ1.next ≤ A) g1 g2 σ1 σ2 w1 w2) : Ext (fun A => σ.next ≤ A) g g2 σ σ2 w w2 :=
  h.trans (k.mono fun A hA => Nat.le_trans h.next hA)

theorem xloop_ok {c : Code} {body : XEnv → St → (Ex → XEnv → St → R) → R} (hb : XOk P gl K N c body) {k : Ex → XEnv → St → R} {r : Value × St} {Q : Exit → Act → World → Prop} : ∀ (n : Nat) (env : XEnv) (σ : St) (g : Gam) (w : World) (a : Act), Glob gl g → Rel g σ w → VarRel K N g env a →
    xloop body n env σ k = some r → (∀ ex env' σ' a' w' g', k ex env' σ' = some r → Rel g' σ' w' → VarRel K N g' env' a' → Ext (fun A => σ.next ≤ A) g g' σ σ' w w' → Q ex.to a' w') → Code.rounds P c Q n a w
  | 0, _, _, _, _, _, _, _, _, h, _ => by cases h
  | n + 1, env, σ, g, w, a, hg, hr, hv, h, hk => by
    rw [rounds_succ]
    have h : body env σ (fun ex env σ => Ex.casesOn ex (xloop body n env σ k) (fun id => k (.exit id) env σ) (k .ret env σ)) = some r := h
    refine hb env σ g w a _ r _ hg hr hv h fun ex env' σ' a' w' g' q1 q2 q3 q4 => ?_
    cases ex with
    | normal => exact xloop_ok hb n env' σ' g' w' a' (hg.mono q4.le) q2 q3 q1 fun ex env2 σ2 a2 w2 g2 p1 p2 p3 p4 => hk ex env2 σ2 a2 w2 g2 p1 p2 p3 (q4.after p4)
    | exit id => exact hk (.exit id) env' σ' a' w' g' q1 q2 q3 q4
    | ret => exact hk .ret env' σ' a' w' g' q1 q2 q3 q4

theorem VarRel.envRel {N : Nat} {g : Gam} {env : XEnv} {a : Act} (h : VarRel (List.range N) N g env a) : EnvRel [] g N (mapT XV.out env) a := by
  refine ⟨h.defers, h.size, fun t => ?_⟩
  rw [eget_mapT]
  by_cases ht : t < N
  · exact h.vars t _ (varOf_range_in ht)
  · have e1 : a.tmps.getD t undef = undef := by
      have : ¬ t < a.tmps.size := by rw [h.size]; exact ht
      simp [this]
    rw [e1]
    refine h.rest t ?_ (by omega) fun t' p hp e => ?_
    · cases e2 : varOf (List.range N) t with
      | none => rfl
      | some p => have := (varOf_range e2).1; omega
    · obtain ⟨h1, rfl⟩ := varOf_range hp
      have := path_inj e
      omega
theorem EnvRel.varRel {N : Nat} {g : Gam} {env : XEnv} {a : Act} (h : EnvRel [] g N (mapT XV.out env) a) : VarRel (List.range N) N g env a := by
  refine ⟨h.defers, h.size, fun t p hp => ?_, fun t _ ht _ => ?_⟩
  · obtain ⟨_, rfl⟩ := varOf_range hp
    rw [← eget_mapT]; exact h.slot t
  · rw [← eget_mapT]
    have := h.slot t
    have e1 : a.tmps.getD t undef = undef := by
      have : ¬ t < a.tmps.size := by rw [h.size]; omega
      simp [this]
    rwa [e1] at this

theorem xcode_ok {call : KF} (hc : call.ok P gl) (hm : P.follows .mixedOrders = true) {draw : DrawK} (hd : DrawKOk P gl draw) (lf : Nat) : ∀ (c : Code) (X : XCode), comp P gl N K c = some X → (hasDraw c = true → K = List.range N) → XOk P gl K N c (xcode P call draw lf X) := by
  intro c
  induction c with
  | skip => intro X h _ env σ g w a k r Q hg hr hv he hk; simp only [comp] at h; cases h; exact wp_skip (hk .normal env σ a w g he hr hv (Ext.refl _ _ _ _))
  | label l => intro X h _ env σ g w a k r Q hg hr hv he hk; simp only [comp] at h; cases h; exact wp_label (hk .normal env σ a w g he hr hv (Ext.refl _ _ _ _))
  | ret => intro X h _ env σ g w a k r Q hg hr hv he hk; simp only [comp] at h; cases h; exact wp_ret (hk .ret env σ a w g he hr hv (Ext.refl _ _ _ _))
  | exit id => intro X h _ env σ g w a k r Q hg hr hv he hk; simp only [comp] at h; cases h; exact wp_exit (hk (.exit id) env σ a w g he hr hv (Ext.refl _ _ _ _))
  | region id ops dr =>
    intro X h hK env σ g w a k r Q hg hr hv he hk
    simp only [comp] at h
    split at h
    · rename_i hdr
      subst hdr
      split at h
      · rename_i hok
        simp only [List.all_eq_true, Bool.and_eq_true] at hok
        have := hK rfl
        subst this
        split at h
        · rename_i l hl
          cases h
          cases hQ : okQ P ops (befores ops) with
          | false => rw [hQ] at hl; cases hl
          | true =>
            rw [hQ] at hl
            obtain ⟨heap, fams, next, hint⟩ := σ
            have he : forceN next (fun next => forceN (Nat.add next ops.size) fun next' => xdq P call l env next ⟨heap, fams, next', hint⟩ [] fun env σ => k .normal env σ) = some r := he
            rw [forceN_eq, forceN_eq] at he
            obtain ⟨env', σ', h1, h2⟩ := xdrawq_ok (id := id) (σ := ⟨heap, fams, next, hint⟩) (k := fun env σ => k .normal env σ) hc hm hQ hl hok he
            refine wp_mono (h2 [] g w a hg hr hv.envRel) ?_
            rintro e a' w' ⟨rfl, g', r1, r2, r3⟩
            exact hk .normal env' σ' a' w' g' h1 r1 r2.varRel r3
        · cases h
          exact hd N id ops env σ _ r g w a Q he hok hg hr hv fun env' σ' a' w' g' q1 q2 q3 q4 => hk .normal env' σ' a' w' g' q1 q2 q3 q4
      · cases h
    · rename_i hdr
      obtain ⟨l, hl, rfl⟩ := map_some h
      have : dr = false := by simpa using hdr
      subst this
      obtain ⟨heap, fams, next, hint⟩ := σ
      have he : forceN next (fun next => forceN (Nat.add next ops.size) fun next' => xops P call l env [] next ⟨heap, fams, next', hint⟩ fun env σ => k .normal env σ) = some r := he
      rw [forceN_eq, forceN_eq] at he
      refine wp_region ?_
      have hrange : List.range ops.size = List.range' 0 ops.toList.length := by rw [List.range_eq_range']; simp
      rw [hrange]
      have hbump := Ext.bump (N := fun A => next ≤ A) g ⟨heap, fams, next, hint⟩ w ops.size
      refine xops_ok (base := next) hc ops.toList 0 0 [] l env [] ⟨heap, fams, next + ops.size, hint⟩ g w a hl (fun j o hj => by simpa using hj) (by simp) (fun t s hs => by cases hs) (Nat.le_refl _) (fun j _ _ => ?_) hg (hr.bump ops.size) ⟨hv, rfl, fun t b hb => ?_⟩ he fun env' σ' a' w' g' q1 q2 q3 q4 => ?_
      · cases e : St.get ⟨heap, fams, next + ops.size, hint⟩ (next + j) with
        | none => rfl
        | some o => have : next + j < next := hr.wf.lt _ o e; omega
      · rw [resolve_tmp] at hb
        simp only [look] at hb
        obtain ⟨p, hp, rfl⟩ := map_some hb
        rw [get_var]
        exact hv.vars t p hp
      · exact hk .normal env' σ' a' w' g' q1 q2 q3 (hbump.trans q4)
  | seq c1 c2 ih1 ih2 =>
    intro X h hK env σ g w a k r Q hg hr hv he hk
    simp only [comp] at h
    split at h
    · rename_i X1 X2 h1 h2
      cases h
      have he : xcode P call draw lf X1 env σ (fun ex env σ => Ex.casesOn ex (xcode P call draw lf X2 env σ k) (fun id => k (.exit id) env σ) (k .ret env σ)) = some r := he
      refine wp_seq (ih1 X1 h1 (fun hh => hK (by simp [hasDraw, hh])) env σ g w a _ r _ hg hr hv he fun ex env' σ' a' w' g' q1 q2 q3 q4 => ?_)
      cases ex with
      | normal => exact ih2 X2 h2 (fun hh => hK (by simp [hasDraw, hh])) env' σ' g' w' a' _ r _ (hg.mono q4.le) q2 q3 q1 fun ex env2 σ2 a2 w2 g2 p1 p2 p3 p4 => hk ex env2 σ2 a2 w2 g2 p1 p2 p3 (q4.after p4)
      | exit id => exact hk (.exit id) env' σ' a' w' g' q1 q2 q3 q4
      | ret => exact hk .ret env' σ' a' w' g' q1 q2 q3 q4
    · cases h
  | cond c t f iht ihf =>
    intro X h hK env σ g w a k r Q hg hr hv he hk
    simp only [comp] at h
    split at h
    · rename_i b X1 X2 hb h1 h2
      cases h
      have he : (XV.casesOn (b.get env []) (fun _ _ => none) (fun b => Bool.casesOn b (xcode P call draw lf X2 env σ k) (xcode P call draw lf X1 env σ k)) (fun _ _ => none) (fun _ => none) : R) = some r := he
      have hval : VRel g (b.get env []).out (a.eval c) := by
        cases c with
        | tmp t =>
          rw [resolve_tmp] at hb
          simp only [look] at hb
          obtain ⟨p, hp, rfl⟩ := map_some hb
          rw [get_var]
          exact hv.vars t p hp
        | const v =>
          cases hb
          show VRel g (xvOf v).out v
          rw [xvOf_out]
          cases hx : (XArg.val (xvOf v)).get env [] with
          | bool bb =>
            have : (xvOf v) = .bool bb := hx
            have h3 := xvOf_out v
            rw [this] at h3
            rw [← h3]; exact .bool bb
          | nat _ _ => rw [hx] at he; cases he
          | nxt _ _ => rw [hx] at he; cases he
          | oth _ => rw [hx] at he; cases he
        | global v => cases hb; cases he
        | func v => cases hb; cases he
      generalize b.get env [] = xb at he hval
      cases xb with
      | nat _ _ => cases he
      | nxt _ _ => cases he
      | oth _ => cases he
      | bool bb =>
        have hx : a.eval c = .bool bb := by
          simp only [XV.out] at hval
          generalize a.eval c = v at hval
          cases hval; rfl
        refine wp_cond hx ?_
        cases bb with
        | true => exact iht X1 h1 (fun hh => hK (by simp [hasDraw, hh])) env σ g w a k r Q hg hr hv he hk
        | false => exact ihf X2 h2 (fun hh => hK (by simp [hasDraw, hh])) env σ g w a k r Q hg hr hv he hk
    · cases h
  | block id c ih =>
    intro X h hK env σ g w a k r Q hg hr hv he hk
    simp only [comp] at h
    obtain ⟨X1, h1, rfl⟩ := map_some h
    have he : xcode P call draw lf X1 env σ (fun ex env σ => Ex.casesOn ex (k .normal env σ) (fun id' => cond (Nat.beq id' id) (k .normal env σ) (k (.exit id') env σ)) (k .ret env σ)) = some r := he
    refine wp_block (ih X1 h1 (fun hh => hK (by simp [hasDraw, hh])) env σ g w a _ r _ hg hr hv he fun ex env' σ' a' w' g' q1 q2 q3 q4 => ?_)
    cases ex with
    | normal => exact hk .normal env' σ' a' w' g' q1 q2 q3 q4
    | ret => exact hk .ret env' σ' a' w' g' q1 q2 q3 q4
    | exit id' =>
      simp only [Ex.to, Exit.inBlock]
      by_cases e : id' = id
      · subst e
        have : Nat.beq id' id' = true := by simp
        simp only [this, cond_true] at q1
        simp
        exact hk .normal env' σ' a' w' g' q1 q2 q3 q4
      · have : Nat.beq id' id = false := by rw [← Bool.not_eq_true, Nat.beq_eq]; exact e
        simp only [this, cond_false] at q1
        rw [if_neg e]
        exact hk (.exit id') env' σ' a' w' g' q1 q2 q3 q4
  | loop c ih =>
    intro X h hK env σ g w a k r Q hg hr hv he hk
    simp only [comp] at h
    obtain ⟨X1, h1, rfl⟩ := map_some h
    have he : xloop (xcode P call draw lf X1) lf env σ k = some r := he
    exact wp_loop_rounds lf (xloop_ok (ih X1 h1 (fun hh => hK (by simp [hasDraw, hh]))) lf env σ g w a hg hr hv he hk)
  | scope c ih =>
    intro X h hK env σ g w a k r Q hg hr hv he hk
    simp only [comp] at h
    refine wp_scope_straight (ih X h (fun hh => hK (by simp [hasDraw, hh])) env σ g w a _ r _ hg hr hv he fun ex env' σ' a' w' g' q1 q2 q3 q4 => ?_)
    cases ex with
    | normal => exact hk .normal env' σ' a' w' g' q1 q2 q3 q4
    | ret => exact hk .ret env' σ' a' w' g' q1 q2 q3 q4
    | exit id => exact hk (.exit id) env' σ' a' w' g' q1 q2 q3 q4
  | rangeFunc f ps as b _ _ => intro X h; simp [comp] at h
  | goto l => intro X h; simp [comp] at h
  | refuse why => intro X h; simp [comp] at h
end
end Go.Ev

namespace Go.Ev
open Go
set_option linter.unusedVariables false
set_option linter.unusedSimpArgs false

theorem callOf_ok {P : Program} {gl : List Nat} {kf : KF} (h : kf.ok P gl) : (callOf kf).ok P gl := by
  intro f args σ v σ' e g w args' hg hr ha
  unfold callOf at e
  have h2 : ((args.toList.map xvOf).map XV.out).toArray = args := by
    rw [List.map_map]
    have : (XV.out ∘ xvOf) = id := funext xvOf_out
    rw [this, List.map_id]
  refine h _ _ _ _ _ e g w args' _ hg hr (by rw [h2]; exact ha) fun x σ2 v' w' g' q1 q2 q3 q4 => ?_
  simp only [Option.some.injEq, Prod.mk.injEq] at q1
  obtain ⟨rfl, rfl⟩ := q1
  exact ⟨v', g', rfl, q2, q3, q4⟩

/-! ## Rows that draw their order -/
theorem xdraw_ok {P : Program} {gl : List Nat} {call : CallF} (hc : call.ok P gl) (hm : P.follows .mixedOrders = true) : DrawKOk P gl (xdraw P call) := by
  intro N id ops env σ k r g w a Q h hok hg hr hv hk
  unfold xdraw at h
  split at h
  · rename_i env' σ' he
    have hsim := evalDraw_ok hc hm N id ops _ σ env' σ' he hok
    have hget : ∀ t, eget (mapT XV.out env) t = (orUndef (env.get (path t))).out := by
      intro t
      unfold eget
      rw [get_mapT]
      cases env.get (path t) <;> rfl
    have hbeyond : ∀ t, N ≤ t → varOf (List.range N) t = none := by
      intro t ht
      cases h : varOf (List.range N) t with
      | none => rfl
      | some p => have := (varOf_range h).1; omega
    have hno : ∀ t, N ≤ t → ∀ t' p, varOf (List.range N) t' = some p → p ≠ path t := by
      intro t ht t' p hp e
      obtain ⟨h1, rfl⟩ := varOf_range hp
      have := path_inj e
      omega
    have hinit : EnvRel [] g N (mapT XV.out env) a := by
      refine ⟨hv.defers, hv.size, fun t => ?_⟩
      rw [hget]
      by_cases ht : t < N
      · exact hv.vars t _ (varOf_range_in ht)
      · have e1 : a.tmps.getD t undef = undef := by
          have : ¬ t < a.tmps.size := by rw [hv.size]; exact ht
          simp [this]
        rw [e1]
        exact hv.rest t (hbeyond t (by omega)) (by omega) (hno t (by omega))
    refine wp_mono (hsim [] g w a hg hr hinit) ?_
    rintro e a' w' ⟨rfl, g', r1, r2, r3⟩
    have hback : ∀ t, (orUndef ((mapT xvOf env').get (path t))).out = eget env' t := by
      intro t
      rw [get_mapT]
      unfold eget
      cases env'.get (path t) with
      | none => rfl
      | some v => exact xvOf_out v
    refine hk _ σ' a' w' g' h r1 ⟨r2.defers, r2.size, fun t p hp => ?_, fun t h1 h2 h3 => ?_⟩ r3
    · obtain ⟨ht, rfl⟩ := varOf_range hp
      rw [hback]
      exact r2.slot t
    · rw [hback]
      have := r2.slot t
      have e1 : a'.tmps.getD t undef = undef := by
        have : ¬ t < a'.tmps.size := by rw [r2.size]; omega
        simp [this]
      rwa [e1] at this
  · cases h

/-! ## Functions -/
theorem initK_ok (K : List Nat) : ∀ (m s : Nat) (vs : List XV) (env : XEnv) (k : XEnv → R) (r : Value × St), initK ((List.range' s m).map (varOf K)) vs env k = some r →
    vs.length ≤ m ∧ ∃ env', k env' = some r ∧ (∀ t p, varOf K t = some p → env'.get p = if s ≤ t ∧ t < s + vs.length then some (vs.getD (t - s) (.oth undef)) else env.get p) ∧ ∀ q, (∀ t p, varOf K t = some p → p ≠ q) → env'.get q = env.get q
  | 0, s, vs, env, k, r, h => by
    cases vs with
    | nil => exact ⟨Nat.le_refl _, env, h, fun t p _ => (by rw [if_neg (by simp only [List.length_nil]; omega)]), fun _ _ => rfl⟩
    | cons v vs => cases h
  | m + 1, s, vs, env, k, r, h => by
    rw [List.range'_succ, List.map_cons] at h
    cases vs with
    | nil => exact ⟨Nat.zero_le _, env, h, fun t p _ => (by rw [if_neg (by simp only [List.length_nil]; omega)]), fun _ _ => rfl⟩
    | cons v vs =>
      cases hs : varOf K s with
      | none =>
        rw [hs] at h
        have h : initK ((List.range' (s + 1) m).map (varOf K)) vs env k = some r := h
        obtain ⟨h1, env', h2, h3, h4⟩ := initK_ok K m (s + 1) vs env k r h
        refine ⟨by simp; omega, env', h2, fun t p hp => ?_, h4⟩
        rw [h3 t p hp]
        have hne : t ≠ s := fun e => by subst e; rw [hs] at hp; cases hp
        by_cases hc : s + 1 ≤ t ∧ t < s + 1 + vs.length
        · rw [if_pos hc, if_pos (by simp; omega)]
          rw [show t - s = (t - (s + 1)) + 1 by omega]; simp
        · rw [if_neg hc, if_neg (by simp; omega)]
      | some q =>
        rw [hs] at h
        have h : setK q v env (fun env => initK ((List.range' (s + 1) m).map (varOf K)) vs env k) = some r := h
        rw [setK_eq] at h
        obtain ⟨h1, env', h2, h3, h4⟩ := initK_ok K m (s + 1) vs _ k r h
        refine ⟨by simp; omega, env', h2, fun t p hp => ?_, fun q' hq => by rw [h4 q' hq, Tr.get_set, if_neg (hq s q hs)]⟩
        rw [h3 t p hp]
        by_cases e : t = s
        · subst e
          have : q = p := Option.some.inj (hs.symm.trans hp)
          subst this
          rw [if_neg (by omega), Tr.get_set, if_pos rfl, if_pos (by simp)]
          simp
        · have hne : q ≠ p := fun e2 => by subst e2; exact e (varOf_inj hp hs)
          by_cases hc : s + 1 ≤ t ∧ t < s + 1 + vs.length
          · rw [if_pos hc, if_pos (by simp; omega)]
            rw [show t - s = (t - (s + 1)) + 1 by omega]; simp
          · rw [if_neg hc, Tr.get_set, if_neg hne, if_neg (by simp; omega)]

theorem xres_ok {P : Program} {K : List Nat} {g : Gam} {N : Nat} {env : XEnv} {σ : St} {a : Act} {w : World} (he : VarRel K N g env a) (hr : Rel g σ w) : ∀ (l : List ResultVar) (rs : List (ResultVar × List Bool)) (vs : List Value),
    l.mapM (fun r => (varOf K (resTmp r)).map fun p => (r, p)) = some rs → xres P env σ rs = some vs →
    ∃ vs' : List Value, (l.mapM fun (x : ResultVar) => (match x with | .tmp t => pure (a.tmps.getD t undef) | .cell a' t => do loadVar t (← asAddr (a.tmps.getD a' undef)) : Sem Value)).run P w = .ok vs' w ∧ LRel g vs vs'
  | [], rs, vs, hm, h => by
    cases hm
    cases h
    exact ⟨[], by simp, LRel.nil g⟩
  | x :: l, rs, vs, hm, h => by
    obtain ⟨y, ys, e1, e2, e3⟩ := mapM_cons_some hm
    subst e1
    obtain ⟨p, hp, rfl⟩ := map_some e2
    cases x with
    | tmp t =>
      simp only [xres] at h
      split at h
      · rename_i l2 hl
        cases h
        obtain ⟨vs', q1, hv⟩ := xres_ok he hr l ys l2 e3 hl
        refine ⟨a.tmps.getD t undef :: vs', by simp only [List.mapM_cons, Sem.run_bind, Sem.run_pure, Result.andThen_ok, q1], by simp [hv.1], fun i h1 h2 => ?_⟩
        cases i with
        | zero =>
          show VRel g (orUndef (getR p env)).out _
          rw [getR_eq]; exact he.vars t p hp
        | succ i => exact hv.2 i (Nat.lt_of_succ_lt_succ h1) (Nat.lt_of_succ_lt_succ h2)
      · cases h
    | cell c t =>
      simp only [xres] at h
      split at h
      · rename_i v l2 hv1 hl
        cases h
        obtain ⟨vs', q1, hv⟩ := xres_ok he hr l ys l2 e3 hl
        rw [getR_eq] at hv1
        have hc : VRel g (orUndef (env.get p)).out (a.tmps.getD c undef) := he.vars c p hp
        obtain ⟨v', p1, p2⟩ := opLoad_ok (P := P) hv1 hr hc
        have hld : (do loadVar t (← asAddr (a.tmps.getD c undef)) : Sem Value).run P w = .ok v' w := by
          have hs := hc
          generalize a.tmps.getD c undef = q at hs p1
          generalize (orUndef (env.get p)).out = q0 at hs hv1
          unfold opLoad at hv1
          split at hv1
          · cases hs
            simpa [Instr.loadAt, Instr.sureAddr, asAddr] using p1
          · cases hv1
        refine ⟨v' :: vs', by simp only [List.mapM_cons, Sem.run_bind] at hld ⊢; simp only [hld, Result.andThen_ok, q1, Sem.run_pure], by simp [hv.1], fun i h1 h2 => ?_⟩
        cases i with
        | zero => exact p2
        | succ i => exact hv.2 i (Nat.lt_of_succ_lt_succ h1) (Nat.lt_of_succ_lt_succ h2)
      · cases h

theorem results_ok {P : Program} {K : List Nat} {g' : Gam} {N : Nat} {env : XEnv} {σ : St} {a' : Act} {w' : World} {fn : Func} (q3 : VarRel K N g' env a') (q2 : Rel g' σ w') {rs : List (ResultVar × List Bool)}
    (h2 : fn.results.toList.mapM (fun r => (varOf K (resTmp r)).map fun p => (r, p)) = some rs) {vs : List Value} (hvs : xres P env σ rs = some vs) : ∃ v', (results fn a'.tmps).run P w' = .ok v' w' ∧ VRel g' (packed vs) v' := by
  obtain ⟨vs', e1, e2⟩ := xres_ok (P := P) q3 q2 _ _ _ h2 hvs
  have hrun : (results fn a'.tmps).run P w' = .ok (packed vs') w' := by
    obtain ⟨F, hF⟩ : ∃ F : ResultVar → Sem Value, F = fun (x : ResultVar) => (match x with | .tmp t => pure (a'.tmps.getD t undef) | .cell a t => do loadVar t (← asAddr (a'.tmps.getD a undef)) : Sem Value) := ⟨_, rfl⟩
    have hdef : results fn a'.tmps = (do let vs ← fn.results.mapM F; pure (if h : vs.size = 1 then vs[0] else .tuple vs)) := by
      rw [hF]; rfl
    have hm : (fn.results.mapM F).run P w' = .ok vs'.toArray w' := by
      rw [← Array.toArray_toList (xs := fn.results), List.mapM_toArray]
      rw [hF]
      simp only [Sem.run_map, e1, Result.andThen_ok]
    rw [hdef]
    simp only [Sem.run_bind, hm, Result.andThen_ok, Sem.run_pure]
    congr 1
    unfold packed
    match vs', e2 with
    | [], _ => rfl
    | [v], _ => rfl
    | _ :: _ :: _, _ => simp
  have hrel : VRel g' (packed vs) (packed vs') := by
    unfold packed
    match vs, vs', e2 with
    | [], [], _ => exact .tuple _ _ rfl fun i h => by simp at h
    | [v], [v'], e2 => exact e2.2 0 (by simp) (by simp)
    | x :: y :: r, x' :: y' :: r', e2 => exact .tuple _ _ (by simpa using e2.1) fun i h1 h2 => by simpa using e2.2 i (by simpa using h1) (by simpa using h2)
    | [], _ :: _, e2 => have := e2.1; simp at this
    | _ :: _, [], e2 => have := e2.1; simp at this
    | [_], _ :: _ :: _, e2 => have := e2.1; simp at this
    | _ :: _ :: _, [_], e2 => have := e2.1; simp at this
  exact ⟨_, hrun, hrel⟩

theorem xfn_ok {P : Program} {gl : List Nat} {call : KF} (hc : call.ok P gl) (hm : P.follows .mixedOrders = true) {draw : DrawK} (hd : DrawKOk P gl draw) (lf : Nat) {f : FuncId} {xf : XFn} (hx : compFn P gl f = some xf) {args : List XV} {σ : St} {k : XV → St → R} {r : Value × St} (h : xfn P call draw lf xf args σ k = some r)
    {g : Gam} {w : World} {args' : Array Value} {Q : Ending → World → Prop} (hg : Glob gl g) (hr : Rel g σ w) (ha : ARel g (args.map XV.out).toArray args')
    (hk : ∀ (v : XV) (σ' : St) (v' : Value) (w' : World) (g' : Gam), k v σ' = some r → VRel g' v.out v' → Rel g' σ' w' → Ext (fun A => σ.next ≤ A) g g' σ σ' w w' → Q (.returned v') w') : Calls P f args' w Q := by
  unfold compFn at hx
  split at hx
  · rename_i fn hf
    split at hx
    · rename_i c hb
      simp only at hx
      obtain ⟨K, hK⟩ : ∃ K, K = (if hasDraw c then List.range fn.ntmps else nub (freeC c ++ fn.results.toList.map resTmp) []) := ⟨_, rfl⟩
      rw [← hK] at hx
      split at hx
      · rename_i X rs h1 h2
        cases hx
        unfold xfn at h
        simp only [List.range_eq_range'] at h
        obtain ⟨hlen, env, h, henv, hoth⟩ := initK_ok K fn.ntmps 0 args .nil _ r h
        have hsz : args'.size ≤ fn.ntmps := by
          have := ha.1
          simp at this; omega
        have hlen2 : args.length = args'.size := by have := ha.1; simpa using this
        have hv : VarRel K fn.ntmps g env { tmps := args' ++ Array.replicate (fn.ntmps - args'.size) undef, defers := [] } := by
          refine ⟨rfl, by simp; omega, fun t p hp => ?_, fun t q1 q2 q3 => ?_⟩
          rotate_left
          · rw [hoth _ q3]
            have e3 : (Tr.get (.nil : XEnv) (path t)) = none := by cases path t <;> rfl
            rw [e3]
            exact .tuple _ _ rfl fun i h => by simp at h
          rw [henv t p hp]
          by_cases ht : t < args.length
          · rw [if_pos (by omega)]
            have ht' : t < args'.size := by omega
            have e2 : (args' ++ Array.replicate (fn.ntmps - args'.size) undef).getD t undef = args'[t] := by
              rw [Array.getD_eq_getD_getElem?, Array.getElem?_append_left ht']; simp [ht']
            rw [e2]
            have := ha.2 t (by simpa using ht) ht'
            have e3 : args.getD (t - 0) (.oth undef) = args[t] := by simp [List.getD, ht]
            rw [e3]
            simpa [orUndef] using this
          · rw [if_neg (by omega)]
            have e2 : (args' ++ Array.replicate (fn.ntmps - args'.size) undef).getD t undef = undef := by
              rw [Array.getD_eq_getD_getElem?, Array.getElem?_append_right (by omega), Array.getElem?_replicate]
              split <;> rfl
            rw [e2]
            have e3 : (Tr.get (.nil : XEnv) p) = none := by cases p <;> rfl
            rw [e3]
            exact .tuple _ _ rfl fun i h => by simp at h
        have fin : ∀ (env' : XEnv) (σ' : St) (a' : Act) (w' : World) (g' : Gam), xret P rs env' σ' k = some r → Rel g' σ' w' → VarRel K fn.ntmps g' env' a' → Ext (fun A => σ.next ≤ A) g g' σ σ' w w' → a'.defers = [] ∧ ∃ v', (results fn a'.tmps).run P w' = .ok v' w' ∧ Q (.returned v') w' := by
          intro env' σ' a' w' g' q1 q2 q3 q4
          unfold xret at q1
          split at q1
          · rename_i vs hvs
            rw [take_eq] at q1
            obtain ⟨vs', e1, e2⟩ := xres_ok (P := P) q3 q2 _ _ _ h2 hvs
            have hrun : (results fn a'.tmps).run P w' = .ok (packed vs') w' := by
              obtain ⟨F, hF⟩ : ∃ F : ResultVar → Sem Value, F = fun (x : ResultVar) => (match x with | .tmp t => pure (a'.tmps.getD t undef) | .cell a t => do loadVar t (← asAddr (a'.tmps.getD a undef)) : Sem Value) := ⟨_, rfl⟩
              have hdef : results fn a'.tmps = (do let vs ← fn.results.mapM F; pure (if h : vs.size = 1 then vs[0] else .tuple vs)) := by
                rw [hF]; rfl
              have hm : (fn.results.mapM F).run P w' = .ok vs'.toArray w' := by
                rw [← Array.toArray_toList (xs := fn.results), List.mapM_toArray]
                rw [hF]
                simp only [Sem.run_map, e1, Result.andThen_ok]
              rw [hdef]
              simp only [Sem.run_bind, hm, Result.andThen_ok, Sem.run_pure]
              congr 1
              unfold packed
              match vs', e2 with
              | [], _ => rfl
              | [v], _ => rfl
              | _ :: _ :: _, _ => simp
            have hrel : VRel g' (packed vs) (packed vs') := by
              unfold packed
              match vs, vs', e2 with
              | [], [], _ => exact .tuple _ _ rfl fun i h => by simp at h
              | [v], [v'], e2 => exact e2.2 0 (by simp) (by simp)
              | x :: y :: r, x' :: y' :: r', e2 => exact .tuple _ _ (by simpa using e2.1) fun i h1 h2 => by simpa using e2.2 i (by simpa using h1) (by simpa using h2)
              | [], _ :: _, e2 => have := e2.1; simp at this
              | _ :: _, [], e2 => have := e2.1; simp at this
              | [_], _ :: _ :: _, e2 => have := e2.1; simp at this
              | _ :: _ :: _, [_], e2 => have := e2.1; simp at this
            exact ⟨q3.defers, _, hrun, hk _ σ' _ w' g' q1 (by rw [xvOf_out]; exact hrel) q2 q4⟩
          · cases q1
        refine calls_of_wp hf hb (xcode_ok hc hm hd lf c X h1 (fun hh => by rw [hK, if_pos hh]) env σ g w _ _ r _ hg hr hv h fun ex env' σ' a' w' g' q1 q2 q3 q4 => ?_)
        cases ex with
        | normal => exact fin env' σ' a' w' g' q1 q2 q3 q4
        | ret => exact fin env' σ' a' w' g' q1 q2 q3 q4
        | exit id => cases q1
      · cases hx
    · cases hx
  · cases hx

theorem xF_ok {P : Program} {gl : List Nat} (hm : P.follows .mixedOrders = true) {tab : FuncId → Option XFn} (ht : ∀ f xf, tab f = some xf → compFn P gl f = some xf) {ext : FuncId → Option CallF} (he : ∀ f c, ext f = some c → ∀ args σ v σ', c f args σ = some (v, σ') → SimF P gl f args σ v σ')
    {draw : KF → DrawK} (hd : ∀ kf : KF, kf.ok P gl → DrawKOk P gl (draw kf)) (lf : Nat) : ∀ n, (xF P tab ext draw lf n).ok P gl
  | 0 => fun f vs σ k r h => by cases h
  | n + 1 => by
    intro f vs σ k r h g w args' Q hg hr ha hk
    have ih := xF_ok hm ht he hd lf n
    have h : (match ext f with
      | some c => match c f (vs.map XV.out).toArray σ with
        | some (v, σ') => take v fun v => k v σ'
        | none => match tab f with
          | some xf => xfn P (xF P tab ext draw lf n) (draw (xF P tab ext draw lf n)) lf xf vs σ k
          | none => none
      | none => match tab f with
        | some xf => xfn P (xF P tab ext draw lf n) (draw (xF P tab ext draw lf n)) lf xf vs σ k
        | none => none) = some r := h
    have code : (match tab f with
        | some xf => xfn P (xF P tab ext draw lf n) (draw (xF P tab ext draw lf n)) lf xf vs σ k
        | none => none) = some r → Calls P f args' w Q := by
      intro h
      split at h
      · rename_i xf hxf
        exact xfn_ok ih hm (hd _ ih) lf (ht f xf hxf) h hg hr ha hk
      · cases h
    split at h
    · rename_i c hc
      split at h
      · rename_i v σ' hcv
        rw [take_eq] at h
        refine (he f c hc _ _ _ _ hcv g w args' hg hr ha).mono ?_
        rintro e w' ⟨v', g', rfl, q1, q2, q3⟩
        exact hk (xvOf v) σ' v' w' g' h (by rw [xvOf_out]; exact q1) q2 q3
      · exact code h
    · exact code h
end Go.Ev

namespace Go.Ev
open Go
set_option linter.unusedVariables false
set_option linter.unusedSimpArgs false

/-- The listed variables lie in the state as listed. -/
def HasGlob (l : List (Nat × List Value)) (σ : St) : Prop := ∀ A x, l.find? (fun x => x.1 == A) = some x → σ.get A = some (.cells false 0 A x.2) ∧ σ.famO A = none
theorem hasGlob_globSt (l : List (Nat × List Value)) (next : Nat) : HasGlob l (globSt l next) := by
  intro A x h
  rw [globSt_get, h]
  exact ⟨rfl, globSt_famO l next A⟩

theorem Rel.same {g : Gam} {σ : St} {w w' : World} (h : Rel g σ w) (hs : w.heap.size ≤ w'.heap.size) (hh : ∀ b, b < w.heap.size → w'.heap[b]? = w.heap[b]?) : Rel g σ w' :=
  ⟨h.wf, fun A x a => Nat.lt_of_lt_of_le (h.blk A x a) hs, fun A x a => let ⟨o, b, c⟩ := h.obj A x a; ⟨o, b, OSays.mono (Gam.le_refl g) (hh _ (h.blk A x a)) (fun _ _ _ _ _ h => h) c⟩, h.share, h.order⟩

theorem SimF.everywhere {P : Program} {l : List (Nat × List Value)} {next : Nat} {f : FuncId} {args : Array Value} {v : Value} {σ0 : St} (hs : SimF P (l.map (·.1)) f args (globSt l next) v σ0) (hn : ∀ x ∈ l, x.1 < next) (hfl : ∀ x ∈ l, ∀ v ∈ x.2, flatV v = true)
    (ha0 : args.toList.all flatV = true) (hv0 : flatV v = true) {σ : St} (hσ : HasGlob l σ) : SimF P (l.map (·.1)) f args σ v σ := by
  intro g w args' hg hr ha
  obtain ⟨g0, hg0⟩ : ∃ g0 : Gam, g0 = fun A => if (l.find? (fun x => x.1 == A)).isSome then g A else none := ⟨_, rfl⟩
  have hin : ∀ A x, g0 A = some x → ∃ y, l.find? (fun x => x.1 == A) = some y ∧ y ∈ l ∧ g A = some x := by
    intro A x h
    rw [hg0] at h
    simp only at h
    split at h
    · rename_i hq
      obtain ⟨y, hy⟩ := Option.isSome_iff_exists.1 hq
      exact ⟨y, hy, List.mem_of_find?_eq_some hy, h⟩
    · cases h
  have hglob : Glob (l.map (·.1)) g0 := by
    intro b hb
    obtain ⟨n, e⟩ := hg b hb
    refine ⟨n, ?_⟩
    have hb2 : b ∈ l.map (·.1) := by simpa using hb
    rw [List.mem_map] at hb2
    obtain ⟨y, hy, rfl⟩ := hb2
    rw [hg0]
    simp only
    rw [if_pos]
    · exact e
    · rw [List.find?_isSome]; exact ⟨y, hy, by simp⟩
  have hbase : ∀ A x, g0 A = some x → x.block = A ∧ x.base = 0 := by
    intro A x h
    obtain ⟨y, h1, h2, h3⟩ := hin A x h
    have hA : y.1 = A := by simpa using List.find?_some h1
    obtain ⟨n, e⟩ := hg A (by
      have : A ∈ l.map (·.1) := by rw [← hA]; exact List.mem_map_of_mem h2
      simpa using this)
    rw [h3] at e; cases e
    exact ⟨rfl, rfl⟩
  have hwf : (globSt l next).Wf := by
    have sp2 : ∀ A o, (globSt l next).get A = some o → ∃ c, (A, c) ∈ l ∧ o = .cells false 0 A c := by
      intro A o h
      rw [globSt_get] at h
      cases hf : l.find? (fun x => x.1 == A) with
      | none => rw [hf] at h; cases h
      | some y =>
        rw [hf] at h
        cases h
        have h1 := List.mem_of_find?_eq_some hf
        have h2 := List.find?_some hf
        obtain ⟨a, c⟩ := y
        have : a = A := by simpa using h2
        subst this
        exact ⟨c, h1, rfl⟩
    refine ⟨fun A o h => ?_, fun A own v F c h => ?_, fun A v F c h => ?_, fun F O h => ?_, fun F O X own v c own' v' c' h => ?_, fun A n h => ?_⟩
    · obtain ⟨c, h1, _⟩ := sp2 A o h; exact hn _ h1
    · obtain ⟨c', h1, h2⟩ := sp2 A _ h; cases h2; exact ⟨_, h⟩
    · obtain ⟨c', h1, h2⟩ := sp2 A _ h; cases h2
    · rw [globSt_famO] at h; cases h
    · rw [globSt_famO] at h; cases h
    · unfold globSt St.hintO at h; cases hp : path A <;> rw [hp] at h <;> cases h
  have hrel : Rel g0 (globSt l next) w := by
    refine ⟨hwf, fun A x h => ?_, fun A x h => ?_, fun A x A' x' h h' e => ?_, fun X x O y F v c own c' _ _ _ _ hF => ?_⟩
    · obtain ⟨y, _, _, h3⟩ := hin A x h; exact hr.blk A x h3
    · obtain ⟨y, h1, h2, h3⟩ := hin A x h
      obtain ⟨s1, s2⟩ := hσ A y h1
      obtain ⟨o, o1, o2⟩ := hr.obj A x h3
      rw [s1] at o1; cases o1
      refine ⟨.cells false 0 A y.2, by rw [globSt_get, h1]; rfl, ?_⟩
      obtain ⟨cs, el, fr, p1, p2, p3, p4⟩ := o2
      refine ⟨cs, el, fr, p1, p2, fun _ i hi => ?_, fun h => by cases h⟩
      obtain ⟨v', q1, q2⟩ := p3 (by simp [St.rd, s2]) i hi
      have hf := hfl y h2 _ (List.getElem_mem hi)
      have := flatV_eq hf q2
      exact ⟨v', q1, by rw [this]; exact flatV_rel hf⟩
    · obtain ⟨e1, _⟩ := hbase A x h
      obtain ⟨e2, _⟩ := hbase A' x' h'
      exact .inl (by omega)
    · rw [globSt_famO] at hF; cases hF
  have hargs : ARel g0 args args' := by
    refine ⟨ha.1, fun i h1 h2 => ?_⟩
    have hf : flatV args[i] = true := List.all_eq_true.1 ha0 _ (by simp)
    have := flatV_eq hf (ha.2 i h1 h2)
    rw [this]; exact flatV_rel hf
  refine (hs g0 w args' hglob hrel hargs).mono ?_
  rintro e w' ⟨v', g', rfl, hv, hr', hx⟩
  have hkeep : ∀ b, b < w.heap.size → w'.heap[b]? = w.heap[b]? := fun b hb => hx.keep b hb fun A x hA _ => by
    obtain ⟨y, h1, _, _⟩ := hin A x hA
    exact ⟨0, A, y.2, by rw [globSt_get, h1]; rfl, globSt_famO l next A⟩
  have hvv := flatV_eq hv0 hv
  refine ⟨v', g, rfl, by rw [hvv]; exact flatV_rel hv0, hr.same hx.size hkeep, ?_⟩
  exact ⟨Gam.le_refl g, fun A x h h' => (by rw [h] at h'; cases h'), fun A x h h' => (by rw [h] at h'; cases h'), hx.size, fun b hb _ => hkeep b hb, fun _ _ _ => rfl, fun _ h => ⟨rfl, h⟩, Nat.le_refl _, hx.os, hx.out, hx.tape⟩

/-- A contract of the library's shelf, on flat values: it holds at every state. -/
theorem SimF.of_below {P : Program} {gl : List Nat} {f : FuncId} {args : Array Value} {v : Value} (h : ∀ w, Calls P f args w fun e w' => e = .returned v ∧ Go.RowKit.Below w.heap.size w w') (ha0 : args.toList.all flatV = true) (hv0 : flatV v = true) (σ : St) : SimF P gl f args σ v σ := by
  intro g w args' hg hr ha
  have he : args' = args := by
    refine Array.ext ha.1.symm fun i h1 h2 => ?_
    have hf : flatV args[i] = true := List.all_eq_true.1 ha0 _ (by simp)
    exact flatV_eq hf (ha.2 i h2 h1)
  subst he
  refine (h w).mono ?_
  rintro e w' ⟨rfl, hb⟩
  refine ⟨v, g, rfl, flatV_rel hv0, hr.same hb.size (fun b hlt => hb.block b hlt), ?_⟩
  exact ⟨Gam.le_refl g, fun A x h h' => (by rw [h] at h'; cases h'), fun A x h h' => (by rw [h] at h'; cases h'), hb.size, fun b hlt _ => hb.block b hlt, fun _ _ _ => rfl, fun _ h => ⟨rfl, h⟩, Nat.le_refl _, hb.os, hb.output, hb.tape⟩
end Go.Ev

namespace Go.Ev
open Go
set_option linter.unusedVariables false
set_option linter.unusedSimpArgs false

/-! ## Values alike -/
def bytesEq : List UInt8 → List UInt8 → Bool
  | [], [] => true
  | a :: l, b :: m => cond (Nat.beq a.toNat b.toNat) (bytesEq l m) false
  | _, _ => false
theorem bytesEq_eq : ∀ {l m : List UInt8}, bytesEq l m = true → l = m
  | [], [], _ => rfl
  | [], _ :: _, h => by simp [bytesEq] at h
  | _ :: _, [], h => by simp [bytesEq] at h
  | a :: l, b :: m, h => by
    simp only [bytesEq] at h
    cases hb : Nat.beq a.toNat b.toNat with
    | false => rw [hb] at h; cases h
    | true =>
      rw [hb] at h
      have h1 : a.toNat = b.toNat := by rw [Nat.beq_eq] at hb; exact hb
      rw [UInt8.toNat_inj.1 h1, bytesEq_eq h]
def veqM0 : Value → Value → Bool
  | .string a, .string b => bytesEq a.data.toList b.data.toList
  | a, b => veq0 a b
theorem veqM0_eq {a b : Value} (h : veqM0 a b = true) : a = b := by
  unfold veqM0 at h
  split at h
  · rename_i x y
    have := bytesEq_eq h
    congr 1
    apply ByteArray.ext
    rw [← Array.toArray_toList (xs := x.data), this, Array.toArray_toList]
  · exact veq0_eq h
def veqsM0 : List Value → List Value → Bool
  | [], [] => true
  | a :: l, b :: m => cond (veqM0 a b) (veqsM0 l m) false
  | _, _ => false
theorem veqsM0_eq : ∀ {l m : List Value}, veqsM0 l m = true → l = m
  | [], [], _ => rfl
  | [], _ :: _, h => by simp [veqsM0] at h
  | _ :: _, [], h => by simp [veqsM0] at h
  | a :: l, b :: m, h => by
    simp only [veqsM0] at h
    cases hb : veqM0 a b with
    | false => rw [hb] at h; cases h
    | true => rw [hb] at h; rw [veqM0_eq hb, veqsM0_eq h]
def veqM : Value → Value → Bool
  | .agg a, .agg b => veqsM0 a.toList b.toList
  | a, b => veqM0 a b
theorem veqM_eq {a b : Value} (h : veqM a b = true) : a = b := by
  unfold veqM at h
  split at h
  · rename_i x y
    rw [← Array.toArray_toList (xs := x), veqsM0_eq h, Array.toArray_toList]
  · exact veqM0_eq h
def veqsM : List Value → List Value → Bool
  | [], [] => true
  | a :: l, b :: m => cond (veqM a b) (veqsM l m) false
  | _, _ => false
theorem veqsM_eq : ∀ {l m : List Value}, veqsM l m = true → l = m
  | [], [], _ => rfl
  | [], _ :: _, h => by simp [veqsM] at h
  | _ :: _, [], h => by simp [veqsM] at h
  | a :: l, b :: m, h => by
    simp only [veqsM] at h
    cases hb : veqM a b with
    | false => rw [hb] at h; cases h
    | true => rw [hb] at h; rw [veqM_eq hb, veqsM_eq h]

/-! ## Known calls -/
def memoGet : List (List Value × Value) → List Value → Option Value
  | [], _ => none
  | (a, v) :: r, l => cond (veqsM a l) (some v) (memoGet r l)
def memoC (tab : List (List Value × Value)) : CallF := fun _ args σ => match memoGet tab args.toList with
  | some v => some (v, σ)
  | none => none
theorem memoC_ok {P : Program} {gl : List Nat} {f : FuncId} {tab : List (List Value × Value)} (h : ∀ x ∈ tab, ∀ σ, SimF P gl f x.1.toArray σ x.2 σ) : ∀ args σ v σ', memoC tab f args σ = some (v, σ') → SimF P gl f args σ v σ' := by
  intro args σ v σ' e
  have key : ∀ (t : List (List Value × Value)) (l : List Value), (∀ x ∈ t, ∀ σ, SimF P gl f x.1.toArray σ x.2 σ) → memoGet t l = some v → ∀ σ, SimF P gl f l.toArray σ v σ := by
    intro t
    induction t with
    | nil => intro l _ e; cases e
    | cons x t ih =>
      obtain ⟨a, u⟩ := x
      intro l ht e
      simp only [memoGet] at e
      cases hb : veqsM a l with
      | true =>
        rw [hb] at e
        cases e
        have := veqsM_eq hb
        subst this
        exact ht _ List.mem_cons_self
      | false => rw [hb] at e; exact ih l (fun x hx => ht x (List.mem_cons_of_mem _ hx)) e
  unfold memoC at e
  split at e
  · rename_i u hu
    cases e
    have := key tab args.toList h hu σ
    rwa [Array.toArray_toList] at this
  · cases e

/-- A known call, from one run in the empty state. -/
theorem known_call {P : Program} {call : CallF} (hc : call.ok P []) {f : FuncId} {args : List Value} {v : Value} {next : Nat} (h : (call f args.toArray { heap := .nil, fams := .nil, next := next }).map (·.1) = some v) (ha : args.all flatV = true) (hv : flatV v = true) : ∀ σ, SimF P [] f args.toArray σ v σ := by
  intro σ
  obtain ⟨r, hr, rfl⟩ := Option.map_eq_some_iff.1 h
  obtain ⟨v, σ0⟩ := r
  have h1 := hc _ _ _ _ _ hr
  exact SimF.everywhere (l := []) (next := next) h1 (fun x hx => by cases hx) (fun x hx => by cases hx) (by simpa using ha) hv (fun A x hx => by cases hx)

/-! ## Repeated texts -/
def repC : CallF := fun _ args σ => match args.toList with
  | [.string s, .int .i64 (.ofNat c)] => cond (Nat.ble 2 c && Nat.ble 1 s.size && Nat.ble (Nat.mul s.size c) 140737488355328 && Nat.ble c 9223372036854775807) (some (.string ⟨(Lib.repeatL s.data.toList c).toArray⟩, σ)) none
  | _ => none
theorem repC_ok {P : Program} {gl : List Nat} {f : FuncId} (h : ∀ (s : ByteArray) (c : Nat), 2 ≤ c → c ≤ 9223372036854775807 → s.size * c ≤ 140737488355328 → 0 < s.size → ∀ σ, SimF P gl f #[.string s, .int .i64 (c : Nat)] σ (.string ⟨(Lib.repeatL s.data.toList c).toArray⟩) σ) :
    ∀ args σ v σ', repC f args σ = some (v, σ') → SimF P gl f args σ v σ' := by
  intro args σ v σ' e
  unfold repC at e
  split at e
  · rename_i s c hl
    cases hb : (Nat.ble 2 c && Nat.ble 1 s.size && Nat.ble (Nat.mul s.size c) 140737488355328 && Nat.ble c 9223372036854775807) with
    | false => rw [hb] at e; cases e
    | true =>
      rw [hb] at e
      simp only [Bool.and_eq_true, Nat.ble_eq] at hb
      obtain ⟨⟨⟨h1, h2⟩, h3⟩, h4⟩ := hb
      cases e
      have : args = #[.string s, .int .i64 (.ofNat c)] := by rw [← Array.toArray_toList (xs := args), hl]
      subst this
      exact h s c h1 h4 h3 h2 σ
  · cases e
end Go.Ev

namespace Go.Ev
open Go
set_option linter.unusedVariables false
set_option linter.unusedSimpArgs false

/-- The first statements of a row (one and n more), and the rest. -/
def takeC : Nat → Code → Code
  | 0, .seq a _ => a
  | n + 1, .seq a b => .seq a (takeC n b)
  | _, c => c
def dropC : Nat → Code → Code
  | 0, .seq _ b => b
  | n + 1, .seq _ b => dropC n b
  | _, _ => .skip

def seqs : Nat → Code → Bool
  | 0, .seq _ _ => true
  | n + 1, .seq _ b => seqs n b
  | _, _ => false
theorem seqs_seq : ∀ {n : Nat} {c : Code}, seqs n c = true → ∃ a b, c = .seq a b
  | n, c, h => by cases n <;> cases c <;> first | exact ⟨_, _, rfl⟩ | cases h
section
variable {P : Program} {gl : List Nat} {K : List Nat} {N : Nat}
theorem xsplit {call : KF} (hc : call.ok P gl) (hm : P.follows .mixedOrders = true) {draw : DrawK} (hd : DrawKOk P gl draw) (lf : Nat) : ∀ (n : Nat) (c : Code) (X : XCode), comp P gl N K (takeC n c) = some X → (hasDraw c = true → K = List.range N) → seqs n c = true →
    ∀ (env : XEnv) (σ : St) (g : Gam) (w : World) (a : Act) (k : Ex → XEnv → St → R) (r : Value × St) (Q : Exit → Act → World → Prop), Glob gl g → Rel g σ w → VarRel K N g env a → xcode P call draw lf X env σ k = some r →
    (∀ env' σ' a' w' g', k .normal env' σ' = some r → Rel g' σ' w' → VarRel K N g' env' a' → Ext (fun A => σ.next ≤ A) g g' σ σ' w w' → (dropC n c).wp P Q a' w') →
    (∀ ex env' σ' a' w' g', ex ≠ .normal → k ex env' σ' = some r → Rel g' σ' w' → VarRel K N g' env' a' → Ext (fun A => σ.next ≤ A) g g' σ σ' w w' → Q ex.to a' w') → c.wp P Q a w
  | 0, c, X, h, hK, hseq, env, σ, g, w, a, k, r, Q, hg, hr, hv, he, hk, hk2 => by
    obtain ⟨c1, c2, rfl⟩ := seqs_seq hseq
    refine wp_seq (xcode_ok hc hm hd lf c1 X h (fun hh => hK (by simp [hasDraw, hh])) env σ g w a _ r _ hg hr hv he fun ex env' σ' a' w' g' q1 q2 q3 q4 => ?_)
    cases ex with
    | normal => exact hk env' σ' a' w' g' q1 q2 q3 q4
    | exit id => exact hk2 (.exit id) env' σ' a' w' g' (by intro h; cases h) q1 q2 q3 q4
    | ret => exact hk2 .ret env' σ' a' w' g' (by intro h; cases h) q1 q2 q3 q4
  | n + 1, c, X, h, hK, hseq, env, σ, g, w, a, k, r, Q, hg, hr, hv, he, hk, hk2 => by
    obtain ⟨c1, c2, rfl⟩ := seqs_seq hseq
    have h : comp P gl N K (.seq c1 (takeC n c2)) = some X := h
    simp only [comp] at h
    split at h
    · rename_i X1 X2 h1 h2
      cases h
      have he : xcode P call draw lf X1 env σ (fun ex env σ => Ex.casesOn ex (xcode P call draw lf X2 env σ k) (fun id => k (.exit id) env σ) (k .ret env σ)) = some r := he
      refine wp_seq (xcode_ok hc hm hd lf c1 X1 h1 (fun hh => hK (by simp [hasDraw, hh])) env σ g w a _ r _ hg hr hv he fun ex env' σ' a' w' g' q1 q2 q3 q4 => ?_)
      cases ex with
      | normal =>
        exact xsplit hc hm hd lf n c2 X2 h2 (fun hh => hK (by simp [hasDraw, hh])) hseq env' σ' g' w' a' k r Q (hg.mono q4.le) q2 q3 q1
          (fun env2 σ2 a2 w2 g2 p1 p2 p3 p4 => hk env2 σ2 a2 w2 g2 p1 p2 p3 (q4.after p4))
          (fun ex env2 σ2 a2 w2 g2 p0 p1 p2 p3 p4 => hk2 ex env2 σ2 a2 w2 g2 p0 p1 p2 p3 (q4.after p4))
      | exit id => exact hk2 (.exit id) env' σ' a' w' g' (by intro h; cases h) q1 q2 q3 q4
      | ret => exact hk2 .ret env' σ' a' w' g' (by intro h; cases h) q1 q2 q3 q4
    · cases h
end

def veqU : Value → Value → Bool
  | .tuple x, .tuple y => x.toList.isEmpty && y.toList.isEmpty
  | a, b => veqM a b
theorem veqU_eq {a b : Value} (h : veqU a b = true) : a = b := by
  unfold veqU at h
  split at h
  · rename_i x y
    simp only [Bool.and_eq_true, List.isEmpty_iff] at h
    rw [← Array.toArray_toList (xs := x), ← Array.toArray_toList (xs := y), h.1, h.2]
  · exact veqM_eq h
/-- The slots K2 (their values: vals) hold, in an environment of the slots K1, what is said. -/
noncomputable def chkEnv (K1 : List Nat) (env : XEnv) : List (Nat × XV) → Bool
  | [] => true
  | (t, v) :: l => match varOf K1 t with
    | some p => cond (veqU (orUndef (getR p env)).out v.out) (chkEnv K1 env l) false
    | none => false
noncomputable def mkEnv (K2 : List Nat) : List (Nat × XV) → XEnv
  | [] => .nil
  | (t, v) :: l => match varOf K2 t with
    | some p => (mkEnv K2 l).set p v
    | none => mkEnv K2 l
theorem chkEnv_spec {K1 : List Nat} {env : XEnv} : ∀ {l : List (Nat × XV)}, chkEnv K1 env l = true → ∀ x ∈ l, ∃ p, varOf K1 x.1 = some p ∧ (orUndef (env.get p)).out = x.2.out
  | [], _, x, hx => by cases hx
  | (t, v) :: l, h, x, hx => by
    simp only [chkEnv] at h
    split at h
    · rename_i p hp
      cases hb : veqU (orUndef (getR p env)).out v.out with
      | false => rw [hb] at h; cases h
      | true =>
        rw [hb] at h
        cases hx with
        | head => exact ⟨p, hp, by rw [← getR_eq]; exact veqU_eq hb⟩
        | tail _ hx => exact chkEnv_spec h x hx
    · cases h
theorem mkEnv_get {K2 : List Nat} : ∀ (l : List (Nat × XV)) (t : Nat) (p : List Bool), varOf K2 t = some p → (∃ v, (t, v) ∈ l) → ∃ v, (t, v) ∈ l ∧ (mkEnv K2 l).get p = some v
  | [], t, p, hp, ⟨v, h⟩ => by cases h
  | (s, u) :: l, t, p, hp, ⟨v, h⟩ => by
    simp only [mkEnv]
    cases hs : varOf K2 s with
    | none =>
      cases h with
      | head => rw [hs] at hp; cases hp
      | tail _ h =>
        obtain ⟨v2, h1, h2⟩ := mkEnv_get l t p hp ⟨v, h⟩
        exact ⟨v2, List.mem_cons_of_mem _ h1, h2⟩
    | some q =>
      simp only [Tr.get_set]
      by_cases e : q = p
      · rw [if_pos e]
        have : s = t := varOf_inj hs (by rw [e]; exact hp)
        subst this
        exact ⟨u, List.mem_cons_self, rfl⟩
      · rw [if_neg e]
        cases h with
        | head => rw [hs] at hp; exact (e (Option.some.inj hp)).elim
        | tail _ h =>
          obtain ⟨v2, h1, h2⟩ := mkEnv_get l t p hp ⟨v, h⟩
          exact ⟨v2, List.mem_cons_of_mem _ h1, h2⟩

theorem hvals_map {K : List Nat} {f : Nat → XV} : ∀ t p, varOf K t = some p → ∃ v, (t, v) ∈ K.map fun t => (t, f t) := by
  have key : ∀ (K : List Nat) (j r t : Nat), rank K t j = some r → t ∈ K := by
    intro K
    induction K with
    | nil => intro j r t h; cases h
    | cons a K ih =>
      intro j r t h
      simp only [rank] at h
      split at h
      · rename_i e
        rw [Nat.beq_eq] at e
        subst e; exact List.mem_cons_self
      · exact List.mem_cons_of_mem _ (ih _ _ _ h)
  intro t p h
  obtain ⟨r, h1, _⟩ := map_some h
  exact ⟨f t, List.mem_map.2 ⟨t, key _ _ _ _ h1, rfl⟩⟩
theorem emptyRel (n : Nat) (w : World) : Rel (fun _ => none) { heap := .nil, fams := .nil, next := n } w := by
  have hg : ∀ A, St.get { heap := .nil, fams := .nil, next := n } A = none := fun A => by unfold St.get; cases path A <;> rfl
  have hf : ∀ A, St.famO { heap := .nil, fams := .nil, next := n } A = none := fun A => by unfold St.famO; cases path A <;> rfl
  have hh : ∀ A, St.hintO { heap := .nil, fams := .nil, next := n } A = none := fun A => by unfold St.hintO; cases path A <;> rfl
  refine ⟨⟨?_, ?_, ?_, ?_, ?_, ?_⟩, ?_, ?_, ?_, ?_⟩
  · intro A o h; rw [hg] at h; cases h
  · intro A own v F c h; rw [hg] at h; cases h
  · intro A v F c h; rw [hg] at h; cases h
  · intro F O h; rw [hf] at h; cases h
  · intro F O X own v c own' v' c' h; rw [hf] at h; cases h
  · intro A m h; rw [hh] at h; cases h
  · intro A x h; cases h
  · intro A x h; cases h
  · intro A x A' x' h; cases h
  · intro X x O y F v c own c' h; cases h

/-- A law without arguments, of no package-level variable, in two runs. -/
theorem law_two {P : Program} {call : KF} (hc : call.ok P []) (hm : P.follows .mixedOrders = true) {draw : DrawK} (hd : DrawKOk P [] draw) (lf : Nat) {f : FuncId} {fn : Func} {c : Code} (hf : P.funcs[f]? = some fn) (hb : fn.body = some c) (hdr : hasDraw c = false)
    (n : Nat) (hseq : seqs n c = true) {K1 K2 : List Nat} {X1 X2 : XCode} (h1 : comp P [] fn.ntmps K1 (takeC n c) = some X1) (h2 : comp P [] fn.ntmps K2 (dropC n c) = some X2) (hdr2 : hasDraw (dropC n c) = false)
    {vals : List (Nat × XV)} (hvals : ∀ t p, varOf K2 t = some p → ∃ v, (t, v) ∈ vals) (hflat : ∀ x ∈ vals, flatV x.2.out = true) {rs : List (ResultVar × List Bool)} (hrs : fn.results.toList.mapM (fun r => (varOf K2 (resTmp r)).map fun p => (r, p)) = some rs)
    {r1 : Value × St} (run1 : xcode P call draw lf X1 .nil { heap := .nil, fams := .nil, next := 1000 } (fun ex env σ => Ex.casesOn ex (cond (chkEnv K1 env vals) (some (.bool true, { heap := .nil, fams := .nil, next := 0 })) none) (fun _ => none) none) = some r1)
    {v : Value} {σ2 : St} (run2 : xcode P call draw lf X2 (mkEnv K2 vals) { heap := .nil, fams := .nil, next := 1000 } (fun ex env σ => Ex.casesOn ex (xret P rs env σ fun v σ => some (v.out, { heap := .nil, fams := .nil, next := 0 })) (fun _ => none) (xret P rs env σ fun v σ => some (v.out, { heap := .nil, fams := .nil, next := 0 }))) = some (v, σ2)) (hv : flatV v = true) :
    ∀ w, Calls P f #[] w fun e w' => e = .returned v ∧ Go.RowKit.Below w.heap.size w w' := by
  intro w
  have hgl : ∀ g : Gam, Glob [] g := fun g b hb => by cases hb
  have hsz : (#[] ++ Array.replicate (fn.ntmps - 0) undef : Array Value).size = fn.ntmps := by simp
  refine calls_of_wp hf hb ?_
  have hgetD : ∀ t, (#[] ++ Array.replicate (fn.ntmps - (#[] : Array Value).size) undef : Array Value).getD t undef = undef := fun t => by
    rw [Array.getD_eq_getD_getElem?]
    simp only [Array.empty_append]
    rw [Array.getElem?_replicate]
    split <;> rfl
  have hund : ∀ g, VRel g undef undef := fun g => .tuple _ _ rfl fun i h => by simp at h
  have hv0 : VarRel K1 fn.ntmps (fun _ => none) .nil { tmps := #[] ++ Array.replicate (fn.ntmps - (#[] : Array Value).size) undef, defers := [] } := by
    refine ⟨rfl, by simp, fun t p hp => ?_, fun t _ _ _ => ?_⟩
    · rw [hgetD]
      have : (Tr.get (.nil : XEnv) p) = none := by cases p <;> rfl
      rw [this]; exact hund _
    · have : (Tr.get (.nil : XEnv) (path t)) = none := by cases path t <;> rfl
      rw [this]; exact hund _
  refine xsplit hc hm hd lf n c X1 h1 (fun h => by rw [hdr] at h; cases h) hseq .nil { heap := .nil, fams := .nil, next := 1000 } (fun _ => none) w _ _ r1 _ (hgl _) (emptyRel _ w) hv0 run1 (fun env' σ' a' w' g' q1 q2 q3 q4 => ?_) (fun ex env' σ' a' w' g' q0 q1 q2 q3 q4 => ?_)
  · have q1 : (cond (chkEnv K1 env' vals) (some (.bool true, { heap := .nil, fams := .nil, next := 0 })) none : R) = some r1 := q1
    cases hchk : chkEnv K1 env' vals with
    | false => rw [hchk] at q1; cases q1
    | true =>
      have hspec := chkEnv_spec hchk
      have hv2 : VarRel K2 fn.ntmps (fun _ => none) (mkEnv K2 vals) a' := by
        refine ⟨q3.defers, q3.size, fun t p hp => ?_, fun t ht hN hno => ?_⟩
        · obtain ⟨v2, m1, m2⟩ := mkEnv_get vals t p hp (hvals t p hp)
          rw [m2]
          obtain ⟨p1, e1, e2⟩ := hspec _ m1
          have hrel := q3.vars t p1 e1
          rw [e2] at hrel
          have hfl := hflat _ m1
          rw [flatV_eq hfl hrel]
          exact flatV_rel hfl
        · have : (mkEnv K2 vals).get (path t) = none := by
            have : ∀ l : List (Nat × XV), (mkEnv K2 l).get (path t) = none := by
              intro l
              induction l with
              | nil => simp only [mkEnv]; cases path t <;> rfl
              | cons x l ih =>
                obtain ⟨s, u⟩ := x
                simp only [mkEnv]
                cases hs : varOf K2 s with
                | none => exact ih
                | some q =>
                  simp only [Tr.get_set]
                  rw [if_neg (hno s q hs)]
                  exact ih
            exact this vals
          rw [this]; exact hund _
      refine xcode_ok hc hm hd lf (dropC n c) X2 h2 (fun h => by rw [hdr2] at h; cases h) (mkEnv K2 vals) { heap := .nil, fams := .nil, next := 1000 } (fun _ => none) w' a' _ _ _ (hgl _) (emptyRel _ w') hv2 run2 fun ex env2 σ3 a2 w2 g2 p1 p2 p3 p4 => ?_
      have fin : xret P rs env2 σ3 (fun v σ => some (v.out, { heap := .nil, fams := .nil, next := 0 })) = some (v, σ2) → a2.defers = [] ∧ ∃ v', (results fn a2.tmps).run P w2 = .ok v' w2 ∧ (Ending.returned v' = .returned v ∧ Go.RowKit.Below w.heap.size w w2) := by
        intro p1
        unfold xret at p1
        split at p1
        · rename_i vs hvs
          rw [take_eq] at p1
          simp only [Option.some.injEq, Prod.mk.injEq] at p1
          obtain ⟨p1, _⟩ := p1
          rw [xvOf_out] at p1
          obtain ⟨v', hrun, hrel⟩ := results_ok (P := P) p3 p2 hrs hvs
          rw [p1] at hrel
          have hpk := flatV_eq hv hrel
          refine ⟨p3.defers, v', hrun, congrArg _ hpk, ?_⟩
          have keep1 : ∀ b, b < w.heap.size → w'.heap[b]? = w.heap[b]? := fun b hb => q4.keep b hb fun A x hA _ => by cases hA
          have keep2 : ∀ b, b < w'.heap.size → w2.heap[b]? = w'.heap[b]? := fun b hb => p4.keep b hb fun A x hA _ => by cases hA
          exact ⟨p4.os.trans q4.os, p4.tape.trans q4.tape, p4.out.trans q4.out, Nat.le_trans q4.size p4.size, fun b hb => (keep2 b (Nat.lt_of_lt_of_le hb q4.size)).trans (keep1 b hb)⟩
        · cases p1
      cases ex with
      | normal => exact fin p1
      | ret => exact fin p1
      | exit id => cases p1
  · cases ex with
    | normal => exact (q0 rfl).elim
    | ret => cases q1
    | exit id => cases q1
end Go.Ev

namespace Go.Ev
open Go
set_option linter.unusedVariables false
set_option linter.unusedSimpArgs false

/-- The relation looks at the named blocks alone. -/
theorem Rel.named {g : Gam} {σ : St} {w w' : World} (h : Rel g σ w) (hs : w.heap.size ≤ w'.heap.size) (hh : ∀ A x, g A = some x → w'.heap[x.block]? = w.heap[x.block]?) : Rel g σ w' :=
  ⟨h.wf, fun A x a => Nat.lt_of_lt_of_le (h.blk A x a) hs, fun A x a => let ⟨o, b, c⟩ := h.obj A x a; ⟨o, b, OSays.mono (Gam.le_refl g) (hh A x a) (fun _ _ _ _ _ h => h) c⟩, h.share, h.order⟩

def markOf (r : Nat) : Deferred := { target := .collected r, args := #[] }
/-- The marks that ranges over functions have left among the deferred calls: their blocks are empty, and no name's. -/
def Marks (g' : Gam) (w w' : World) (M : List Deferred) : Prop :=
  ∃ rs : List Nat, M = rs.map markOf ∧ rs.Nodup ∧ ∀ r ∈ rs, w.heap.size ≤ r ∧ w'.heap[r]? = some (.deferred (some [])) ∧ ∀ A x, g' A = some x → x.block ≠ r

def SimM (P : Program) (gl : List Nat) (N : Nat) (c : Code) (env : Env) (σ : St) (ex : Ex) (env' : Env) (σ' : St) : Prop :=
  ∀ (Ds : List Deferred) g w a, Glob gl g → Rel g σ w → EnvRel Ds g N env a →
    c.wp P (fun e a' w' => e = ex.to ∧ ∃ g' M, Marks g' w w' M ∧ Rel g' σ' w' ∧ EnvRel (M ++ Ds) g' N env' a' ∧ Ext (fun A => σ.next ≤ A) g g' σ σ' w w') a w

section
variable {P : Program} {gl : List Nat} {N : Nat}

theorem SimM.of {c : Code} {env env' : Env} {σ σ' : St} {ex : Ex} (h : SimC P gl N c env σ ex env' σ') : SimM P gl N c env σ ex env' σ' := by
  intro Ds g w a hg hr he
  refine wp_mono (h Ds g w a hg hr he) ?_
  rintro e a' w' ⟨rfl, g', r1, r2, r3⟩
  exact ⟨rfl, g', [], ⟨[], rfl, List.nodup_nil, fun r hr => by cases hr⟩, r1, r2, r3⟩

theorem Marks.after {g g1 g2 : Gam} {σ σ1 σ2 : St} {w w1 w2 : World} {M1 M2 : List Deferred} {N1 : Nat → Prop} (h1 : Marks g1 w w1 M1) (h2 : Marks g2 w1 w2 M2) (hs : w.heap.size ≤ w1.heap.size) (x2 : Ext N1 g1 g2 σ1 σ2 w1 w2) : Marks g2 w w2 (M2 ++ M1) := by
  obtain ⟨r1, rfl, n1, p1⟩ := h1
  obtain ⟨r2, rfl, n2, p2⟩ := h2
  have lt1 : ∀ r ∈ r1, r < w1.heap.size := fun r hr => by
    obtain ⟨_, h, _⟩ := p1 r hr
    exact (Array.getElem?_eq_some_iff.1 h).1
  refine ⟨r2 ++ r1, by simp, List.nodup_append.2 ⟨n2, n1, fun a ha b hb e => ?_⟩, fun r hr => ?_⟩
  · have := (p2 a ha).1; have := lt1 b hb; omega
  · rcases List.mem_append.1 hr with hr | hr
    · obtain ⟨a, b, c⟩ := p2 r hr
      exact ⟨Nat.le_trans hs a, b, c⟩
    · obtain ⟨a, b, c⟩ := p1 r hr
      have hlt := lt1 r hr
      refine ⟨a, (x2.keep r hlt fun A x hA e => (c A x hA e).elim).trans b, fun A x hA e => ?_⟩
      cases h0 : g1 A with
      | some y =>
        have : y = x := Option.some.inj ((x2.le A y h0).symm.trans hA)
        subst this
        exact c A y h0 e
      | none =>
        rcases x2.fresh A x hA h0 with h | ⟨A0, x0, q1, q2, _⟩
        · omega
        · exact c A0 x0 q1 (q2.trans e)

theorem SimM.seq {a b : Code} {env env1 env2 : Env} {σ σ1 σ2 : St} {ex : Ex} (h1 : SimM P gl N a env σ .normal env1 σ1) (h2 : SimM P gl N b env1 σ1 ex env2 σ2) : SimM P gl N (.seq a b) env σ ex env2 σ2 := by
  intro Ds g w x hg hr he
  refine wp_seq (wp_mono (h1 Ds g w x hg hr he) ?_)
  rintro e a' w' ⟨rfl, g', M1, m1, r1, r2, r3⟩
  refine wp_mono (h2 (M1 ++ Ds) g' w' a' (hg.mono r3.le) r1 r2) ?_
  rintro e a'' w'' ⟨rfl, g'', M2, m2, s1, s2, s3⟩
  exact ⟨rfl, g'', M2 ++ M1, m1.after (σ := σ) (g := g) m2 r3.size s3, s1, by rw [List.append_assoc]; exact s2, r3.trans (s3.mono fun A hA => Nat.le_trans r3.next hA)⟩
theorem SimM.seq_out {a b : Code} {env env1 : Env} {σ σ1 : St} {ex : Ex} (h1 : SimM P gl N a env σ ex env1 σ1) (hex : ex ≠ .normal) : SimM P gl N (.seq a b) env σ ex env1 σ1 := by
  intro Ds g w x hg hr he
  refine wp_seq (wp_mono (h1 Ds g w x hg hr he) ?_)
  rintro e a' w' ⟨rfl, rest⟩
  cases ex with
  | normal => exact (hex rfl).elim
  | exit id => exact ⟨rfl, rest⟩
  | ret => exact ⟨rfl, rest⟩
theorem SimM.block {id : Nat} {c : Code} {env env1 : Env} {σ σ1 : St} {ex : Ex} (h : SimM P gl N c env σ ex env1 σ1) :
    SimM P gl N (.block id c) env σ (match ex with | .exit id' => if id' = id then .normal else .exit id' | e => e) env1 σ1 := by
  intro Ds g w x hg hr he
  refine wp_block (wp_mono (h Ds g w x hg hr he) ?_)
  rintro e a' w' ⟨rfl, rest⟩
  cases ex with
  | normal => exact ⟨rfl, rest⟩
  | ret => exact ⟨rfl, rest⟩
  | exit id' =>
    simp only [Ex.to, Exit.inBlock]
    split
    · exact ⟨rfl, rest⟩
    · exact ⟨rfl, rest⟩

/-- The value that stands for yield, where nobody calls it. -/
def yieldV : Value := .func (.yield 0) #[] #[]
/-- A range over a function whose iterator never calls back. -/
theorem SimM.rangeFunc {gop : Operand} {ps : Array Tmp} {assign body : Code} {env : Env} {σ σ' : St} {f : FuncId} {args : Array Value} {v : Value} (hok : okOperand gl gop = true)
    (hi : opInvoke P (Ev.rho env gop) #[yieldV] σ = some (.enter f args)) (hs : SimF P gl f args σ v σ') : SimM P gl N (.rangeFunc gop ps assign body) env σ .normal env σ' := by
  intro Ds g w a hg hr he
  have hv := he.rho hg hok
  refine wpIn_wide (n := 0).1 (wpIn_rangeFunc fun fn _ => ?_)
  obtain ⟨w1, hw1⟩ : ∃ w1, w1 = (w.alloc (.deferred (some []))).alloc (.loop { state := .ready, pending := none, fn, tmps := a.tmps, params := ps, assign, body, defers := w.heap.size }) := ⟨_, rfl⟩
  have hsz : w1.heap.size = w.heap.size + 2 := by rw [hw1]; simp
  have hlow : ∀ b, b < w.heap.size → w1.heap[b]? = w.heap[b]? := fun b hb => by
    rw [hw1, Go.RowKit.Below.heap_alloc _ _ b (by simp; omega), Go.RowKit.Below.heap_alloc _ _ b hb]
  have hrec : w1.heap[w.heap.size + 1]? = some (.loop { state := .ready, pending := none, fn, tmps := a.tmps, params := ps, assign, body, defers := w.heap.size }) := by
    rw [hw1]
    have := World.alloc_heap_new (w.alloc (.deferred (some []))) (.loop { state := .ready, pending := none, fn, tmps := a.tmps, params := ps, assign, body, defers := w.heap.size })
    simpa using this
  have hdef : w1.heap[w.heap.size]? = some (.deferred (some [])) := by
    rw [hw1, Go.RowKit.Below.heap_alloc _ _ _ (by simp)]
    exact World.alloc_heap_new w _
  have hr1 : Rel g σ w1 := hr.named (by omega) fun A x hA => hlow _ (hr.blk A x hA)
  have hy : ARel g #[yieldV] #[.func (.yield (w.heap.size + 1)) #[] #[]] := by
    refine ⟨rfl, fun i h1 h2 => ?_⟩
    obtain rfl : i = 0 := by simp at h1; omega
    exact .yield _ _
  obtain ⟨args', e1, ha⟩ := opInvoke_ok (N := fun _ => False) hi hr1 hv hy
  obtain ⟨d, hd⟩ : ∃ d, (Deferred.ofValue (a.eval gop) #[.func (.yield (w.heap.size + 1)) #[] #[]]) = (pure d : Sem Deferred) := by
    unfold opInvoke at hi
    split at hi
    · rename_i fv first cap hx
      rw [hx] at hv
      generalize a.eval gop = q at hv
      cases hv
      exact ⟨_, rfl⟩
    · cases hi
  rw [hd] at e1
  have e2 : (invoke d.target d.args).run P w1 = .ok (.enter f args') w1 := by simpa using e1
  refine ⟨w.heap.size + 1, [markOf w.heap.size], w1, d, w1, f, args', w1, ?_, ?_, fun _ _ => trivial, e2, (fun h => by cases h), ?_⟩
  · rw [hw1]; exact run_enterLoop_outer fn a.tmps ps assign body
  · show (Go.resolve a.eval (rangeCall gop (w.heap.size + 1)) 0).run P w1 = .ok d w1
    have : Go.resolve a.eval (rangeCall gop (w.heap.size + 1)) 0 = (pure d : Sem Deferred) := by
      rw [← hd]; unfold Go.resolve rangeCall; simp only [List.map_toArray, List.map_cons, List.map_nil]; rfl
    rw [this]; simp
  · refine callsIn_wide.2 ((hs g w1 args' hg hr1 ha).mono ?_)
    rintro e w3 ⟨v', g', rfl, hv', r1, r3⟩
    have unnamed : ∀ r, w.heap.size ≤ r → r < w1.heap.size → ∀ A x, g' A = some x → x.block ≠ r := by
      intro r h1 h2 A x hA e
      cases h0 : g A with
      | some y =>
        have : y = x := Option.some.inj ((r3.le A y h0).symm.trans hA)
        subst this
        have := hr.blk A y h0; omega
      | none =>
        rcases r3.fresh A x hA h0 with h | ⟨A0, x0, q1, q2, _⟩
        · omega
        · have := hr.blk A0 x0 q1; omega
    have kept : ∀ r, w.heap.size ≤ r → r < w1.heap.size → w3.heap[r]? = w1.heap[r]? := fun r h1 h2 =>
      r3.keep r h2 fun A x hA e => by have := hr.blk A x hA; omega
    have hrec3 := (kept (w.heap.size + 1) (by omega) (by omega)).trans hrec
    refine ⟨none, _, run_endLoop hrec3 (by simp), ?_⟩
    refine ⟨rfl, g', [markOf w.heap.size], ⟨[w.heap.size], rfl, by simp, fun r hrm => ?_⟩, r1.named (by simp) fun A x hA => ?_, ?_, ?_⟩
    · obtain rfl : r = w.heap.size := by simpa using hrm
      refine ⟨Nat.le_refl _, ?_, unnamed _ (Nat.le_refl _) (by omega)⟩
      rw [World.putObj_heap_other (by omega)]
      exact (kept _ (Nat.le_refl _) (by omega)).trans hdef
    · exact World.putObj_heap_other (unnamed _ (by omega) (by omega) A x hA)
    · refine ⟨by rw [← he.defers], he.size, fun t => (he.slot t).mono r3.le⟩
    · refine ⟨r3.le, r3.new, fun A x hA h0 => ?_, ?_, fun b hb hall => ?_, r3.frame, r3.ro, r3.next, ?_, ?_, ?_⟩
      · rcases r3.fresh A x hA h0 with h | h
        · exact .inl (by omega)
        · exact .inr h
      · have := r3.size; simp; omega
      · rw [World.putObj_heap_other (by omega), r3.keep b (by omega) hall, hlow b hb]
      · have := r3.os; rw [hw1] at this; exact this
      · have := r3.out; rw [hw1] at this; exact this
      · have := r3.tape; rw [hw1] at this; exact this

/-! ## The evaluator of such code -/
def evalM (P : Program) (gl : List Nat) (N : Nat) (call : CallF) (draw : Array Oper → Env → St → Option (Env × St)) (lf : Nat) : Code → Env → St → CRes
  | .seq a b, env, σ => match evalM P gl N call draw lf a env σ with
    | some (.normal, env', σ') => evalM P gl N call draw lf b env' σ'
    | r => r
  | .block id body, env, σ => match evalM P gl N call draw lf body env σ with
    | some (.exit id', env', σ') => if id' = id then some (.normal, env', σ') else some (.exit id', env', σ')
    | r => r
  | .rangeFunc gop _ _ _, env, σ => if okOperand gl gop then match opInvoke P (rho env gop) #[yieldV] σ with
      | some (.enter f args) => match call f args σ with
        | some (_, σ') => some (.normal, env, σ')
        | none => none
      | _ => none
    else none
  | c, env, σ => evalCode P gl N call draw lf c env σ

theorem evalM_ok {call : CallF} (hc : call.ok P gl) {draw : Array Oper → Env → St → Option (Env × St)} (hd : DrawOk P gl N draw) (lf : Nat) :
    ∀ (c : Code) (env : Env) (σ : St) (ex : Ex) (env' : Env) (σ' : St), evalM P gl N call draw lf c env σ = some (ex, env', σ') → SimM P gl N c env σ ex env' σ' := by
  intro c
  induction c with
  | seq a b iha ihb =>
    intro env σ ex env' σ' h
    simp only [evalM] at h
    split at h
    · rename_i e1 s1 h1
      exact .seq (iha _ _ _ _ _ h1) (ihb _ _ _ _ _ h)
    · rename_i hne
      exact .seq_out (iha _ _ _ _ _ h) (fun e => by subst e; exact hne _ _ h)
  | block id c ih =>
    intro env σ ex env' σ' h
    simp only [evalM] at h
    split at h
    · rename_i id' e1 s1 h1
      have := SimM.block (id := id) (ih _ _ _ _ _ h1)
      split at h
      · rename_i e; cases h; simpa [e] using this
      · rename_i e; cases h; simpa [e] using this
    · rename_i hne
      have := SimM.block (id := id) (ih _ _ _ _ _ h)
      cases ex with
      | normal => exact this
      | ret => exact this
      | exit id' => exact (hne _ _ _ h).elim
  | rangeFunc gop ps as b _ _ =>
    intro env σ ex env' σ' h
    simp only [evalM] at h
    split at h
    · rename_i hok
      split at h
      · rename_i f args hi
        split at h
        · rename_i v s1 hcall
          cases h
          exact .rangeFunc hok hi (hc _ _ _ _ _ hcall)
        · cases h
      · cases h
    · cases h
  | _ =>
    intro env σ ex env' σ' h
    exact .of (evalCode_ok hc hd lf _ _ _ _ _ _ h)
end

/-- On its way out, past the marks. -/
theorem leaves_marks {P : Program} {fn : Func} {tmps : Array Value} {R : Ending → World → Prop} : ∀ (rs : List Nat) (w : World), rs.Nodup → (∀ r ∈ rs, w.heap[r]? = some (.deferred (some []))) →
    (∀ w', w'.heap.size = w.heap.size → (∀ b, b ∉ rs → w'.heap[b]? = w.heap[b]?) → w'.os = w.os → w'.output = w.output → w'.tape = w.tape → ∃ v, (results fn tmps).run P w' = .ok v w' ∧ R (.returned v) w') →
    LeavesInM Fence.wide 0 P fn tmps R (rs.map markOf) .returning w
  | [], w, _, _, hk => hk w rfl (fun _ _ => rfl) rfl rfl rfl
  | r :: rs, w, hn, hm, hk => by
    obtain ⟨h1, h2⟩ := List.nodup_cons.1 hn
    refine ⟨by simp, .inl ⟨r, _, rfl, run_takeDeferred (hm r (by simp)), ?_⟩⟩
    refine leaves_marks rs _ h2 (fun r' hr' => ?_) fun w' e1 e2 e3 e4 e5 => hk w' (e1.trans (by simp)) (fun b hb => ?_) e3 e4 e5
    · rw [World.putObj_heap_other (by rintro rfl; exact h1 hr')]
      exact hm r' (by simp [hr'])
    · simp only [List.mem_cons, not_or] at hb
      rw [e2 b hb.2, World.putObj_heap_other hb.1]

/-- A function that holds ranges over functions. -/
def evalFnM (P : Program) (gl : List Nat) (call : CallF) (draw : Nat → Array Oper → Env → St → Option (Env × St)) (lf : Nat) : CallF := fun f args σ =>
  match P.funcs[f]? with
  | some fn => match fn.body with
    | some c => if args.size ≤ fn.ntmps then match evalM P gl fn.ntmps call (draw fn.ntmps) lf c (initEnv args.toList 0 .nil) σ with
        | some (.normal, env, σ') => (resVals P env σ' fn.results.toList).map fun l => (packed l, σ')
        | some (.ret, env, σ') => (resVals P env σ' fn.results.toList).map fun l => (packed l, σ')
        | _ => none
      else none
    | none => none
  | none => none
theorem packed_results {P : Program} {Ds : List Deferred} {g' : Gam} {N : Nat} {env : Env} {σ : St} {a' : Act} {w' : World} {fn : Func} (he : EnvRel Ds g' N env a') (hr : Rel g' σ w') {vs : List Value} (hrv : resVals P env σ fn.results.toList = some vs) :
    ∃ v', (results fn a'.tmps).run P w' = .ok v' w' ∧ VRel g' (packed vs) v' := by
  obtain ⟨vs', e1, e2⟩ := resVals_ok (P := P) he hr _ _ hrv
  have hrun : (results fn a'.tmps).run P w' = .ok (packed vs') w' := by
    obtain ⟨F, hF⟩ : ∃ F : ResultVar → Sem Value, F = fun (x : ResultVar) => (match x with | .tmp t => pure (a'.tmps.getD t undef) | .cell a t => do loadVar t (← asAddr (a'.tmps.getD a undef)) : Sem Value) := ⟨_, rfl⟩
    have hdef : results fn a'.tmps = (do let vs ← fn.results.mapM F; pure (if h : vs.size = 1 then vs[0] else .tuple vs)) := by
      rw [hF]; rfl
    have e3 : (fn.results.toList.mapM F).run P w' = .ok vs' w' := by rw [hF]; exact e1
    have hm : (fn.results.mapM F).run P w' = .ok vs'.toArray w' := by
      rw [← Array.toArray_toList (xs := fn.results), List.mapM_toArray]
      simp only [Sem.run_map, e3, Result.andThen_ok]
    rw [hdef]
    simp only [Sem.run_bind, hm, Result.andThen_ok, Sem.run_pure]
    congr 1
    unfold packed
    match vs', e2 with
    | [], _ => rfl
    | [v], _ => rfl
    | _ :: _ :: _, _ => simp
  have hrel : VRel g' (packed vs) (packed vs') := by
    unfold packed
    match vs, vs', e2 with
    | [], [], _ => exact .tuple _ _ rfl fun i h => by simp at h
    | [v], [v'], e2 => exact e2.2 0 (by simp) (by simp)
    | x :: y :: r, x' :: y' :: r', e2 => exact .tuple _ _ (by simpa using e2.1) fun i h1 h2 => by simpa using e2.2 i (by simpa using h1) (by simpa using h2)
    | [], _ :: _, e2 => have := e2.1; simp at this
    | _ :: _, [], e2 => have := e2.1; simp at this
    | [_], _ :: _ :: _, e2 => have := e2.1; simp at this
    | _ :: _ :: _, [_], e2 => have := e2.1; simp at this
  exact ⟨_, hrun, hrel⟩

theorem initEnv_rel {g : Gam} {N : Nat} {args args' : Array Value} (ha : ARel g args args') (hsz : args.size ≤ N) :
    EnvRel [] g N (initEnv args.toList 0 .nil) { tmps := args' ++ Array.replicate (N - args'.size) undef, defers := [] } := by
  refine ⟨rfl, by simp [← ha.1]; omega, fun t => ?_⟩
  rw [eget_init]
  by_cases ht : t < args.size
  · rw [if_pos (by simp; exact ht)]
    have ht' : t < args'.size := by rw [← ha.1]; exact ht
    have e1 : args.toList.getD (t - 0) undef = args[t] := by simp [List.getD, ht]
    have e2 : (args' ++ Array.replicate (N - args'.size) undef).getD t undef = args'[t] := by
      rw [Array.getD_eq_getD_getElem?, Array.getElem?_append_left ht']; simp [ht']
    rw [e1, e2]; exact ha.2 t ht ht'
  · rw [if_neg (by simp; exact Nat.le_of_not_lt ht)]
    have e1 : eget .nil t = undef := rfl
    have e2 : (args' ++ Array.replicate (N - args'.size) undef).getD t undef = undef := by
      rw [Array.getD_eq_getD_getElem?, Array.getElem?_append_right (by rw [← ha.1]; omega), Array.getElem?_replicate]
      split <;> rfl
    rw [e1, e2]; exact .tuple _ _ rfl fun i h => by simp at h

theorem evalFnM_ok {P : Program} {gl : List Nat} {call : CallF} (hc : call.ok P gl) {draw : Nat → Array Oper → Env → St → Option (Env × St)} (hd : ∀ N, DrawOk P gl N (draw N)) (lf : Nat) : (evalFnM P gl call draw lf).ok P gl := by
  intro f args σ v σ' h g w args' hg hr ha
  unfold evalFnM at h
  split at h
  · rename_i fn hf
    split at h
    · rename_i c hb
      split at h
      · rename_i hsz
        have key : ∀ ex env, evalM P gl fn.ntmps call (draw fn.ntmps) lf c (initEnv args.toList 0 .nil) σ = some (ex, env, σ') → (ex = .normal ∨ ex = .ret) → (resVals P env σ' fn.results.toList).map (fun l => (packed l, σ')) = some (v, σ') →
            Calls P f args' w fun e w' => ∃ v' g', e = .returned v' ∧ VRel g' v v' ∧ Rel g' σ' w' ∧ Ext (fun A => σ.next ≤ A) g g' σ σ' w w' := by
          intro ex env hev hex hres
          have hsim := evalM_ok hc (hd fn.ntmps) lf c _ _ _ _ _ hev
          refine callsIn_wide (n := 0).1 (callsIn_of_wp_marks hf hb trivial (wpIn_wide.2 (wp_mono (hsim [] g w _ hg hr (initEnv_rel ha hsz)) ?_)))
          rintro e a' w' ⟨rfl, g', M, ⟨rs, rfl, hnd, hrs⟩, r1, r2, r3⟩
          cases hrv : resVals P env σ' fn.results.toList with
          | none => rw [hrv] at hres; cases hres
          | some vs =>
            rw [hrv] at hres
            simp only [Option.map_some, Option.some.injEq, Prod.mk.injEq, and_true] at hres
            have hdef : a'.defers = rs.map markOf := by have := r2.defers; simpa using this
            have fin : LeavesInM Fence.wide 0 P fn a'.tmps (fun e w' => ∃ v' g', e = .returned v' ∧ VRel g' v v' ∧ Rel g' σ' w' ∧ Ext (fun A => σ.next ≤ A) g g' σ σ' w w') a'.defers .returning w' := by
              rw [hdef]
              refine leaves_marks rs w' hnd (fun r hr => (hrs r hr).2.1) fun w2 e1 e2 e3 e4 e5 => ?_
              have hr2 : Rel g' σ' w2 := r1.named (by omega) fun A x hA => e2 _ fun hm => (hrs _ hm).2.2 A x hA rfl
              obtain ⟨v', hrun, hrel⟩ := packed_results (P := P) r2 hr2 hrv
              refine ⟨v', hrun, v', g', rfl, hres ▸ hrel, hr2, r3.le, r3.new, r3.fresh, by have := r3.size; omega, fun b hb hall => ?_, r3.frame, r3.ro, r3.next, e3.trans r3.os, e4.trans r3.out, e5.trans r3.tape⟩
              rw [e2 b fun hm => ?_]
              · exact r3.keep b hb hall
              · have := (hrs b hm).1; omega
            rcases hex with rfl | rfl
            · exact fin
            · exact fin
        split at h
        · rename_i env s1 he
          have : s1 = σ' := by
            cases hrv : resVals P env s1 fn.results.toList with
            | none => rw [hrv] at h; cases h
            | some l => rw [hrv] at h; simp at h; exact h.2
          subst this
          exact key .normal env he (.inl rfl) h
        · rename_i env s1 he
          have : s1 = σ' := by
            cases hrv : resVals P env s1 fn.results.toList with
            | none => rw [hrv] at h; cases h
            | some l => rw [hrv] at h; simp at h; exact h.2
          subst this
          exact key .ret env he (.inr rfl) h
        · cases h
      · cases h
    · cases h
  · cases h
end Go.Ev

namespace Go.Ev
open Go
set_option linter.unusedVariables false
set_option linter.unusedSimpArgs false

/-- The same value, with blocks named anew (and begun elsewhere). -/
inductive VRen (ρ : Nat → Option (Nat × Nat)) : Value → Value → Prop where
  | bool (b : Bool) : VRen ρ (.bool b) (.bool b)
  | int (k : IntKind) (n : Int) : VRen ρ (.int k n) (.int k n)
  | float (k : FloatKind) (b : Nat) : VRen ρ (.float k b) (.float k b)
  | complex (k : FloatKind) (a b : Nat) : VRen ρ (.complex k a b) (.complex k a b)
  | string (s : ByteArray) : VRen ρ (.string s) (.string s)
  | nilPtr : VRen ρ (.pointer none) (.pointer none)
  | ptr (A B d o : Nat) (h : ρ A = some (B, d)) : VRen ρ (.pointer (some ⟨A, o, none⟩)) (.pointer (some ⟨B, d + o, none⟩))
  | nilSlice : VRen ρ (.slice none 0 0) (.slice none 0 0)
  | slice (A B d o n k : Nat) (h : ρ A = some (B, d)) : VRen ρ (.slice (some ⟨A, o, none⟩) n k) (.slice (some ⟨B, d + o, none⟩) n k)
  | nilMap : VRen ρ (.map none) (.map none)
  | map (A B d : Nat) (h : ρ A = some (B, d)) : VRen ρ (.map (some A)) (.map (some B))
  | nilFunc : VRen ρ .nilFunc .nilFunc
  | func (fn : Fn) (a b c d : Array Value) (h1 : a.size = b.size) (h2 : ∀ i (h : i < a.size) (h' : i < b.size), VRen ρ a[i] b[i])
      (h3 : c.size = d.size) (h4 : ∀ i (h : i < c.size) (h' : i < d.size), VRen ρ c[i] d[i]) : VRen ρ (.func fn a c) (.func fn b d)
  | iface (t : TypeId) (v v' : Value) (h : VRen ρ v v') : VRen ρ (.iface t v) (.iface t v')
  | nilIface : VRen ρ .nilIface .nilIface
  | agg (a b : Array Value) (h1 : a.size = b.size) (h2 : ∀ i (h : i < a.size) (h' : i < b.size), VRen ρ a[i] b[i]) : VRen ρ (.agg a) (.agg b)
  | tuple (a b : Array Value) (h1 : a.size = b.size) (h2 : ∀ i (h : i < a.size) (h' : i < b.size), VRen ρ a[i] b[i]) : VRen ρ (.tuple a) (.tuple b)

/-- The same place, d cells on. -/
def CA.sh (x : CA) (d : Nat) : CA := ⟨x.block, x.base + d, x.size⟩
theorem CA.sh_zero (x : CA) : x.sh 0 = x := rfl
def gOf (ρ : Nat → Option (Nat × Nat)) (g : Gam) : Gam := fun A => (ρ A).bind fun p => (g p.1).map fun x => x.sh p.2
theorem gOf_some {ρ : Nat → Option (Nat × Nat)} {g : Gam} {A : Nat} {x : CA} (h : gOf ρ g A = some x) : ∃ B d y, ρ A = some (B, d) ∧ g B = some y ∧ x = y.sh d := by
  unfold gOf at h
  cases hB : ρ A with
  | none => rw [hB] at h; cases h
  | some p =>
    obtain ⟨B, d⟩ := p
    rw [hB] at h
    simp only [Option.bind_some] at h
    cases hg : g B with
    | none => rw [hg] at h; cases h
    | some y => rw [hg] at h; simp only [Option.map_some, Option.some.injEq] at h; exact ⟨B, d, y, rfl, hg, h.symm⟩
theorem gOf_of {ρ : Nat → Option (Nat × Nat)} {g : Gam} {A B d : Nat} {x : CA} (h : ρ A = some (B, d)) (hg : g B = some x) : gOf ρ g A = some (x.sh d) := by
  unfold gOf; rw [h]; simp [hg]

theorem VRen.pull {ρ : Nat → Option (Nat × Nat)} {g : Gam} {v v1 v2 : Value} (h : VRen ρ v v1) : VRel g v1 v2 → VRel (gOf ρ g) v v2 := by
  induction h generalizing v2 with
  | bool b => intro k; cases k; exact .bool _
  | int k n => intro k; cases k; exact .int _ _
  | float k b => intro k; cases k; exact .float _ _
  | complex k a b => intro k; cases k; exact .complex _ _ _
  | string s => intro k; cases k; exact .string _
  | nilPtr => intro k; cases k; exact .nilPtr
  | ptr A B d o h =>
    intro k; cases k; rename_i x hx
    have := VRel.ptr (g := gOf ρ g) A o _ (gOf_of h hx)
    simp only [CA.sh] at this
    rwa [Nat.add_assoc] at this
  | nilSlice => intro k; cases k; exact .nilSlice
  | slice A B d o n k h =>
    intro q; cases q; rename_i x o' c hx ho hl h0 hk
    exact .slice A o n k (x.sh d) o' c (gOf_of h hx) (by assumption) (fun hc => by have := ho hc; simp only [CA.sh]; omega) (by assumption) (by simp only [CA.sh]; assumption)
  | nilMap => intro k; cases k; exact .nilMap
  | map A B d h => intro k; cases k; rename_i x hx; exact .map A (x.sh d) (gOf_of h hx)
  | nilFunc => intro k; cases k; exact .nilFunc
  | func fn a b c d h1 h2 h3 h4 ih1 ih2 =>
    intro k
    cases k with
    | func _ _ b' _ d' k1 k2 k3 k4 => exact .func _ _ _ _ _ (h1.trans k1) (fun i p q => ih1 i p (by omega) (k2 i (by omega) q)) (h3.trans k3) (fun i p q => ih2 i p (by omega) (k4 i (by omega) q))
    | yield l l' =>
      obtain rfl : a = #[] := Array.eq_empty_of_size_eq_zero h1
      obtain rfl : c = #[] := Array.eq_empty_of_size_eq_zero h3
      exact .yield _ _
  | iface t v v' _ ih => intro k; cases k; exact .iface _ _ _ (ih (by assumption))
  | nilIface => intro k; cases k; exact .nilIface
  | agg a b h1 h2 ih => intro k; cases k; rename_i b' k1 k2; exact .agg _ _ (h1.trans k1) fun i p q => ih i p (by omega) (k2 i (by omega) q)
  | tuple a b h1 h2 ih => intro k; cases k; rename_i b' k1 k2; exact .tuple _ _ (h1.trans k1) fun i p q => ih i p (by omega) (k2 i (by omega) q)

theorem VRen.push {ρ : Nat → Option (Nat × Nat)} {g0 g : Gam} {v v1 v2 : Value} (hg : ∀ A B d x, ρ A = some (B, d) → g0 A = some x → ∃ y, g B = some y ∧ x = y.sh d) (h : VRen ρ v v1) : VRel g0 v v2 → VRel g v1 v2 := by
  induction h generalizing v2 with
  | bool b => intro k; cases k; exact .bool _
  | int k n => intro k; cases k; exact .int _ _
  | float k b => intro k; cases k; exact .float _ _
  | complex k a b => intro k; cases k; exact .complex _ _ _
  | string s => intro k; cases k; exact .string _
  | nilPtr => intro k; cases k; exact .nilPtr
  | ptr A B d o h =>
    intro k; cases k; rename_i x hx
    obtain ⟨y, hy, rfl⟩ := hg _ _ _ _ h hx
    have := VRel.ptr (g := g) B (d + o) y hy
    simp only [CA.sh]
    rwa [← Nat.add_assoc] at this
  | nilSlice => intro k; cases k; exact .nilSlice
  | slice A B d o n k h =>
    intro q; cases q; rename_i x o' c hx ho hl h0 hk
    obtain ⟨y, hy, rfl⟩ := hg _ _ _ _ h hx
    exact .slice B (d + o) n k y o' c hy (by assumption) (fun hc => by have := ho hc; simp only [CA.sh] at this; omega) (by assumption) hk
  | nilMap => intro k; cases k; exact .nilMap
  | map A B d h =>
    intro k; cases k; rename_i x hx
    obtain ⟨y, hy, rfl⟩ := hg _ _ _ _ h hx
    exact .map B y hy
  | nilFunc => intro k; cases k; exact .nilFunc
  | func fn a b c d h1 h2 h3 h4 ih1 ih2 =>
    intro k
    cases k with
    | func _ _ b' _ d' k1 k2 k3 k4 => exact .func _ _ _ _ _ (h1.symm.trans k1) (fun i p q => ih1 i (by omega) p (k2 i (by omega) q)) (h3.symm.trans k3) (fun i p q => ih2 i (by omega) p (k4 i (by omega) q))
    | yield l l' =>
      obtain rfl : b = #[] := Array.eq_empty_of_size_eq_zero h1.symm
      obtain rfl : d = #[] := Array.eq_empty_of_size_eq_zero h3.symm
      exact .yield _ _
  | iface t v v' _ ih => intro k; cases k; exact .iface _ _ _ (ih (by assumption))
  | nilIface => intro k; cases k; exact .nilIface
  | agg a b h1 h2 ih => intro k; cases k; rename_i b' k1 k2; exact .agg _ _ (h1.symm.trans k1) fun i p q => ih i (by omega) p (k2 i (by omega) q)
  | tuple a b h1 h2 ih => intro k; cases k; rename_i b' k1 k2; exact .tuple _ _ (h1.symm.trans k1) fun i p q => ih i (by omega) p (k2 i (by omega) q)

theorem VRen.flat0 {ρ : Nat → Option (Nat × Nat)} {v : Value} (h : Ev.flat0 v = true) : VRen ρ v v := by
  unfold Ev.flat0 at h
  split at h <;> first
    | (exact .bool _) | (exact .int _ _) | (exact .float _ _) | (exact .complex _ _ _) | (exact .string _) | (exact .nilPtr) | (exact .nilSlice) | (exact .nilMap) | (exact .nilFunc) | (exact .nilIface)
    | (cases h; done)
    | (exact .func _ _ _ _ _ rfl (fun i h => by simp at h) rfl (fun i h => by simp at h))
theorem VRen.flat {ρ : Nat → Option (Nat × Nat)} {v : Value} (h : flatV v = true) : VRen ρ v v := by
  unfold flatV at h
  split at h
  · exact .agg _ _ rfl fun i h1 _ => .flat0 (all_get h i h1)
  · exact .tuple _ _ rfl fun i h1 _ => .flat0 (all_get h i h1)
  · exact .iface _ _ _ (.flat0 h)
  · exact .flat0 h
def ARen (ρ : Nat → Option (Nat × Nat)) (a b : Array Value) : Prop := a.size = b.size ∧ ∀ i (h : i < a.size) (h' : i < b.size), VRen ρ a[i] b[i]
/-- Rows of cells, the one a part of the other, from d on. -/
def CRen (ρ : Nat → Option (Nat × Nat)) (d : Nat) (c c' : List Value) : Prop := d + c.length ≤ c'.length ∧ ∀ i (h : i < c.length) (h' : d + i < c'.length), VRen ρ c[i] c'[d + i]

/-- A block of the small state, and what it stands for. -/
def OView (ρ : Nat → Option (Nat × Nat)) (σs σ : St) (d : Nat) : AObj → AObj → Prop
  | .cells own v F c, .cells own' v' F' c' => (own = true → own' = true) ∧ (σs.rd own v F = true → σ.rd own' v' F' = true ∧ CRen ρ d c c')
  | .iter s p, .iter s' p' => s = s' ∧ p = p' ∧ d = 0
  | .map es n, .map es' n' => n = n' ∧ es.length = es'.length ∧ ∀ i (h : i < es.length) (h' : i < es'.length), VRen ρ es[i].1 es'[i].1 ∧ VRen ρ es[i].2.1 es'[i].2.1 ∧ es[i].2.2 = es'[i].2.2
  | _, _ => False

/-- A small state that is seen in a great one, under the names ρ. -/
structure View (ρ : Nat → Option (Nat × Nat)) (σs σ : St) : Prop where
  wf : σs.Wf
  obj : ∀ A B d o', ρ A = some (B, d) → σ.get B = some o' → ∃ o, σs.get A = some o ∧ OView ρ σs σ d o o'
  share : ∀ A A' B B' d d', ρ A = some (B, d) → ρ A' = some (B', d') → A ≠ A' → (B = B' ∨ ∃ F, σ.fam B = some F ∧ σ.fam B' = some F) → ∃ F', σs.fam A = some F' ∧ σs.fam A' = some F'
  order : ∀ X O BX BO dX dO F v c own c', ρ X = some (BX, dX) → ρ O = some (BO, dO) → X ≠ O → σs.famO F = some O → σs.get X = some (.cells false v F c) → σs.get O = some (.cells own v F c') →
    BX ≠ BO ∧ ∃ F' v' c1 own' c1', σ.famO F' = some BO ∧ σ.get BX = some (.cells false v' F' c1) ∧ σ.get BO = some (.cells own' v' F' c1') ∧ dX + c.length ≤ c1.length ∧ c1'.length ≤ dO + c'.length

theorem View.rel {ρ : Nat → Option (Nat × Nat)} {σs σ : St} (h : View ρ σs σ) {g : Gam} {w : World} (hr : Rel g σ w) : Rel (gOf ρ g) σs w := by
  refine ⟨h.wf, fun A x hA => ?_, fun A x hA => ?_, fun A x A' x' hA hA' hb => ?_, fun X x O y F v c own c' hX hO hb hne hF gX gO => ?_⟩
  · obtain ⟨B, d, y, _, hB, rfl⟩ := gOf_some hA
    exact hr.blk B y hB
  · obtain ⟨B, d, y, hρ, hB, rfl⟩ := gOf_some hA
    obtain ⟨o', ho', hs⟩ := hr.obj B y hB
    obtain ⟨o, ho, hv⟩ := h.obj A B d o' hρ ho'
    refine ⟨o, ho, ?_⟩
    cases o with
    | cells own v F c =>
      cases o' with
      | cells own' v' F' c' =>
        obtain ⟨cs, el, fr, e1, e2, e3, e4⟩ := hs
        refine ⟨cs, el, fr, e1, e2, fun hrd i hi => ?_, fun ho => e4 (hv.1 ho)⟩
        obtain ⟨k1, k2, k3⟩ := hv.2 hrd
        obtain ⟨v2, q1, q2⟩ := e3 k1 (d + i) (by omega)
        exact ⟨v2, by simp only [CA.sh]; rw [Nat.add_assoc]; exact q1, (k3 i hi (by omega)).pull q2⟩
      | iter _ _ => exact hv.elim
      | map _ _ => exact hv.elim
    | iter s p =>
      cases o' with
      | iter s' p' => obtain ⟨rfl, rfl, rfl⟩ := hv; exact hs
      | cells _ _ _ _ => exact hv.elim
      | map _ _ => exact hv.elim
    | map es n =>
      cases o' with
      | map es' n' =>
        obtain ⟨rfl, k1, k2⟩ := hv
        obtain ⟨es2, e1, e2, e3⟩ := hs
        refine ⟨es2, e1, k1.trans e2, fun i p q => ?_⟩
        obtain ⟨a1, a2, a3⟩ := k2 i p (by omega)
        obtain ⟨b1, b2, b3⟩ := e3 i (by omega) q
        exact ⟨a1.pull b1, a2.pull b2, a3.trans b3⟩
      | cells _ _ _ _ => exact hv.elim
      | iter _ _ => exact hv.elim
  · obtain ⟨B, d, y, hρ, hB, rfl⟩ := gOf_some hA
    obtain ⟨B', d', y', hρ', hB', rfl⟩ := gOf_some hA'
    by_cases e : A = A'
    · exact .inl e
    · exact .inr (h.share A A' B B' d d' hρ hρ' e (hr.share B y B' y' hB hB' hb))
  · obtain ⟨B, d, x, hρ, hB, rfl⟩ := gOf_some hX
    obtain ⟨B', d', y, hρ', hB', rfl⟩ := gOf_some hO
    obtain ⟨hneB, F', v', c1, own', c1', q1, q2, q3, q4, q5⟩ := h.order X O B B' d d' F v c own c' hρ hρ' hne hF gX gO
    have := hr.order B x B' y F' v' c1 own' c1' hB hB' hb hneB q1 q2 q3
    simp only [CA.sh]
    omega

/-- A block of the small state behind the call, and what becomes of the great one's. -/
def OGlue (ρ : Nat → Option (Nat × Nat)) (σs σ : St) : AObj → AObj → Prop
  | .cells own v F c, .cells own' v' F' c' => (own' = true → own = true) ∧ (σ.rd own' v' F' = true → σs.rd own v F = true ∧ c'.length ≤ c.length ∧ ∀ i (h : i < c.length) (h' : i < c'.length), VRen ρ c[i] c'[i])
  | .iter s p, .iter s' p' => s = s' ∧ p = p'
  | .map es n, .map es' n' => n = n' ∧ es.length = es'.length ∧ ∀ i (h : i < es.length) (h' : i < es'.length), VRen ρ es[i].1 es'[i].1 ∧ VRen ρ es[i].2.1 es'[i].2.1 ∧ es[i].2.2 = es'[i].2.2
  | _, _ => False

/-- The small states ahead and behind, and the great ones; ρ: names ahead; ρ': behind. -/
structure Frm (gl : List Nat) (args0 args : Array Value) (σs σs' σ σ' : St) (ρ ρ' : Nat → Option (Nat × Nat)) : Prop where
  view : View ρ σs σ
  argsR : ARen ρ args0 args
  glob : ∀ b, gl.contains b = true → ρ b = some (b, 0)
  dom : ∀ A B d, ρ A = some (B, d) → A < σs.next ∧ B < σ.next
  kinds : ∀ A B d, ρ A = some (B, d) → σs.ro A ∨ (d = 0 ∧ ∃ v F c, σs.get A = some (.cells true v F c))
  named : ∀ A B d, ρ A = some (B, d) → ¬ σs.ro A → ∀ g w args', Rel g σ w → ARel g args args' → g B ≠ none
  wf' : σ'.Wf
  old : ∀ A, A < σs.next → ρ' A = ρ A
  new : ∀ A B d, σs.next ≤ A → ρ' A = some (B, d) → σ.next ≤ B ∧ d = 0
  inj' : ∀ A A' B d d', σs.next ≤ A → σs.next ≤ A' → ρ' A = some (B, d) → ρ' A' = some (B, d') → A = A'
  next : σ.next ≤ σ'.next
  still : ∀ B, B < σ.next → (∀ A d, ρ A = some (B, d) → σs.ro A) → σ'.get B = σ.get B
  calm : ∀ B own v F c, B < σ.next → (∀ A d, ρ A = some (B, d) → σs.ro A) → σ.get B = some (.cells own v F c) → σ'.rd own v F = true → σ.rd own v F = true ∧ ∀ A B0 d, ρ A = some (B0, d) → ¬ σs.ro A → σ.fam B0 ≠ some F
  kept : ∀ A B d, ρ A = some (B, d) → ¬ σs.ro A → ∃ own v F c, σs'.get A = some (.cells own v F c)
  post : ∀ A B d o, ρ' A = some (B, d) → ¬ σs.ro A → σs'.get A = some o → ∃ o', σ'.get B = some o' ∧ OGlue ρ' σs' σ' o o'
  famkeep : ∀ A B d, ρ A = some (B, d) → ¬ σs.ro A → σ'.fam B = σ.fam B
  share' : ∀ A A' B B' d d' F, ρ' A = some (B, d) → ρ' A' = some (B', d') → ¬ σs.ro A → ¬ σs.ro A' → σs'.fam A = some F → σs'.fam A' = some F → ∃ F', σ'.fam B = some F' ∧ σ'.fam B' = some F'
  order' : ∀ X O F v c own c', X ≠ O → σ'.famO F = some O → σ'.get X = some (.cells false v F c) → σ'.get O = some (.cells own v F c') →
    (X < σ.next ∧ O < σ.next ∧ σ.famO F = some O ∧ σ.get X = some (.cells false v F c) ∧ σ.get O = some (.cells own v F c')) ∨
    (∃ AX AO Fs vs cs own' cs', ρ' AX = some (X, 0) ∧ ρ' AO = some (O, 0) ∧ ¬ σs.ro AX ∧ ¬ σs.ro AO ∧ σs'.famO Fs = some AO ∧ σs'.get AX = some (.cells false vs Fs cs) ∧ σs'.get AO = some (.cells own' vs Fs cs') ∧ c.length ≤ cs.length ∧ cs'.length ≤ c'.length) ∨
    ((∀ A d, ρ' A = some (X, d) → σs.ro A) ∧ σ.next ≤ X) ∨ ((∀ A d, ρ' A = some (O, d) → σs.ro A) ∧ σ.next ≤ O)
  ro' : ∀ B, σ.ro B → σ'.ro B

theorem ro_not_own {σ : St} {A v F : Nat} {c : List Value} (h : σ.get A = some (.cells true v F c)) : ¬ σ.ro A := by
  rintro ⟨v', F', c', e, _⟩
  rw [h] at e; cases e

open Classical in
/-- The frame rule. -/
theorem SimF.frame {P : Program} {gl : List Nat} {f : FuncId} {args0 args : Array Value} {σs σs' σ σ' : St} {ρ ρ' : Nat → Option (Nat × Nat)} {v0 v : Value} (h : SimF P gl f args0 σs v0 σs') (hf : Frm gl args0 args σs σs' σ σ' ρ ρ') (hv : VRen ρ' v0 v) :
    SimF P gl f args σ v σ' := by
  intro g w args' hg hr ha
  have hr0 := hf.view.rel hr
  have hglob : Glob gl (gOf ρ g) := fun b hb => by
    obtain ⟨n, e⟩ := hg b hb
    exact ⟨n, gOf_of (hf.glob b hb) e⟩
  have ha0 : ARel (gOf ρ g) args0 args' := ⟨hf.argsR.1.trans ha.1, fun i p q => (hf.argsR.2 i p (by have := ha.1; omega)).pull (ha.2 i (by have := ha.1; omega) q)⟩
  refine (h (gOf ρ g) w args' hglob hr0 ha0).mono ?_
  rintro e w' ⟨v', g0', rfl, hv', hr0', hx⟩
  have glt : ∀ B x, g B = some x → B < σ.next := fun B x hB => by
    obtain ⟨o, ho, _⟩ := hr.obj B x hB
    exact hr.wf.lt B o ho
  have g0lt : ∀ A x, gOf ρ g A = some x → A < σs.next := fun A x hA => by
    obtain ⟨B, d, y, hρ, _, _⟩ := gOf_some hA
    exact (hf.dom A B d hρ).1
  have g0old : ∀ A x, g0' A = some x → A < σs.next → gOf ρ g A = some x := fun A x hA hlt => by
    cases h0 : gOf ρ g A with
    | some y => rw [← hx.le A y h0]; exact hA
    | none => have := hx.new A x hA h0; omega
  obtain ⟨g', hg'⟩ : ∃ g' : Gam, g' = fun B => if B < σ.next then g B else if hB : ∃ A, σs.next ≤ A ∧ ρ' A = some (B, 0) then g0' (Classical.choose hB) else none := ⟨_, rfl⟩
  have gold : ∀ B, B < σ.next → g' B = g B := fun B hB => by rw [hg']; simp only; rw [if_pos hB]
  have gnew : ∀ A B, σs.next ≤ A → ρ' A = some (B, 0) → g' B = g0' A := fun A B hA hB => by
    have h1 := (hf.new A B 0 hA hB).1
    have hex : ∃ A, σs.next ≤ A ∧ ρ' A = some (B, 0) := ⟨A, hA, hB⟩
    rw [hg']; simp only
    rw [if_neg (by omega), dif_pos hex, hf.inj' _ _ _ _ _ (Classical.choose_spec hex).1 hA (Classical.choose_spec hex).2 hB]
  have gwhich : ∀ B x, g' B = some x → (B < σ.next ∧ g B = some x) ∨ (σ.next ≤ B ∧ ∃ A, σs.next ≤ A ∧ ρ' A = some (B, 0) ∧ g0' A = some x) := fun B x hB => by
    by_cases hlt : B < σ.next
    · rw [gold B hlt] at hB; exact .inl ⟨hlt, hB⟩
    · rw [hg'] at hB; simp only at hB
      rw [if_neg hlt] at hB
      split at hB
      · rename_i hex
        exact .inr ⟨by omega, Classical.choose hex, (Classical.choose_spec hex).1, (Classical.choose_spec hex).2, hB⟩
      · cases hB
  have gpush : ∀ A B d x, ρ' A = some (B, d) → g0' A = some x → ∃ y, g' B = some y ∧ x = y.sh d := fun A B d x hρ hA => by
    by_cases hlt : A < σs.next
    · have h0 := g0old A x hA hlt
      obtain ⟨B', d', y, hρ', hB', rfl⟩ := gOf_some h0
      rw [hf.old A hlt, hρ'] at hρ
      cases hρ
      exact ⟨y, by rw [gold _ (glt _ _ hB')]; exact hB', rfl⟩
    · have hd := (hf.new A B d (by omega) hρ).2
      subst hd
      exact ⟨x, by rw [gnew A B (by omega) hρ]; exact hA, rfl⟩
  have gle : Gam.le g g' := fun B x hB => by rw [gold B (glt B x hB)]; exact hB
  have roA : ∀ A B d, ρ A = some (B, d) → ¬ σs.ro A → d = 0 ∧ ∃ v F c, σs.get A = some (.cells true v F c) := fun A B d hρ hn => (hf.kinds A B d hρ).resolve_left hn
  have ownB : ∀ A B d x, ρ A = some (B, d) → ¬ σs.ro A → g B = some x → ∃ v F c, σ.get B = some (.cells true v F c) := fun A B d x hρ hn hB => by
    obtain ⟨_, v, F, c, hA⟩ := roA A B d hρ hn
    obtain ⟨o', ho', hs⟩ := hr.obj B x hB
    obtain ⟨o, ho, hview⟩ := hf.view.obj A B d o' hρ ho'
    rw [hA] at ho; cases ho
    cases o' with
    | cells own' v' F' c' => have := hview.1 rfl; subst this; exact ⟨v', F', c', ho'⟩
    | iter _ _ => exact hview.elim
    | map _ _ => exact hview.elim
  have nonro_new : ∀ A, σs.next ≤ A → ¬ σs.ro A := fun A hA ⟨v, F, c, e, _⟩ => by have := hf.view.wf.lt A _ e; omega
  refine ⟨v', g', rfl, hv.push gpush hv', ?_, ?_⟩
  · refine ⟨hf.wf', fun B x hB => ?_, fun B x hB => ?_, fun B x B' x' hB hB' hbl => ?_, fun X x O y F vv c own c' hX hO hb hne hF gX gO => ?_⟩
    · rcases gwhich B x hB with ⟨_, hB⟩ | ⟨_, A, _, _, hA⟩
      · exact Nat.lt_of_lt_of_le (hr.blk B x hB) hx.size
      · exact hr0'.blk A x hA
    · have own_case : ∀ A d, ρ' A = some (B, d) → ¬ σs.ro A → g0' A = some x → ∃ o, σ'.get B = some o ∧ OSays g' σ' w' x o := by
        intro A d hρ hn hA
        obtain ⟨o, ho, hs⟩ := hr0'.obj A x hA
        obtain ⟨o', ho', hgl⟩ := hf.post A B d o hρ hn ho
        refine ⟨o', ho', ?_⟩
        cases o with
        | cells own v F c =>
          cases o' with
          | cells own' v' F' c' =>
            obtain ⟨cs, el, fr, e1, e2, e3, e4⟩ := hs
            refine ⟨cs, el, fr, e1, e2, fun hrd i hi => ?_, fun ho => e4 (hgl.1 ho)⟩
            obtain ⟨k1, k2, k3⟩ := hgl.2 hrd
            obtain ⟨v2, q1, q2⟩ := e3 k1 i (by omega)
            exact ⟨v2, q1, (k3 i (by omega) hi).push gpush q2⟩
          | iter _ _ => exact hgl.elim
          | map _ _ => exact hgl.elim
        | iter s p =>
          cases o' with
          | iter s' p' => obtain ⟨rfl, rfl⟩ := hgl; exact hs
          | cells _ _ _ _ => exact hgl.elim
          | map _ _ => exact hgl.elim
        | map es n =>
          cases o' with
          | map es' n' =>
            obtain ⟨rfl, k1, k2⟩ := hgl
            obtain ⟨es2, e1, e2, e3⟩ := hs
            refine ⟨es2, e1, k1.symm.trans e2, fun i p q => ?_⟩
            obtain ⟨a1, a2, a3⟩ := k2 i (by omega) p
            obtain ⟨b1, b2, b3⟩ := e3 i (by omega) q
            exact ⟨a1.push gpush b1, a2.push gpush b2, a3.symm.trans b3⟩
          | cells _ _ _ _ => exact hgl.elim
          | iter _ _ => exact hgl.elim
      rcases gwhich B x hB with ⟨hlt, hgB⟩ | ⟨_, A, hA1, hA2, hA3⟩
      · by_cases hcls : ∀ A d, ρ A = some (B, d) → σs.ro A
        · obtain ⟨o, ho, hs⟩ := hr.obj B x hgB
          refine ⟨o, (hf.still B hlt hcls).trans ho, ?_⟩
          by_cases htouch : ∃ A B0 d x0, ρ A = some (B0, d) ∧ ¬ σs.ro A ∧ g B0 = some x0 ∧ x0.block = x.block
          · obtain ⟨A, B0, d, x0, q1, q2, q3, q4⟩ := htouch
            have hneB : B0 ≠ B := fun e => q2 (hcls A d (e ▸ q1))
            rcases hr.share B0 x0 B x q3 hgB q4 with e | ⟨F, f1, f2⟩
            · exact (hneB e).elim
            · obtain ⟨v1, F1, c1, hB0⟩ := ownB A B0 d x0 q1 q2 q3
              have : F1 = F := by rw [St.fam_eq hB0] at f1; exact Option.some.inj f1
              subst this
              cases o with
              | iter _ _ => simp [St.fam, ho] at f2
              | map _ _ => simp [St.fam, ho] at f2
              | cells own v F c =>
                have : F = F1 := by rw [St.fam_eq ho] at f2; exact Option.some.inj f2
                subst this
                have hnrd : ¬ (σ'.rd own v F = true) := fun hrd => (hf.calm B own v F c hlt hcls ho hrd).2 A B0 d q1 q2 (St.fam_eq hB0)
                have hown : own = false := by
                  cases own with
                  | false => rfl
                  | true =>
                    rcases hr.wf.owner B v F c ho with a | ⟨_, a⟩
                    · rcases hr.wf.owner B0 v1 F c1 hB0 with b | ⟨b, _⟩
                      · rw [a] at b; exact (hneB (Option.some.inj b).symm).elim
                      · rw [a] at b; cases b
                    · exact (hneB (a B0 _ _ _ hB0)).elim
                subst hown
                obtain ⟨cs, el, fr, e1, e2, _, _⟩ := hs
                have hd0 := (roA A B0 d q1 q2).1
                subst hd0
                have h0 : gOf ρ g A = some (x0.sh 0) := gOf_of q1 q3
                obtain ⟨o2, ho2, hs2⟩ := hr0'.obj A x0 (hx.le A x0 h0)
                obtain ⟨own2, v2, F2, c2, e⟩ := hf.kept A B0 0 q1 q2
                rw [e] at ho2; cases ho2
                obtain ⟨cs2, el2, fr2, k1, k2, _, _⟩ := hs2
                obtain ⟨o3, ho3, hs3⟩ := hr.obj B0 x0 q3
                rw [hB0] at ho3; cases ho3
                obtain ⟨cs3, el3, fr3, k3, k4, _, _⟩ := hs3
                rw [q4] at k1 k3
                rw [e1] at k3; cases k3
                exact ⟨cs2, el2, fr2, k1, by omega, fun hrd => (hnrd hrd).elim, fun ho => by cases ho⟩
          · have hkeep : w'.heap[x.block]? = w.heap[x.block]? := hx.keep x.block (hr.blk B x hgB) fun A x0 hA e => by
              obtain ⟨B0, d, y, hρ, hB0, rfl⟩ := gOf_some hA
              by_cases hn : σs.ro A
              · exact hn
              · exact (htouch ⟨A, B0, d, y, hρ, hn, hB0, e⟩).elim
            refine OSays.mono gle hkeep (fun own ver fam c e hrd => ?_) hs
            subst e
            exact (hf.calm B own ver fam c hlt hcls ho hrd).1
        · obtain ⟨A, hA⟩ := not_forall.1 hcls
          obtain ⟨d, hA⟩ := not_forall.1 hA
          obtain ⟨hρ, hn⟩ := Classical.not_imp.1 hA
          have hd0 := (roA A B d hρ hn).1
          subst hd0
          have hlt2 := (hf.dom A B 0 hρ).1
          exact own_case A 0 (by rw [hf.old A hlt2]; exact hρ) hn (hx.le A (x.sh 0) (gOf_of hρ hgB))
      · exact own_case A 0 hA2 (nonro_new A hA1) hA3
    · have famOld : ∀ B x F, g B = some x → σ.fam B = some F → σ'.fam B = some F := fun B x F hB hF => by
        by_cases hcls : ∀ A d, ρ A = some (B, d) → σs.ro A
        · unfold St.fam at hF ⊢; rw [hf.still B (glt B x hB) hcls]; exact hF
        · obtain ⟨A, hA⟩ := not_forall.1 hcls
          obtain ⟨d, hA⟩ := not_forall.1 hA
          obtain ⟨hρ, hn⟩ := Classical.not_imp.1 hA
          rw [hf.famkeep A B d hρ hn]; exact hF
      have mixed : ∀ B x, g B = some x → ∀ A' B' x', σs.next ≤ A' → ρ' A' = some (B', 0) → g0' A' = some x' → x.block = x'.block → ∃ F, σ'.fam B = some F ∧ σ'.fam B' = some F := by
        intro B x hB A' B' x' hA' hρ' hg0 e
        have hnone : gOf ρ g A' = none := by
          cases h0 : gOf ρ g A' with
          | none => rfl
          | some y => have := g0lt A' y h0; omega
        rcases hx.fresh A' x' hg0 hnone with hfr | ⟨A0, x0, q1, q2, q3⟩
        · have := hr.blk B x hB; omega
        · obtain ⟨B0, d0, y0, hρ0, hB0, rfl⟩ := gOf_some q1
          have hρ0' : ρ' A0 = some (B0, d0) := by rw [hf.old A0 (g0lt A0 _ q1)]; exact hρ0
          rcases hr0'.share A0 _ A' x' (hx.le A0 _ q1) hg0 q2 with e2 | ⟨F, f1, f2⟩
          · have := g0lt A0 _ q1; omega
          · obtain ⟨F', f3, f4⟩ := hf.share' A0 A' B0 B' d0 0 F hρ0' hρ' q3 (nonro_new A' hA') f1 f2
            have q2 : y0.block = x'.block := q2
            rcases hr.share B x B0 y0 hB hB0 (by omega) with e3 | ⟨F2, f5, f6⟩
            · subst e3; exact ⟨F', f3, f4⟩
            · have h5 := famOld B x F2 hB f5
              have h6 := famOld B0 y0 F2 hB0 f6
              rw [f3] at h6; cases h6
              exact ⟨F', h5, f4⟩
      rcases gwhich B x hB with ⟨hlt, hgB⟩ | ⟨_, A, hA1, hA2, hA3⟩
      · rcases gwhich B' x' hB' with ⟨hlt', hgB'⟩ | ⟨_, A', hA1', hA2', hA3'⟩
        · rcases hr.share B x B' x' hgB hgB' hbl with e | ⟨F, f1, f2⟩
          · exact .inl e
          · exact .inr ⟨F, famOld B x F hgB f1, famOld B' x' F hgB' f2⟩
        · exact .inr (mixed B x hgB A' B' x' hA1' hA2' hA3' hbl)
      · rcases gwhich B' x' hB' with ⟨hlt', hgB'⟩ | ⟨_, A', hA1', hA2', hA3'⟩
        · obtain ⟨F, f1, f2⟩ := mixed B' x' hgB' A B x hA1 hA2 hA3 hbl.symm
          exact .inr ⟨F, f2, f1⟩
        · rcases hr0'.share A x A' x' hA3 hA3' hbl with e | ⟨F, f1, f2⟩
          · subst e; rw [hA2] at hA2'; cases hA2'; exact .inl rfl
          · exact .inr (hf.share' A A' B B' 0 0 F hA2 hA2' (nonro_new A hA1) (nonro_new A' hA1') f1 f2)
    · rcases hf.order' X O F vv c own c' hne hF gX gO with ⟨h1, h2, h3, h4, h5⟩ | ⟨AX, AO, Fs, vs, cs, own', cs', q1, q2, q3, q4, q5, q6, q7, q8, q9⟩ | ⟨hcls, hge⟩ | ⟨hcls, hge⟩
      · rw [gold X h1] at hX
        rw [gold O h2] at hO
        exact hr.order X x O y F vv c own c' hX hO hb hne h3 h4 h5
      · have back : ∀ A B x, ρ' A = some (B, 0) → g' B = some x → g0' A = some x := by
          intro A B x hρ hB
          by_cases hlt : A < σs.next
          · rw [hf.old A hlt] at hρ
            have hlt2 := (hf.dom A B 0 hρ).2
            rw [gold B hlt2] at hB
            exact hx.le A (x.sh 0) (gOf_of hρ hB)
          · rw [gnew A B (by omega) hρ] at hB; exact hB
        have hne2 : AX ≠ AO := fun e => by subst e; rw [q1] at q2; cases q2; exact hne rfl
        have := hr0'.order AX x AO y Fs vs cs own' cs' (back _ _ _ q1 hX) (back _ _ _ q2 hO) hb hne2 q5 q6 q7
        omega
      · rcases gwhich X x hX with ⟨hlt, _⟩ | ⟨_, A, hA1, hA2, _⟩
        · omega
        · exact (nonro_new A hA1 (hcls A 0 hA2)).elim
      · rcases gwhich O y hO with ⟨hlt, _⟩ | ⟨_, A, hA1, hA2, _⟩
        · omega
        · exact (nonro_new A hA1 (hcls A 0 hA2)).elim
  · refine ⟨gle, fun B x hB h0 => ?_, fun B x hB h0 => ?_, hx.size, fun b hb hall => ?_, fun B h0 hN => ?_, fun B hro => ?_, hf.next, hx.os, hx.out, hx.tape⟩
    · rcases gwhich B x hB with ⟨_, h1⟩ | ⟨h1, _⟩
      · rw [h0] at h1; cases h1
      · exact h1
    · rcases gwhich B x hB with ⟨_, h1⟩ | ⟨_, A, hA1, hA2, hA3⟩
      · rw [h0] at h1; cases h1
      · have hnone : gOf ρ g A = none := by
          cases h0 : gOf ρ g A with
          | none => rfl
          | some y => have := g0lt A y h0; omega
        rcases hx.fresh A x hA3 hnone with hfr | ⟨A0, x0, q1, q2, q3⟩
        · exact .inl hfr
        · obtain ⟨B0, d0, y0, hρ0, hB0, rfl⟩ := gOf_some q1
          obtain ⟨v1, F1, c1, e⟩ := ownB A0 B0 d0 y0 hρ0 q3 hB0
          exact .inr ⟨B0, y0, hB0, q2, ro_not_own e⟩
    · refine hx.keep b hb fun A x hA e => ?_
      obtain ⟨B0, d0, y0, hρ0, hB0, rfl⟩ := gOf_some hA
      by_cases hn : σs.ro A
      · exact hn
      · obtain ⟨v1, F1, c1, e1⟩ := ownB A B0 d0 y0 hρ0 hn hB0
        exact (ro_not_own e1 (hall B0 y0 hB0 e)).elim
    · have hlt : B < σ.next := Nat.lt_of_not_le hN
      refine hf.still B hlt fun A d hρ => ?_
      by_cases hn : σs.ro A
      · exact hn
      · exact (hf.named A B d hρ hn g w args' hr ha h0).elim
    · obtain ⟨v1, F1, c1, e1, e2⟩ := hro
      have hlt := hr.wf.lt B _ e1
      refine ⟨hf.still B hlt fun A d hρ => ?_, hf.ro' B ⟨v1, F1, c1, e1, e2⟩⟩
      by_cases hn : σs.ro A
      · exact hn
      · obtain ⟨_, v2, F2, c2, h2⟩ := roA A B d hρ hn
        obtain ⟨o, ho, hview⟩ := hf.view.obj A B d _ hρ e1
        rw [h2] at ho; cases ho
        have := hview.1 rfl
        cases this
end Go.Ev
