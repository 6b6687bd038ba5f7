/-
  A quicker evaluator of code, over any program: the other instructions do what their operations do. No condition.
-/
import Derived.Test.YtedojhheppepdaaGreatDoorEv23
namespace Go.Ev
open Go
set_option linter.unusedVariables false
set_option linter.unusedSimpArgs false
section
variable {P : Program} {gl : List Nat} {W : List (Nat × Src)} {K : List Nat} {i n : Nat} {env : XEnv} {L : List XV}

theorem lenK_eq : ∀ (l : List UInt8) (acc : Nat) (k : Nat → R), lenK l acc k = k (acc + l.length)
  | [], acc, k => rfl
  | _ :: l, acc, k => by
    show forceN (Nat.add acc 1) (fun acc => lenK l acc k) = _
    rw [forceN_eq, lenK_eq l]
    congr 1
    simp only [List.length_cons]
    show acc + 1 + l.length = _
    omega
theorem lenS_ok {c : Call} {t : TypeId} {x : Operand} {o : Oper} (ho : o.op = .call c) (hf : c.callee = .builtin .len) (ht : c.argTypes.toList = [t]) (hx0 : c.args.toList = [x]) {str : Bool}
    (hu : match str with | true => P.underlying t = some .string | false => ∃ e, P.underlying t = some (.slice e)) {a : XArg} (ha : resolve W K i x = some a) : InsOk P gl W K i n o (iLen str a) := by
  refine .of fun env L base σ k r e => ?_
  have hx : rhoX W K i env L x = (a.get env L).out := rhoX_eq ha
  unfold iLen at e
  generalize a.get env L = xa at e hx
  split at e
  · rename_i s
    rw [lenK_eq, Nat.zero_add, Array.length_toList] at e
    refine ⟨_, σ, one_run (x := x) (vx := .string s) ?_ hx rfl rfl fun ρ' w h => ?_, e⟩
    · rw [ho]
      have : x ∈ c.args := by rw [← Array.mem_toList_iff, hx0]; simp
      simp only [Op.operands]
      simp [Call.operands, hf, this]
    · have e1 : c.args = #[x] := by rw [← Array.toArray_toList (xs := c.args), hx0]
      have e2 : c.argTypes = #[t] := by rw [← Array.toArray_toList (xs := c.argTypes), ht]
      have hu : P.underlying t = some .string := hu
      simp [execOp, ho, Go.resolve, hf, e1, e2, h, invoke, builtin, Builtin.len_, rU w hu, XV.out, goInt, kindOf]
  · rename_i A l cap
    refine ⟨_, σ, .inl ?_, e⟩
    obtain ⟨e', hu⟩ : ∃ e', P.underlying t = some (.slice e') := hu
    have hx' : rhoX W K i env L x = .slice A l cap := hx
    unfold evalOp
    rw [ho]
    simp only [hf, ht, hx0, hu, hx', opLen, valOf]
    rfl
  · cases e
theorem byteN_eq (s : ByteArray) (j : Nat) (h : j < s.size) : (s.get! j).toNat = byteN s j := by
  obtain ⟨⟨l⟩⟩ := s
  have hl : j < l.length := h
  have e : ∀ (l : List UInt8) (j : Nat) (h : j < l.length), (l[j]).toNat = byteN ⟨⟨l⟩⟩ j := by
    intro l
    induction l with
    | nil => intro j h; simp at h
    | cons b l ih =>
      intro j h
      cases j with
      | zero => rfl
      | succ j => exact ih j (by simpa using h)
  rw [← e l j hl]
  have : (ByteArray.mk ⟨l⟩).get! j = l[j] := by
    show (Array.mk l)[j]! = _
    rw [getElem!_pos (Array.mk l) j (by simpa using hl)]
    rfl
  rw [this]
theorem byteN_get (s : ByteArray) (j : Nat) (h : j < s.size) : (s[j]'h).toNat = byteN s j := by
  rw [← byteN_eq s j h]
  congr 1
  obtain ⟨⟨l⟩⟩ := s
  have hl : j < l.length := h
  show l[j] = (Array.mk l)[j]!
  rw [getElem!_pos (Array.mk l) j (by simpa using hl)]
  rfl
theorem decode_small (s : ByteArray) (j : Nat) (h : j < s.size) (hb : byteN s j < 128) : Utf8.decode s j = (byteN s j, 1) := by
  unfold Utf8.decode
  have : (s.get! (j + 0)).toNat = byteN s j := by rw [Nat.add_zero]; exact byteN_eq s j h
  simp only [this]
  rw [if_pos hb]
theorem next_ok {x : Operand} {o : Oper} (ho : o.op = .next x true) {a : XArg} (ha : resolve W K i x = some a) : InsOk P gl W K i n o (iNext a) := by
  refine .of fun env L base σ k r e => ?_
  have hx : rhoX W K i env L x = (a.get env L).out := rhoX_eq ha
  unfold iNext at e
  generalize a.get env L = xa at e hx
  split at e
  · rename_i A
    have hx' : rhoX W K i env L x = .pointer (some ⟨A, 0, none⟩) := hx
    split at e
    · rename_i s pos hA
      rw [blk_eq] at hA
      have key : ∀ v σ', opNext true (.pointer (some ⟨A, 0, none⟩)) σ = some (.val v σ') → evalOp P (rhoX W K i env L) (base + n) o σ = some (.val v σ') := fun v σ' hv => by
        unfold evalOp; rw [ho]; simp only [hx', hv]
      cases hlt : Nat.blt pos s.size with
      | false =>
        rw [hlt] at e
        simp only [cond_false] at e
        refine ⟨_, σ, .inl (key _ _ ?_), e⟩
        have : ¬ pos < s.size := fun hh => by rw [← Nat.blt_eq, hlt] at hh; cases hh
        simp only [opNext, hA, if_neg this]; rfl
      | true =>
        rw [hlt] at e
        have hlt : pos < s.size := by rw [Nat.blt_eq] at hlt; exact hlt
        simp only [cond_true, forceN_eq] at e
        cases hb : Nat.blt (byteN s pos) 128 with
        | true =>
          rw [hb] at e
          have hb : byteN s pos < 128 := by rw [Nat.blt_eq] at hb; exact hb
          simp only [cond_true, setBlk_eq] at e
          refine ⟨_, _, .inl (key _ _ ?_), e⟩
          simp only [opNext, hA, if_pos hlt, decode_small s pos hlt hb]; rfl
        | false =>
          rw [hb] at e
          simp only [cond_false, setBlk_eq] at e
          refine ⟨_, _, .inl (key _ _ ?_), e⟩
          simp only [opNext, hA, if_pos hlt]; rfl
    · cases e
  · cases e

theorem conv_ok {src dst : TypeId} {kd : IntKind} {x : Operand} {o : Oper} (ho : o.op = .convert src dst x) (hs : isInt P src = true) (hd : P.underlying dst = some (.int kd)) {a : XArg} (ha : resolve W K i x = some a) : InsOk P gl W K i n o (iConv (codeOf kd) a) := by
  refine .of fun env L base σ k r e => ?_
  have hx : rhoX W K i env L x = (a.get env L).out := rhoX_eq ha
  have hs2 : (P.underlying src).isSome = true := by
    unfold isInt at hs; split at hs
    · rename_i h; rw [h]; rfl
    · cases hs
  have key : ∀ (kk : IntKind) (m : Int), (a.get env L).out = .int kk m → StepR P gl (rhoX W K i env L) (base + n) o σ (.int kd (kd.wrap m)) σ := fun kk m he => by
    refine one_run (x := x) (vx := .int kk m) (by rw [ho]; simp [Op.operands]) (hx.trans he) rfl rfl fun ρ' w h => ?_
    have : (convert src dst (.int kk m)).run P w = .ok (.int kd (kd.wrap m)) w := by
      unfold isInt at hs
      split at hs
      · rename_i q hq
        simp [convert, rU w hq, rU w hd, Conv.intToInt]
      · cases hs
    simp only [execOp, ho, h, Sem.run_bind, this, Result.andThen_ok, Sem.run_pure]
  unfold iConv at e
  generalize hxa : a.get env L = xa at e key
  split at e
  · rename_i c m
    have hk := key _ _ rfl
    cases hlt : Nat.blt m (limN (codeOf kd)) with
    | true =>
      rw [hlt] at e
      have hlt : m < limN (codeOf kd) := by rw [Nat.blt_eq] at hlt; exact hlt
      refine ⟨.nat (codeOf kd) m, σ, ?_, e⟩
      have := wrap_small _ _ hlt
      rw [kindOf_codeOf] at this
      rw [this] at hk
      simpa [XV.out, kindOf_codeOf] using hk
    | false =>
      rw [hlt] at e
      simp only [cond_false, retI_eq, kindOf_codeOf] at e
      exact ⟨_, σ, by rw [xvOf_out]; exact hk, e⟩
  · rename_i kk m
    simp only [retI_eq, kindOf_codeOf] at e
    exact ⟨_, σ, by rw [xvOf_out]; exact key _ _ rfl, e⟩
  · cases e
theorem idxS_ok {t : TypeId} {x y : Operand} {o : Oper} (ho : o.op = .index t x y) (ht : P.underlying t = some .string) {a b : XArg} (ha : resolve W K i x = some a) (hb : resolve W K i y = some b) : InsOk P gl W K i n o (iIdxS a b) := by
  refine .of fun env L base σ k r e => ?_
  have hx : rhoX W K i env L x = (a.get env L).out := rhoX_eq ha
  have hy : rhoX W K i env L y = (b.get env L).out := rhoX_eq hb
  unfold iIdxS at e
  generalize a.get env L = xa at e hx
  generalize b.get env L = xb at e hy
  split at e
  · rename_i s c j
    cases hlt : Nat.blt j s.size with
    | false => rw [hlt] at e; cases e
    | true =>
      rw [hlt] at e
      have hlt : j < s.size := by rw [Nat.blt_eq] at hlt; exact hlt
      simp only [cond_true, retN_eq] at e
      refine ⟨_, σ, two_run (x := x) (y := y) (by rw [ho]; simp [Op.operands]) (by rw [ho]; simp [Op.operands]) hx hy rfl rfl rfl fun ρ' w h1 h2 => ?_, e⟩
      simp only [execOp, ho, h1, h2, XV.out]
      simp [Instr.index, rU w ht, asIntOf, kindOf, hlt, byteN_get]
  · cases e
theorem int_self' {g : Gam} {k : IntKind} {n : Int} : VRel g (.int k n) (.int k n) := .int k n
theorem bitsN_eq : ∀ c, bitsN c = (kindOf c).bits
  | 0 | 1 | 2 | 3 | 4 | 5 | 6 | _ + 7 => rfl
theorem limN_pow : ∀ c, ∃ p, limN c = 2 ^ p ∧ p ≤ (kindOf c).bits
  | 0 => ⟨63, rfl, by decide⟩
  | 1 => ⟨8, rfl, by decide⟩
  | 2 => ⟨31, rfl, by decide⟩
  | 3 => ⟨32, rfl, by decide⟩
  | 4 => ⟨64, rfl, by decide⟩
  | 5 => ⟨16, rfl, by decide⟩
  | 6 => ⟨15, rfl, by decide⟩
  | _ + 7 => ⟨7, rfl, by show (7 : Nat) ≤ 8; decide⟩
theorem shf_ok {op : BinOp} {t yt : TypeId} {x y : Operand} {o : Oper} {left : Bool} (ho : o.op = .binOp op t x y yt) (hop : op = if left then .shl else .shr) {a b : XArg} (ha : resolve W K i x = some a) (hb : resolve W K i y = some b) : InsOk P gl W K i n o (iShf left a b) := by
  refine .of fun env L base σ k r e => ?_
  have hx : rhoX W K i env L x = (a.get env L).out := rhoX_eq ha
  have hy : rhoX W K i env L y = (b.get env L).out := rhoX_eq hb
  unfold iShf at e
  generalize a.get env L = xa at e hx
  generalize b.get env L = xb at e hy
  have run : ∀ (kd : IntKind) (m : Int) (kd' : IntKind) (q : Nat) (w : World), q ≤ kd.bits → (binOp op t (.int kd m) (.int kd' (.ofNat q))).run P w = .ok (if left then .int kd (kd.wrap (m * 2 ^ q)) else .int kd (m.fdiv (2 ^ q))) w := by
    intro kd m kd' q w hq
    have h0 : ¬ ((Int.ofNat q : Int) < 0) := by simp
    have h1 : min (Int.ofNat q).toNat kd.bits = q := by simp; omega
    cases left with
    | true =>
      simp only [if_true] at hop
      subst hop
      rw [binOp_shl]
      simp only [Op.shift, if_neg h0, h1, Sem.run_pure, if_true]
    | false =>
      simp only [Bool.false_eq_true, if_false] at hop
      subst hop
      rw [binOp_shr]
      simp only [Op.shift, if_neg h0, h1, Sem.run_pure, Bool.false_eq_true, if_false]
  split at e
  · rename_i c m c' q
    cases hq : Nat.ble q (bitsN c) with
    | false => rw [hq] at e; cases e
    | true =>
      rw [hq] at e
      have hq : q ≤ (kindOf c).bits := by rw [Nat.ble_eq, bitsN_eq] at hq; exact hq
      simp only [cond_true] at e
      cases left with
      | false =>
        simp only at e
        cases hm : Nat.blt m (limN c) with
        | false => rw [hm] at e; cases e
        | true =>
          rw [hm] at e
          simp only [cond_true, retN_eq] at e
          refine ⟨_, σ, bin_run ho hx hy (fun w => ?_) (fun g => int_self'), e⟩
          have := run (kindOf c) (.ofNat m) (kindOf c') q w hq
          rw [this]
          simp only [Bool.false_eq_true, if_false]
          have e1 : (Int.ofNat m).fdiv (2 ^ q) = Int.ofNat (m / 2 ^ q) := by
            rw [show (2 : Int) ^ q = ((2 ^ q : Nat) : Int) by simp]
            exact (Int.ofNat_fdiv m (2 ^ q)).symm
          rw [e1]; rfl
      | true =>
        simp only at e
        have hmul : (Int.ofNat m * 2 ^ q : Int) = Int.ofNat (m * 2 ^ q) := by simp
        have hrun := fun w => run (kindOf c) (.ofNat m) (kindOf c') q w hq
        simp only [if_true, hmul] at hrun
        cases hm : Nat.blt (Nat.mul m (Nat.pow 2 q)) (limN c) with
        | true =>
          rw [hm] at e
          simp only [cond_true, retN_eq] at e
          refine ⟨_, σ, bin_run ho hx hy (fun w => ?_) (fun g => int_self'), e⟩
          rw [hrun w]
          have := wrap_small c (m * 2 ^ q) (by rw [Nat.blt_eq] at hm; exact hm)
          rw [this]; rfl
        | false =>
          rw [hm] at e
          simp only [cond_false, retI_eq] at e
          refine ⟨_, σ, ?_, e⟩
          rw [xvOf_out]
          exact bin_run ho hx hy (fun w => hrun w) (fun g => int_self')
  · rename_i kd m c' q
    cases hq : Nat.ble q kd.bits with
    | false => rw [hq] at e; cases e
    | true =>
      rw [hq] at e
      have hq : q ≤ kd.bits := by rw [Nat.ble_eq] at hq; exact hq
      simp only [cond_true] at e
      have hrun := fun w => run kd m (kindOf c') q w hq
      cases left with
      | false =>
        simp only [retI_eq] at e
        refine ⟨_, σ, ?_, e⟩
        rw [xvOf_out]
        exact bin_run ho hx hy (fun w => hrun w) (fun g => int_self')
      | true =>
        simp only [retI_eq] at e
        refine ⟨_, σ, ?_, e⟩
        rw [xvOf_out]
        exact bin_run ho hx hy (fun w => hrun w) (fun g => int_self')
  · cases e
theorem bits_run {c m q : Nat} (hm : m < limN c) (hq : q < limN c) {op : BinOp} {t : TypeId} {z : Nat} (hz : (op = .and ∧ z = m &&& q) ∨ (op = .or ∧ z = m ||| q) ∨ (op = .xor ∧ z = m ^^^ q)) (w : World) :
    (binOp op t (.int (kindOf c) (.ofNat m)) (.int (kindOf c) (.ofNat q))).run P w = .ok (.int (kindOf c) (.ofNat z)) w := by
  obtain ⟨p, hp, hpb⟩ := limN_pow c
  rw [hp] at hm hq
  have hle : 2 ^ p ≤ 2 ^ (kindOf c).bits := Nat.pow_le_pow_right (by decide) hpb
  have t1 : (BitVec.ofInt (kindOf c).bits (Int.ofNat m)).toNat = m := by
    rw [show (Int.ofNat m) = ((m : Nat) : Int) from rfl, BitVec.ofInt_natCast, BitVec.toNat_ofNat]
    exact Nat.mod_eq_of_lt (by omega)
  have t2 : (BitVec.ofInt (kindOf c).bits (Int.ofNat q)).toNat = q := by
    rw [show (Int.ofNat q) = ((q : Nat) : Int) from rfl, BitVec.ofInt_natCast, BitVec.toNat_ofNat]
    exact Nat.mod_eq_of_lt (by omega)
  have fin : ∀ z, z < 2 ^ p → (kindOf c).wrap ((z : Nat) : Int) = .ofNat z := fun z hz => wrap_small c z (by rw [hp]; exact hz)
  rcases hz with ⟨rfl, rfl⟩ | ⟨rfl, rfl⟩ | ⟨rfl, rfl⟩
  · rw [binOp_and]
    simp only [Op.intBits, Sem.run_pure, BitVec.toNat_and, t1, t2]
    rw [fin _ (Nat.and_lt_two_pow m hq)]
  · rw [binOp_or]
    simp only [Op.intBits, Sem.run_pure, BitVec.toNat_or, t1, t2]
    rw [fin _ (Nat.or_lt_two_pow hm hq)]
  · rw [binOp_xor]
    simp only [Op.intBits, Sem.run_pure, BitVec.toNat_xor, t1, t2]
    rw [fin _ (Nat.xor_lt_two_pow hm hq)]
theorem bits_ok {op : BinOp} {t yt : TypeId} {x y : Operand} {o : Oper} (ho : o.op = .binOp op t x y yt) {a b : XArg} (ha : resolve W K i x = some a) (hb : resolve W K i y = some b) : InsOk P gl W K i n o (iBits op a b) := by
  refine .of fun env L base σ k r e => ?_
  have hx : rhoX W K i env L x = (a.get env L).out := rhoX_eq ha
  have hy : rhoX W K i env L y = (b.get env L).out := rhoX_eq hb
  unfold iBits at e
  generalize a.get env L = xa at e hx
  generalize b.get env L = xb at e hy
  split at e
  · rename_i c m c' q
    cases hc : (Nat.beq c c' && Nat.blt m (limN c) && Nat.blt q (limN c)) with
    | false => rw [hc] at e; cases e
    | true =>
      rw [hc] at e
      simp only [Bool.and_eq_true, Nat.beq_eq, Nat.blt_eq] at hc
      obtain ⟨⟨rfl, hm⟩, hq⟩ := hc
      simp only [cond_true] at e
      split at e
      · rw [retN_eq] at e
        exact ⟨_, σ, bin_run ho hx hy (bits_run hm hq (.inl ⟨rfl, rfl⟩)) (fun g => int_self'), e⟩
      · rw [retN_eq] at e
        exact ⟨_, σ, bin_run ho hx hy (bits_run hm hq (.inr (.inl ⟨rfl, rfl⟩))) (fun g => int_self'), e⟩
      · rw [retN_eq] at e
        exact ⟨_, σ, bin_run ho hx hy (bits_run hm hq (.inr (.inr ⟨rfl, rfl⟩))) (fun g => int_self'), e⟩
      · cases e
  · cases e

theorem cut_eq (s : ByteArray) (l h : Nat) : cut s l h = s.extract l h := by
  apply ByteArray.ext
  simp only [cut, ByteArray.data_extract]
  apply Array.ext'
  simp
theorem bound_spec {d : Nat} {x : Option Operand} {ax : Option XArg} (hr : resolveO W K i x = some ax) {k : Nat → R} {r : R} (h : bound d ax env L k = r) (hr0 : r ≠ none) :
    ∃ q, k q = r ∧ ((x = none ∧ q = d) ∨ ∃ y c, x = some y ∧ rhoX W K i env L y = .int (kindOf c) (.ofNat q)) := by
  unfold resolveO at hr
  cases x with
  | none =>
    cases hr
    exact ⟨d, h, .inl ⟨rfl, rfl⟩⟩
  | some y =>
    simp only at hr
    cases ha : Ev.resolve W K i y with
    | none => rw [ha] at hr; cases hr
    | some a =>
      rw [ha] at hr
      cases hr
      have hy : rhoX W K i env L y = (a.get env L).out := rhoX_eq ha
      unfold bound at h
      simp only at h
      generalize a.get env L = xa at h hy
      split at h
      · rename_i c q
        exact ⟨q, h, .inr ⟨y, c, rfl, hy⟩⟩
      · exact (hr0 h.symm).elim
theorem subS_ok {t : TypeId} {x : Operand} {lo hi : Option Operand} {o : Oper} (ho : o.op = .slice t x lo hi none) (ht : P.underlying t = some .string) {a : XArg} {al ah : Option XArg} (ha : resolve W K i x = some a) (hl : resolveO W K i lo = some al) (hh : resolveO W K i hi = some ah) :
    InsOk P gl W K i n o (iSubS a al ah) := by
  refine .of fun env L base σ k r e => ?_
  have hx : rhoX W K i env L x = (a.get env L).out := rhoX_eq ha
  unfold iSubS at e
  generalize a.get env L = xa at e hx
  split at e
  · rename_i s
    obtain ⟨l, e, hl⟩ := bound_spec hl e (by simp)
    obtain ⟨h, e, hh⟩ := bound_spec hh e (by simp)
    cases hc : (Nat.ble l h && Nat.ble h s.size) with
    | false => rw [hc] at e; cases e
    | true =>
      rw [hc] at e
      simp only [Bool.and_eq_true, Nat.ble_eq] at hc
      simp only [cond_true] at e
      refine ⟨_, σ, .inr (.inr (.inl ⟨rfl, fun g ρ' w hρ => ⟨.string (cut s l h), ?_, .string _⟩⟩)), e⟩
      rw [ho] at hρ
      have hxs : ρ' x = .string s := by
        have := hρ x (by simp [Op.operands])
        rw [hx] at this
        exact flatV_eq rfl this
      have hlo : ∀ y c, lo = some y → rhoX W K i env L y = .int (kindOf c) (.ofNat l) → ρ' y = .int (kindOf c) (.ofNat l) := fun y c e1 e2 => by
        have := hρ y (by simp [Op.operands, e1])
        rw [e2] at this
        exact flatV_eq rfl this
      have hhi : ∀ y c, hi = some y → rhoX W K i env L y = .int (kindOf c) (.ofNat h) → ρ' y = .int (kindOf c) (.ofNat h) := fun y c e1 e2 => by
        have := hρ y (by simp [Op.operands, e1])
        rw [e2] at this
        exact flatV_eq rfl this
      rw [cut_eq]
      simp only [execOp, ho, hxs, XV.out]
      rcases hl with ⟨rfl, rfl⟩ | ⟨y, c, rfl, hy⟩ <;> rcases hh with ⟨rfl, rfl⟩ | ⟨y', c', rfl, hy'⟩
      · simp [Instr.sliceAt, Instr.slice, rU w ht, Instr.sliceBounds, sliced]
      · rw [Option.map_some, hhi y' c' rfl hy']
        simp [Instr.sliceAt, Instr.slice, rU w ht, Instr.sliceBounds, sliced, sliceBound_ok w hc.2]
      · rw [Option.map_some, hlo y c rfl hy]
        simp [Instr.sliceAt, Instr.slice, rU w ht, Instr.sliceBounds, sliced, sliceBound_ok w hc.1]
      · rw [Option.map_some, Option.map_some, hlo y c rfl hy, hhi y' c' rfl hy']
        simp [Instr.sliceAt, Instr.slice, rU w ht, Instr.sliceBounds, sliced, sliceBound_ok w hc.1, sliceBound_ok w hc.2]
  · cases e
theorem app_ok {c : Call} {sT xT e : TypeId} {s x : Operand} {o : Oper} {ti : TypeInfo} {z : Array Value} (ho : o.op = .call c) (hf : c.callee = .builtin .append) (h1 : c.argTypes.toList = [sT, xT]) (h2 : c.args.toList = [s, x])
    (hu : P.underlying sT = some (.slice e)) (hi : P.info? e = some ti) (hz : zcells? P e ti.size = some z) {a b : XArg} (ha : resolve W K i s = some a) (hb : resolve W K i x = some b) : InsOk P gl W K i n o (iApp P xT ti z n a b) := by
  refine .of fun env L base σ k r h => ?_
  have hx : rhoX W K i env L s = (a.get env L).out := rhoX_eq ha
  have hy : rhoX W K i env L x = (b.get env L).out := rhoX_eq hb
  have hcl : clsOf P o.op = .loud := by rw [ho]; unfold clsOf; simp only [hf]
  have hev : ∀ σ, evalOp P (rhoX W K i env L) (base + n) o σ = opAppend P sT xT (base + n) (a.get env L).out (b.get env L).out σ := by
    intro σ
    unfold evalOp
    rw [ho]
    simp only [hf, h1, h2, hx, hy]
  unfold iApp at h
  generalize a.get env L = xa at h hev
  generalize (b.get env L).out = yb at h hev
  split at h
  · rename_i m nc hsrc
    rw [forceN_eq] at h
    split at h
    · rename_i bs len kk
      have hev : ∀ σ2, evalOp P (rhoX W K i env L) (base + n) o σ2 = opAppend P sT xT (base + n) (.slice bs len kk) yb σ2 := hev
      cases hm : Nat.beq m 0 with
      | true =>
        rw [hm] at h
        have hm : m = 0 := by rw [Nat.beq_eq] at hm; exact hm
        subst hm
        refine ⟨.oth (.slice bs len kk), σ, .inl ?_, h⟩
        rw [hev]
        unfold opAppend
        simp only [hu, hi, hz, hsrc]
        rfl
      | false =>
        rw [hm] at h
        have hm : m ≠ 0 := fun e => by subst e; cases hm
        cases hbd : (Nat.ble (Nat.add len m) 9223372036854775807 && Nat.ble (Nat.mul (Nat.add (Nat.mul 2 (Nat.add len m)) 1000) ti.bytes) 281474976710656) with
        | false => rw [hbd] at h; cases h
        | true =>
          rw [hbd] at h
          simp only [Bool.and_eq_true, Nat.ble_eq] at hbd
          have hbd : len + m ≤ 9223372036854775807 ∧ (2 * (len + m) + 1000) * ti.bytes ≤ 281474976710656 := hbd
          simp only [cond_true, cond_false, forceN_eq] at h
          cases kk with
          | zero =>
            dsimp only at h
            cases hl : Nat.beq len 0 with
            | false => rw [hl] at h; cases h
            | true =>
              rw [hl] at h
              have hl : len = 0 := by rw [Nat.beq_eq] at hl; exact hl
              simp only [cond_true, forceL_eq, setBlk_eq, forceN_eq] at h
              refine ⟨.oth (sliceTo (base + n) m ti.size), σ.set (base + n) (.cells true 0 (base + n) nc), .inl ?_, h⟩
              rw [hev]
              unfold opAppend
              simp only [hu, hi, hz, hsrc, if_neg hm, if_pos hbd, if_pos hl]
              rfl
          | succ k' =>
            dsimp only at h
            rcases bs with _ | ⟨A, o', _ | ix⟩
            · cases h
            · dsimp only at h
              cases hk : (Nat.beq k' ti.size && nc.all (·.oneCell')) with
              | false => rw [hk] at h; cases h
              | true =>
                rw [hk] at h
                simp only [Bool.and_eq_true, Nat.beq_eq] at hk
                simp only [cond_true] at h
                split at h
                · rename_i ver F c hA
                  rw [blk_eq] at hA
                  rw [hintK_N] at h
                  obtain ⟨Lc, hLc⟩ : ∃ Lc, Lc = hintN A σ c := ⟨_, rfl⟩
                  rw [← hLc] at h
                  have hw : σ.Wf → Lc = c.length := fun hw => by rw [hLc, hintN_eq hA hw]
                  have hmain : ∀ σ', (o' + len * ti.size ≤ c.length → σ.Wf → appSt σ A (base + n) ver F c o' (o' + len * ti.size) nc = σ') → (σ.Wf → o' + len * ti.size ≤ c.length) →
                      StepR P gl (rhoX W K i env L) (base + n) o σ (.slice (some ⟨base + n, 0, none⟩) (len + m) (k' + 1)) σ' := by
                    intro σ' he hle
                    refine .inr (.inr (.inr ⟨hcl, fun hwf => ?_⟩))
                    rw [hev]
                    unfold opAppend
                    simp only [hu, hi, hz, hsrc, if_neg hm, if_pos hbd, if_pos hk, hA, if_pos (hle hwf)]
                    rw [he (hle hwf) hwf, hk.1]
                    rfl
                  cases ht : (Nat.beq o' 0 && Nat.beq (Nat.add o' (Nat.mul len ti.size)) Lc) with
                  | true =>
                    rw [ht] at h
                    simp only [Bool.and_eq_true, Nat.beq_eq] at ht
                    have ht : o' = 0 ∧ o' + len * ti.size = Lc := ht
                    simp only [cond_true, appK_eq] at h
                    refine ⟨.oth (.slice (some ⟨base + n, 0, none⟩) (len + m) (k' + 1)), _, hmain _ (fun _ hwf => ?_) (fun hwf => by rw [ht.2, hw hwf]; exact Nat.le_refl _), h⟩
                    have e1 : o' + len * ti.size = c.length := by rw [ht.2, hw hwf]
                    rw [e1, hw hwf, ht.1]
                    exact appK_app.symm
                  | false =>
                    rw [ht] at h
                    simp only [cond_false] at h
                    cases hq : Nat.ble (Nat.add o' (Nat.mul len ti.size)) Lc with
                    | false => rw [hq] at h; cases h
                    | true =>
                      rw [hq] at h
                      have hq : o' + len * ti.size ≤ Lc := by rw [Nat.ble_eq] at hq; exact hq
                      exact ⟨.oth (.slice (some ⟨base + n, 0, none⟩) (len + m) (k' + 1)), _, hmain _ (fun _ _ => rfl) (fun hwf => by rw [← hw hwf]; exact hq), h⟩
                · cases h
            · cases h
    · cases h
  · cases h
theorem mk_ok {t e : TypeId} {x y : Operand} {o : Oper} {ti : TypeInfo} {z : Array Value} (ho : o.op = .makeSlice t x y) (hu : P.underlying t = some (.slice e)) (hi : P.info? e = some ti) (hz : zcells? P e ti.size = some z)
    {a b : XArg} (ha : resolve W K i x = some a) (hb : resolve W K i y = some b) : InsOk P gl W K i n o (iMake ti z n a b) := by
  refine .of fun env L base σ k r h => ?_
  have hx : rhoX W K i env L x = (a.get env L).out := rhoX_eq ha
  have hy : rhoX W K i env L y = (b.get env L).out := rhoX_eq hb
  unfold iMake at h
  generalize a.get env L = xa at h hx
  generalize b.get env L = xb at h hy
  split at h
  · rename_i c1 p c2 m
    cases hc : (Nat.ble p m && Nat.ble m 9223372036854775807 && Nat.ble (Nat.mul ti.bytes m) 281474976710656) with
    | false => rw [hc] at h; cases h
    | true =>
      rw [hc] at h
      simp only [cond_true, forceN_eq, forceL_eq, setBlk_eq] at h
      refine ⟨.oth (sliceTo (base + n) p ti.size), _, .inl ?_, h⟩
      have hx' : rhoX W K i env L x = .int (kindOf c1) (.ofNat p) := hx
      have hy' : rhoX W K i env L y = .int (kindOf c2) (.ofNat m) := hy
      have hc2 : (decide (p ≤ m) && decide (m ≤ 9223372036854775807) && decide (ti.bytes * m ≤ 281474976710656)) = true := by
        simp only [Bool.and_eq_true, Nat.ble_eq, decide_eq_true_eq] at hc ⊢; exact hc
      unfold evalOp
      rw [ho]
      simp only [hx', hy', opMakeSlice, hu, hi, hc2, if_true]
      by_cases h0 : m * ti.size = 0
      · simp only [if_pos h0, opNew]
        have e1 : Nat.mul m ti.size = 0 := h0
        rw [e1]
        have : (zrow #[] (m * ti.size)).toList = [] := by rw [h0]; simp [zrow]
        rw [this]
        rfl
      · simp only [if_neg h0, hz, opNew]
        have hsz : z.size ≠ 0 := by
          obtain ⟨v, _, _, q, _⟩ := zcells?_spec hz
          rw [q]; intro e; rw [e] at h0; simp at h0
        rw [← cycR_zrow z _ hsz]
        rfl
  · cases h
end
end Go.Ev
