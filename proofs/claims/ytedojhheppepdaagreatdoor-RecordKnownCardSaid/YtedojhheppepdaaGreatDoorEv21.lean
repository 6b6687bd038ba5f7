/-
  A quicker evaluator of code, over any program: code made ready (operands found, slots as paths), and run with what comes next at hand. The definitions. No condition.
-/
import Derived.Test.YtedojhheppepdaaGreatDoorEv20
namespace Go.Ev
open Go
set_option linter.unusedVariables false
set_option linter.unusedSimpArgs false

noncomputable section
/-! ## Values at hand -/
def kindOf : Nat → IntKind
  | 0 => .i64 | 1 => .u8 | 2 => .i32 | 3 => .u32 | 4 => .u64 | 5 => .u16 | 6 => .i16 | _ => .i8
def codeOf : IntKind → Nat
  | .i64 => 0 | .u8 => 1 | .i32 => 2 | .u32 => 3 | .u64 => 4 | .u16 => 5 | .i16 => 6 | .i8 => 7
theorem kindOf_codeOf (k : IntKind) : kindOf (codeOf k) = k := by cases k <;> rfl
/-- Above all a kind's numbers that are not negative. -/
def limN (c : Nat) : Nat := Nat.casesOn c 9223372036854775808 (fun c => Nat.casesOn c 256 (fun c => Nat.casesOn c 2147483648 (fun c => Nat.casesOn c 4294967296 (fun c => Nat.casesOn c 18446744073709551616 (fun c => Nat.casesOn c 65536 (fun c => Nat.casesOn c 32768 (fun _ => 128)))))))
/-- A number that is not negative · a bool · what a text's iterator tells · another value. -/
inductive XV where
  | nat (k n : Nat)
  | bool (b : Bool)
  | nxt (pos c : Nat)
  | oth (v : Value)
def XV.out : XV → Value
  | .nat k n => .int (kindOf k) (.ofNat n)
  | .bool b => .bool b
  | .nxt pos c => .tuple #[.bool true, .int .i64 (.ofNat pos), .int .i32 (.ofNat c)]
  | .oth v => v
abbrev XEnv := Tr XV

/-! ## Code made ready -/
inductive XArg where
  | loc (i : Nat)
  | var (p : List Bool)
  | val (v : XV)
inductive XIns where
  | mov (a : XArg)
  | bin (op : BinOp) (a b : XArg)
  | notB (a : XArg)
  | ext (i : Nat) (a : XArg)
  | lenS (str : Bool) (a : XArg)
  | pick (c a b : XArg)
  | next (a : XArg)
  | conv (k : Nat) (a : XArg)
  | idxS (a b : XArg)
  | shf (left : Bool) (a b : XArg)
  | bits (op : BinOp) (a b : XArg)
  | subS (a : XArg) (lo hi : Option XArg)
  | nilC (a : XArg)
  | load1 (a : XArg)
  | loadN (n : Nat) (a : XArg)
  | store (n : Nat) (a v : XArg)
  | faddr (off : Nat) (a : XArg)
  | iaddr (n : Nat) (len : Option Nat) (a i : XArg)
  | callF (f : FuncId) (args : List XArg)
  | app (xT : TypeId) (i : TypeInfo) (z : Array Value) (n : Nat) (s x : XArg)
  | mk (i : TypeInfo) (z : Array Value) (n : Nat) (l c : XArg)
  | gen (o : Oper) (m : List (Nat × XArg)) (i : Nat)
inductive XI where
  | plain (i : XIns)
  | put (p : List Bool) (i : XIns)
  | guarded (g : XArg) (want : Bool) (p : Option (List Bool)) (i : XIns)
/-- An operation of a row that draws its order: plain · makes a block · any other. -/
inductive DI where
  | ins (i : XIns)
  | al (o : Oper) (m : List (Nat × XArg)) (i : Nat)
  | gen (o : Oper) (m : List (Nat × XArg)) (i : Nat)
structure DQ where
  loud : Bool
  guard : Option (XArg × Bool)
  p : Option (List Bool)
  di : DI
inductive XCode where
  | skip
  | ret
  | exit (id : Nat)
  | ops (l : List XI) (n : Nat)
  | draw (ops : Array Oper) (keep : List Nat)
  | drawq (l : List DQ) (n : Nat)
  | seq (a b : XCode)
  | cond (c : XArg) (a b : XCode)
  | block (id : Nat) (c : XCode)
  | loop (c : XCode)
structure XFn where
  code : XCode
  params : List (Option (List Bool))
  res : List (ResultVar × List Bool)

abbrev R := Option (Value × St)
abbrev KF := FuncId → List XV → St → (XV → St → R) → R

/-! ## Laying bare -/
def forceN (n : Nat) (k : Nat → R) : R := Nat.casesOn n (k 0) (fun m => k (Nat.succ m))
theorem forceN_eq (n : Nat) (k : Nat → R) : forceN n k = k n := by cases n <;> rfl
def forceX (v : XV) (k : XV → R) : R := XV.casesOn v (fun c n => k (.nat c n)) (fun b => k (.bool b)) (fun p c => k (.nxt p c)) (fun v => k (.oth v))
theorem forceX_eq (v : XV) (k : XV → R) : forceX v k = k v := by cases v <;> rfl
def forceB (b : Bool) (k : XV → R) : R := Bool.casesOn b (k (.bool false)) (k (.bool true))
theorem forceB_eq (b : Bool) (k : XV → R) : forceB b k = k (.bool b) := by cases b <;> rfl
def retN (c n : Nat) (k : XV → R) : R := Nat.casesOn n (k (.nat c 0)) (fun m => k (.nat c (Nat.succ m)))
theorem retN_eq (c n : Nat) (k : XV → R) : retN c n k = k (.nat c n) := by cases n <;> rfl
def retI (kd : IntKind) (n : Int) (k : XV → R) : R := Int.casesOn n (fun n => retN (codeOf kd) n k) (fun n => forceN n fun n => k (.oth (.int kd (.negSucc n))))
/-- A value, taken at hand. -/
def take (v : Value) (k : XV → R) : R := match v with
  | .int kd n => retI kd n k
  | .bool b => forceB b k
  | .pointer a => k (.oth (.pointer a))
  | .slice a n c => forceN n fun n => k (.oth (.slice a n c))
  | .string s => k (.oth (.string s))
  | v => k (.oth v)

/-! ## Trees, by their recursors -/
def getR {α : Type} (p : List Bool) : Tr α → Option α :=
  List.rec (motive := fun _ => Tr α → Option α) (fun t => Tr.casesOn t none (fun v _ _ => v)) (fun b _ ih t => Tr.casesOn t none (fun _ l r => Bool.casesOn b (ih r) (ih l))) p
def setK {α : Type} (p : List Bool) : α → Tr α → (Tr α → R) → R :=
  List.rec (motive := fun _ => α → Tr α → (Tr α → R) → R)
    (fun x t k => Tr.casesOn t (k (.node (some x) .nil .nil)) (fun _ l r => k (.node (some x) l r)))
    (fun b _ ih x t k => Tr.casesOn t (Bool.casesOn b (ih x .nil fun r => k (.node none .nil r)) (ih x .nil fun l => k (.node none l .nil)))
      (fun v l r => Bool.casesOn b (ih x r fun r => k (.node v l r)) (ih x l fun l => k (.node v l r)))) p
/-- The same, by a number. -/
def getN {α : Type} (n : Nat) (t : Tr α) : Option α :=
  Nat.rec (motive := fun _ => Nat → Tr α → Option α) (fun _ t => Tr.casesOn t none (fun v _ _ => v))
    (fun _ ih n t => Nat.casesOn n (Tr.casesOn t none (fun v _ _ => v)) (fun m => Tr.casesOn t none (fun _ l r => Bool.casesOn (Nat.beq (Nat.mod m 2) 1) (ih (Nat.div m 2) r) (ih (Nat.div m 2) l)))) n n t
def setN {α : Type} (n : Nat) : α → Tr α → (Tr α → R) → R :=
  Nat.rec (motive := fun _ => Nat → α → Tr α → (Tr α → R) → R) (fun _ x t k => Tr.casesOn t (k (.node (some x) .nil .nil)) (fun _ l r => k (.node (some x) l r)))
    (fun _ ih n x t k => Nat.casesOn n (Tr.casesOn t (k (.node (some x) .nil .nil)) (fun _ l r => k (.node (some x) l r)))
      (fun m => Tr.casesOn t (Bool.casesOn (Nat.beq (Nat.mod m 2) 1) (ih (Nat.div m 2) x .nil fun r => k (.node none .nil r)) (ih (Nat.div m 2) x .nil fun l => k (.node none l .nil)))
        (fun v l r => Bool.casesOn (Nat.beq (Nat.mod m 2) 1) (ih (Nat.div m 2) x r fun r => k (.node v l r)) (ih (Nat.div m 2) x l fun l => k (.node v l r))))) n n

def nth (L : List XV) : Nat → XV :=
  List.rec (motive := fun _ => Nat → XV) (fun _ => .oth undef) (fun v _ ih i => Nat.casesOn i v ih) L
def orUndef (o : Option XV) : XV := Option.casesOn o (.oth undef) (fun v => v)
def XArg.get (a : XArg) (env : XEnv) (L : List XV) : XV := XArg.casesOn a (fun i => nth L i) (fun p => orUndef (getR p env)) (fun v => v)

/-! ## Numbers -/
def binI (op : BinOp) (k : IntKind) (a b : Int) (c : XV → R) : R := match op with
  | .add => retI k (k.wrap (a + b)) c
  | .sub => retI k (k.wrap (a - b)) c
  | .mul => retI k (k.wrap (a * b)) c
  | .eql => forceB (decide (a = b)) c
  | .neq => forceB (!decide (a = b)) c
  | .lss => forceB (decide (a < b)) c
  | .leq => forceB (decide (a ≤ b)) c
  | .gtr => forceB (decide (a > b)) c
  | .geq => forceB (decide (a ≥ b)) c
  | _ => none
def binV (op : BinOp) (a b : Value) (c : XV → R) : R := match a, b with
  | .int k m, .int k' n => if k = k' then binI op k m n c else none
  | _, _ => none
/-- Two numbers that are not negative; 'slow': where the answer is none, or too large. -/
def binN (op : BinOp) (k m n : Nat) (slow : R) (c : XV → R) : R := match op with
  | .add => cond (Nat.blt (Nat.add m n) (limN k)) (retN k (Nat.add m n) c) slow
  | .sub => cond (Nat.ble n m) (cond (Nat.blt m (limN k)) (retN k (Nat.sub m n) c) slow) slow
  | .mul => cond (Nat.blt (Nat.mul m n) (limN k)) (retN k (Nat.mul m n) c) slow
  | .eql => forceB (Nat.beq m n) c
  | .neq => forceB (Bool.casesOn (Nat.beq m n) true false) c
  | .lss => forceB (Nat.blt m n) c
  | .leq => forceB (Nat.ble m n) c
  | .gtr => forceB (Nat.blt n m) c
  | .geq => forceB (Nat.ble n m) c
  | _ => slow

/-! ## Instructions -/
def rgen (m : List (Nat × XArg)) (env : XEnv) (L : List XV) : Operand → Value
  | .tmp t => List.rec (motive := fun _ => Value) undef (fun x _ ih => cond (Nat.beq x.1 t) (x.2.get env L).out ih) m
  | .const v => v
  | .global g => .pointer (some ⟨g, 0, none⟩)
  | .func f => .func (.func f) #[] #[]
def argsK (l : List XArg) (env : XEnv) (L : List XV) : (List XV → R) → R :=
  List.rec (motive := fun _ => (List XV → R) → R) (fun k => k []) (fun a _ ih k => forceX (a.get env L) fun v => ih fun vs => k (v :: vs)) l

abbrev SK := XEnv → List XV → Nat → St → (XV → St → R) → R
def iMov (a : XArg) : SK := fun env L _ σ k => forceX (a.get env L) fun v => k v σ
def iBin (op : BinOp) (a b : XArg) : SK := fun env L _ σ k =>
  XV.casesOn (a.get env L)
    (fun ka m => XV.casesOn (b.get env L) (fun kb n => cond (Nat.beq ka kb) (binN op ka m n (binV op (.int (kindOf ka) (.ofNat m)) (.int (kindOf kb) (.ofNat n)) fun v => k v σ) fun v => k v σ) none) (fun _ => none) (fun _ _ => none)
      (fun w => binV op (.int (kindOf ka) (.ofNat m)) w fun v => k v σ))
    (fun _ => none) (fun _ _ => none) (fun v => binV op v (b.get env L).out fun v => k v σ)
def iNot (a : XArg) : SK := fun env L _ σ k => XV.casesOn (a.get env L) (fun _ _ => none) (fun b => Bool.casesOn b (k (.bool true) σ) (k (.bool false) σ)) (fun _ _ => none) (fun _ => none)
def iExt (i : Nat) (a : XArg) : SK := fun env L _ σ k => match a.get env L with
  | .nxt p c => Nat.casesOn i (k (.bool true) σ) (fun i => Nat.casesOn i (k (.nat 0 p) σ) (fun i => Nat.casesOn i (k (.nat 2 c) σ) (fun _ => none)))
  | .oth (.tuple vs) => match vs[i]? with
    | some v => take v fun v => k v σ
    | none => none
  | _ => none
def lenK (l : List UInt8) : Nat → (Nat → R) → R :=
  List.rec (motive := fun _ => Nat → (Nat → R) → R) (fun acc k => k acc) (fun _ _ ih acc k => forceN (Nat.add acc 1) fun acc => ih acc k) l
def iLen (str : Bool) (a : XArg) : SK := fun env L _ σ k => match str, a.get env L with
  | true, .oth (.string s) => lenK s.data.toList 0 fun n => k (.nat 0 n) σ
  | false, .oth (.slice _ n _) => k (.nat 0 n) σ
  | _, _ => none
def iPick (c a b : XArg) : SK := fun env L _ σ k => XV.casesOn (c.get env L) (fun _ _ => none) (fun t => Bool.casesOn t (forceX (b.get env L) fun v => k v σ) (forceX (a.get env L) fun v => k v σ)) (fun _ _ => none) (fun _ => none)
def byteN (s : ByteArray) (i : Nat) : Nat :=
  ByteArray.casesOn s fun a => Array.casesOn a fun l => List.rec (motive := fun _ => Nat → Nat) (fun _ => 0) (fun b _ ih i => Nat.casesOn i (UInt8.toNat b) ih) l i
def blk (A : Nat) (σ : St) : Option AObj := getN A σ.heap
def setBlk (A : Nat) (o : AObj) (σ : St) (k : St → R) : R := St.casesOn σ fun heap fams next hint => setN A o heap fun heap => k ⟨heap, fams, next, hint⟩
def iNext (a : XArg) : SK := fun env L _ σ k => match a.get env L with
  | .oth (.pointer (some ⟨A, 0, none⟩)) => match blk A σ with
    | some (.iter s pos) => cond (Nat.blt pos s.size)
        (forceN (byteN s pos) fun b => cond (Nat.blt b 128)
          (forceN (Nat.succ pos) fun p1 => setBlk A (.iter s p1) σ fun σ => k (.nxt pos b) σ)
          (forceN (Utf8.decode s pos).1 fun c => forceN (pos + (Utf8.decode s pos).2) fun p1 => setBlk A (.iter s p1) σ fun σ => k (.nxt pos c) σ))
        (k (.oth (.tuple #[.bool false])) σ)
    | _ => none
  | _ => none
def iConv (c : Nat) (a : XArg) : SK := fun env L _ σ k => match a.get env L with
  | .nat _ n => cond (Nat.blt n (limN c)) (k (.nat c n) σ) (retI (kindOf c) ((kindOf c).wrap (.ofNat n)) fun v => k v σ)
  | .oth (.int _ n) => retI (kindOf c) ((kindOf c).wrap n) fun v => k v σ
  | _ => none
def iIdxS (a b : XArg) : SK := fun env L _ σ k => match a.get env L, b.get env L with
  | .oth (.string s), .nat _ i => cond (Nat.blt i s.size) (retN 1 (byteN s i) fun v => k v σ) none
  | _, _ => none
def bitsN (c : Nat) : Nat := Nat.casesOn c 64 (fun c => Nat.casesOn c 8 (fun c => Nat.casesOn c 32 (fun c => Nat.casesOn c 32 (fun c => Nat.casesOn c 64 (fun c => Nat.casesOn c 16 (fun c => Nat.casesOn c 16 (fun _ => 8)))))))
def iShf (left : Bool) (a b : XArg) : SK := fun env L _ σ k => match a.get env L, b.get env L with
  | .nat c m, .nat _ n => cond (Nat.ble n (bitsN c)) (Bool.casesOn left (cond (Nat.blt m (limN c)) (retN c (Nat.div m (Nat.pow 2 n)) fun v => k v σ) none)
      (cond (Nat.blt (Nat.mul m (Nat.pow 2 n)) (limN c)) (retN c (Nat.mul m (Nat.pow 2 n)) fun v => k v σ) (retI (kindOf c) ((kindOf c).wrap (.ofNat (Nat.mul m (Nat.pow 2 n)))) fun v => k v σ))) none
  | .oth (.int kd m), .nat _ n => cond (Nat.ble n kd.bits) (Bool.casesOn left (retI kd (m.fdiv (2 ^ n)) fun v => k v σ) (retI kd (kd.wrap (m * 2 ^ n)) fun v => k v σ)) none
  | _, _ => none
def iBits (op : BinOp) (a b : XArg) : SK := fun env L _ σ k => match a.get env L, b.get env L with
  | .nat c m, .nat c' n => cond (Nat.beq c c' && Nat.blt m (limN c) && Nat.blt n (limN c)) (match op with
      | .and => retN c (Nat.land m n) fun v => k v σ
      | .or => retN c (Nat.lor m n) fun v => k v σ
      | .xor => retN c (Nat.xor m n) fun v => k v σ
      | _ => none) none
  | _, _ => none
def bound (d : Nat) (o : Option XArg) (env : XEnv) (L : List XV) (k : Nat → R) : R := match o with
  | none => k d
  | some a => match a.get env L with
    | .nat _ n => k n
    | _ => none
/-- The bytes from l to h. -/
def cut (s : ByteArray) (l h : Nat) : ByteArray := ⟨⟨(s.data.toList.drop l).take (h - l)⟩⟩
def iSubS (a : XArg) (lo hi : Option XArg) : SK := fun env L _ σ k => match a.get env L with
  | .oth (.string s) => bound 0 lo env L fun l => bound s.size hi env L fun h => cond (Nat.ble l h && Nat.ble h s.size) (k (.oth (.string (cut s l h))) σ) none
  | _ => none
def iNil (a : XArg) : SK := fun env L _ σ k => match a.get env L with
  | .oth (.pointer (some a)) => k (.oth (.pointer (some a))) σ
  | .oth (.iface t v) => k (.oth (.iface t v)) σ
  | .oth (.func (.func f) a c) => k (.oth (.func (.func f) a c)) σ
  | _ => none
def nthO (c : List Value) : Nat → Option Value :=
  List.rec (motive := fun _ => Nat → Option Value) (fun _ => none) (fun v _ ih i => Nat.casesOn i (some v) ih) c
def dropR (o : Nat) : List Value → Option (List Value) :=
  Nat.rec (motive := fun _ => List Value → Option (List Value)) (fun c => some c) (fun _ ih c => List.casesOn c none (fun _ c => ih c)) o
def takeR (n : Nat) : List Value → Option (List Value) :=
  Nat.rec (motive := fun _ => List Value → Option (List Value)) (fun _ => some []) (fun _ ih c => List.casesOn c none (fun v c => Option.casesOn (ih c) none (fun l => some (v :: l)))) n
def subR (c : List Value) (o n : Nat) : Option (List Value) := Option.casesOn (dropR o c) none (fun c => takeR n c)
def overK (vs : List Value) : List Value → (List Value → R) → R :=
  List.rec (motive := fun _ => List Value → (List Value → R) → R) (fun c k => k c) (fun v _ ih c k => List.casesOn c none (fun _ c => ih c fun l => k (v :: l))) vs
def layK (vs : List Value) (o : Nat) : List Value → (List Value → R) → R :=
  Nat.rec (motive := fun _ => List Value → (List Value → R) → R) (fun c k => overK vs c k) (fun _ ih c k => List.casesOn c none (fun a c => ih c fun l => k (a :: l))) o
def iLoad1 (a : XArg) : SK := fun env L _ σ k => match a.get env L with
  | .oth (.pointer (some ⟨A, o, none⟩)) => match blk A σ with
    | some (.cells own ver fam c) => cond (own || σ.rd own ver fam) (match nthO c o with
      | some v => take v fun v => k v σ
      | none => none) none
    | _ => none
  | _ => none
def iLoadN (n : Nat) (a : XArg) : SK := fun env L _ σ k => match a.get env L with
  | .oth (.pointer (some ⟨A, o, none⟩)) => match blk A σ with
    | some (.cells own ver fam c) => cond (own || σ.rd own ver fam) (match subR c o n with
      | some l => k (.oth (.agg l.toArray)) σ
      | none => none) none
    | _ => none
  | _ => none
def forceL (l : List Value) : (List Value → R) → R := List.rec (motive := fun _ => (List Value → R) → R) (fun k => k []) (fun a _ ih k => ih fun l => k (a :: l)) l
def appL (l m : List Value) : (List Value → R) → R := List.rec (motive := fun _ => (List Value → R) → R) (fun k => k m) (fun a _ ih k => ih fun l => k (a :: l)) l
def lenV (l : List Value) : Nat → (Nat → R) → R := List.rec (motive := fun _ => Nat → (Nat → R) → R) (fun acc k => k acc) (fun _ _ ih acc k => forceN (Nat.add acc 1) fun acc => ih acc k) l
def hintK (A : Nat) (σ : St) (c : List Value) (k : Nat → R) : R := match getN A σ.hint with
  | some n => forceN n k
  | none => lenV c 0 k
def appFin (A id ver F : Nat) (c c' : List Value) (L M : Nat) (σ : St) (k : St → R) : R := St.casesOn σ fun heap fams next hint =>
  setN A (.cells false ver F c) heap fun heap => setN id (.cells true ver F c') heap fun heap => setN F id fams fun fams => setN A L hint fun hint => setN id M hint fun hint => k ⟨heap, fams, next, hint⟩
/-- An append at a block's very end; great blocks are not laid bare. -/
def appK (A id ver F : Nat) (c nc : List Value) (L : Nat) (σ : St) (k : St → R) : R := lenV nc 0 fun m => forceN (Nat.add L m) fun M =>
  cond (Nat.ble L 96) (appL c nc fun c' => appFin A id ver F c c' L M σ k) (appFin A id ver F c (c ++ nc) L M σ k)
def iApp (P : Program) (xT : TypeId) (i : TypeInfo) (z : Array Value) (n : Nat) (a b : XArg) : SK := fun env L base σ k => match appSrc P xT i z (b.get env L).out σ with
  | some (m, nc) => forceN m fun m => match a.get env L with
    | .oth (.slice bs len kk) => cond (Nat.beq m 0) (k (.oth (.slice bs len kk)) σ)
      (cond (Nat.ble (Nat.add len m) 9223372036854775807 && Nat.ble (Nat.mul (Nat.add (Nat.mul 2 (Nat.add len m)) 1000) i.bytes) 281474976710656)
        (forceN (Nat.add base n) fun id => match kk with
          | 0 => cond (Nat.beq len 0) (forceL nc fun nc => setBlk id (.cells true 0 id nc) σ fun σ => forceN (Nat.succ i.size) fun s1 => k (.oth (.slice (some ⟨id, 0, none⟩) m s1)) σ) none
          | k' + 1 => match bs with
            | some ⟨A, o, none⟩ => cond (Nat.beq k' i.size && nc.all (·.oneCell')) (match blk A σ with
              | some (.cells true ver F c) => hintK A σ c fun Lc => forceN (Nat.add o (Nat.mul len i.size)) fun q => forceN (Nat.add len m) fun len' =>
                cond (Nat.beq o 0 && Nat.beq q Lc) (appK A id ver F c nc Lc σ fun σ => k (.oth (.slice (some ⟨id, 0, none⟩) len' (k' + 1))) σ)
                  (cond (Nat.ble q Lc) (k (.oth (.slice (some ⟨id, 0, none⟩) len' (k' + 1))) (appSt σ A id ver F c o q nc)) none)
              | _ => none) none
            | _ => none)
        none)
    | _ => none
  | none => none
/-- n cells, from c on and then z over and over. -/
def cycR (z : List Value) (n : Nat) : List Value → List Value :=
  Nat.rec (motive := fun _ => List Value → List Value) (fun _ => []) (fun _ ih c => List.casesOn c (List.casesOn z [] (fun v r => v :: ih r)) (fun v r => v :: ih r)) n
def iMake (ti : TypeInfo) (z : Array Value) (n : Nat) (l c : XArg) : SK := fun env L base σ k => match l.get env L, c.get env L with
  | .nat _ a, .nat _ m => cond (Nat.ble a m && Nat.ble m 9223372036854775807 && Nat.ble (Nat.mul ti.bytes m) 281474976710656)
    (forceN (Nat.add base n) fun id => forceL (cycR z.toList (Nat.mul m ti.size) z.toList) fun cs => setBlk id (.cells true 0 id cs) σ fun σ => forceN (Nat.succ ti.size) fun s1 => k (.oth (.slice (some ⟨id, 0, none⟩) a s1)) σ) none
  | _, _ => none
def iStore (n : Nat) (a v : XArg) : SK := fun env L _ σ k => match a.get env L with
  | .oth (.pointer (some ⟨A, o, none⟩)) => forceX (v.get env L) fun v => cond (Nat.beq v.out.cells.size n) (match blk A σ with
      | some (.cells true ver F c) => cond (v.out.cells.toList.all (·.oneCell')) (layK v.out.cells.toList o c fun l => forceN (Nat.succ ver) fun ver => setBlk A (.cells true ver F l) σ fun σ => k (.oth undef) σ) none
      | _ => none) none
  | _ => none
def iFaddr (off : Nat) (a : XArg) : SK := fun env L _ σ k => match a.get env L with
  | .oth (.pointer (some ⟨A, o, none⟩)) => forceN (Nat.add o off) fun o => k (.oth (.pointer (some ⟨A, o, none⟩))) σ
  | _ => none
def iIaddr (n : Nat) (len : Option Nat) (a i : XArg) : SK := fun env L _ σ k => match i.get env L with
  | .nat _ i => match len, a.get env L with
    | none, .oth (.slice (some ⟨A, o, none⟩) len _) => cond (Nat.blt i len) (forceN (Nat.add o (Nat.mul i n)) fun o => k (.oth (.pointer (some ⟨A, o, none⟩))) σ) none
    | some len, .oth (.pointer (some ⟨A, o, none⟩)) => cond (Nat.blt i len) (forceN (Nat.add o (Nat.mul i n)) fun o => k (.oth (.pointer (some ⟨A, o, none⟩))) σ) none
    | _, _ => none
  | _ => none
def iCall (call : KF) (f : FuncId) (args : List XArg) : SK := fun env L _ σ k => argsK args env L fun vs => call f vs σ k
def takes (l : List Value) : (List XV → R) → R := List.rec (motive := fun _ => (List XV → R) → R) (fun k => k []) (fun v _ ih k => take v fun v => ih fun vs => k (v :: vs)) l
/-- A block's cells laid bare. -/
def normK (o : Option Nat) (σ : St) (k : St → R) : R := match o with
  | some A => match blk A σ with
    | some (.cells own ver F c) => forceL c fun c => setBlk A (.cells own ver F c) σ k
    | _ => k σ
  | none => k σ
/-- The block that a copy writes to. -/
def copied (o : Oper) (ρ : Operand → Value) : Option Nat := match o.op with
  | .call c => match c.callee with
    | .builtin .copy => match c.args.toList with
      | x :: _ => match ρ x with
        | .slice (some ⟨A, _, _⟩) _ _ => some A
        | _ => none
      | _ => none
    | _ => none
  | _ => none
def iGen (P : Program) (call : KF) (o : Oper) (m : List (Nat × XArg)) (i : Nat) : SK := fun env L base σ k => match evalOp P (rgen m env L) (Nat.add base i) o σ with
  | some (.val v σ') => normK (copied o (rgen m env L)) σ' fun σ' => take v fun v => k v σ'
  | some (.enter f args) => takes args.toList fun vs => call f vs σ k
  | none => none
def xins (P : Program) (call : KF) (i : XIns) : SK := XIns.casesOn i iMov iBin iNot iExt iLen iPick iNext iConv iIdxS iShf iBits iSubS iNil iLoad1 iLoadN iStore iFaddr iIaddr (iCall call) (iApp P) iMake (iGen P call)

/-- A row of instructions; 'base': the name of the row's first. -/
def xops (P : Program) (call : KF) (l : List XI) : XEnv → List XV → Nat → St → (XEnv → St → R) → R :=
  List.rec (motive := fun _ => XEnv → List XV → Nat → St → (XEnv → St → R) → R) (fun env _ _ σ k => k env σ)
    (fun x _ ih => XI.casesOn x
      (fun i env L base σ k => xins P call i env L base σ fun v σ => ih env (v :: L) base σ k)
      (fun p i env L base σ k => xins P call i env L base σ fun v σ => setK p v env fun env => ih env (v :: L) base σ k)
      (fun g want p i env L base σ k => XV.casesOn (g.get env L)
        (fun _ _ => Option.casesOn p (ih env (.oth undef :: L) base σ k) (fun p => setK p (.oth undef) env fun env => ih env (.oth undef :: L) base σ k))
        (fun b => cond (b == want) (xins P call i env L base σ fun v σ => Option.casesOn p (ih env (v :: L) base σ k) (fun p => setK p v env fun env => ih env (v :: L) base σ k))
            (Option.casesOn p (ih env (.oth undef :: L) base σ k) (fun p => setK p (.oth undef) env fun env => ih env (.oth undef :: L) base σ k)))
        (fun _ _ => Option.casesOn p (ih env (.oth undef :: L) base σ k) (fun p => setK p (.oth undef) env fun env => ih env (.oth undef :: L) base σ k))
        (fun v => match v with
          | .bool _ => none
          | _ => Option.casesOn p (ih env (.oth undef :: L) base σ k) (fun p => setK p (.oth undef) env fun env => ih env (.oth undef :: L) base σ k)))) l

/-! ## Rows that draw their order, where the order is of no matter by sight -/
def dcall (call : KF) (f : FuncId) (vs : List XV) (σ : St) (k : XV → St → R) : R := match call f vs σ (fun v σ' => some (v.out, σ')) with
  | some (v, σ') => take v fun v => k v σ'
  | none => none
def xdi (P : Program) (call : KF) (d : DI) (env : XEnv) (base : Nat) (σ : St) (k : XV → Option (Nat × AObj) → St → R) : R := match d with
  | .ins i => xins P call i env [] base σ fun v σ => k v none σ
  | .al o m i => match evalOp P (rgen m env []) (Nat.add base i) o σ with
    | some (.val v σ') => match blk (Nat.add base i) σ' with
      | some ao => take v fun v => k v (some (Nat.add base i, ao)) σ
      | none => none
    | _ => none
  | .gen o m i => match evalOp P (rgen m env []) (Nat.add base i) o σ with
    | some (.val v σ') => normK (copied o (rgen m env [])) σ' fun σ' => take v fun v => k v none σ'
    | some (.enter f args) => takes args.toList fun vs => dcall call f vs σ fun v σ' => k v none σ'
    | none => none
def pushP (ao : Option (Nat × AObj)) (pend : List (Nat × AObj)) : List (Nat × AObj) := match ao with
  | some x => pend ++ [x]
  | none => pend
def instK (l : List (Nat × AObj)) : St → (St → R) → R := List.rec (motive := fun _ => St → (St → R) → R) (fun σ k => k σ) (fun x _ ih σ k => setBlk x.1 x.2 σ fun σ => ih σ k) l
def putK (p : Option (List Bool)) (v : XV) (env : XEnv) (k : XEnv → R) : R := Option.casesOn p (k env) (fun p => setK p v env k)
def xdrun (P : Program) (call : KF) (d : DQ) (env : XEnv) (base : Nat) (τ : St) (pend : List (Nat × AObj)) (k : XV → St → List (Nat × AObj) → R) : R :=
  Bool.casesOn d.loud (xdi P call d.di env base τ fun v ao τ' => k v τ' (pushP ao pend)) (instK pend τ fun σ => xdi P call d.di env base σ fun v _ τ' => k v τ' [])
def xdq (P : Program) (call : KF) (l : List DQ) : XEnv → Nat → St → List (Nat × AObj) → (XEnv → St → R) → R :=
  List.rec (motive := fun _ => XEnv → Nat → St → List (Nat × AObj) → (XEnv → St → R) → R) (fun env base τ pend k => instK pend τ fun σ => k env σ)
    (fun d _ ih env base τ pend k => Option.casesOn d.guard (xdrun P call d env base τ pend fun v τ pend => putK d.p v env fun env => ih env base τ pend k)
      (fun gw => XV.casesOn (gw.1.get env []) (fun _ _ => putK d.p (.oth undef) env fun env => ih env base τ pend k)
        (fun b => cond (b == gw.2) (xdrun P call d env base τ pend fun v τ pend => putK d.p v env fun env => ih env base τ pend k) (putK d.p (.oth undef) env fun env => ih env base τ pend k))
        (fun _ _ => putK d.p (.oth undef) env fun env => ih env base τ pend k)
        (fun v => match v with
          | .bool _ => none
          | _ => putK d.p (.oth undef) env fun env => ih env base τ pend k))) l

/-! ## Code -/
def xloop (body : XEnv → St → (Ex → XEnv → St → R) → R) (n : Nat) : XEnv → St → (Ex → XEnv → St → R) → R :=
  Nat.rec (motive := fun _ => XEnv → St → (Ex → XEnv → St → R) → R) (fun _ _ _ => none)
    (fun _ ih env σ k => body env σ fun ex env σ => Ex.casesOn ex (ih env σ k) (fun id => k (.exit id) env σ) (k .ret env σ)) n
def xcode (P : Program) (call : KF) (draw : Array Oper → List Nat → XEnv → St → (XEnv → St → R) → R) (lf : Nat) (c : XCode) : XEnv → St → (Ex → XEnv → St → R) → R :=
  XCode.rec (motive := fun _ => XEnv → St → (Ex → XEnv → St → R) → R)
    (fun env σ k => k .normal env σ)
    (fun env σ k => k .ret env σ)
    (fun id env σ k => k (.exit id) env σ)
    (fun l n env σ k => St.casesOn σ fun heap fams next hint => forceN next fun next => forceN (Nat.add next n) fun next' => xops P call l env [] next ⟨heap, fams, next', hint⟩ fun env σ => k .normal env σ)
    (fun ops keep env σ k => draw ops keep env σ fun env σ => k .normal env σ)
    (fun l n env σ k => St.casesOn σ fun heap fams next hint => forceN next fun next => forceN (Nat.add next n) fun next' => xdq P call l env next ⟨heap, fams, next', hint⟩ [] fun env σ => k .normal env σ)
    (fun _ _ iha ihb env σ k => iha env σ fun ex env σ => Ex.casesOn ex (ihb env σ k) (fun id => k (.exit id) env σ) (k .ret env σ))
    (fun c _ _ iha ihb env σ k => XV.casesOn (c.get env []) (fun _ _ => none) (fun b => Bool.casesOn b (ihb env σ k) (iha env σ k)) (fun _ _ => none) (fun _ => none))
    (fun id _ ih env σ k => ih env σ fun ex env σ => Ex.casesOn ex (k .normal env σ) (fun id' => cond (Nat.beq id' id) (k .normal env σ) (k (.exit id') env σ)) (k .ret env σ))
    (fun _ ih env σ k => xloop ih lf env σ k) c

def initK (ps : List (Option (List Bool))) : List XV → XEnv → (XEnv → R) → R :=
  List.rec (motive := fun _ => List XV → XEnv → (XEnv → R) → R) (fun vs env k => List.casesOn vs (k env) (fun _ _ => none))
    (fun p _ ih vs env k => List.casesOn vs (k env) (fun v vs => Option.casesOn p (ih vs env k) (fun p => setK p v env fun env => ih vs env k))) ps
def xres (P : Program) (env : XEnv) (σ : St) : List (ResultVar × List Bool) → Option (List Value)
  | [] => some []
  | (.tmp _, p) :: r => match xres P env σ r with
    | some l => some ((orUndef (getR p env)).out :: l)
    | none => none
  | (.cell _ t, p) :: r => match opLoad P t (orUndef (getR p env)).out σ, xres P env σ r with
    | some v, some l => some (v :: l)
    | _, _ => none
def xret (P : Program) (res : List (ResultVar × List Bool)) (env : XEnv) (σ : St) (k : XV → St → R) : R := match xres P env σ res with
  | some l => take (packed l) fun v => k v σ
  | none => none
def xfn (P : Program) (call : KF) (draw : Array Oper → List Nat → XEnv → St → (XEnv → St → R) → R) (lf : Nat) (f : XFn) (args : List XV) (σ : St) (k : XV → St → R) : R :=
  initK f.params args .nil fun env => xcode P call draw lf f.code env σ fun ex env σ => Ex.casesOn ex (xret P f.res env σ k) (fun _ => none) (xret P f.res env σ k)

/-- Calls, to a depth; 'tab': functions made ready; 'ext': known calls. -/
def xF (P : Program) (tab : FuncId → Option XFn) (ext : FuncId → Option CallF) (draw : KF → Array Oper → List Nat → XEnv → St → (XEnv → St → R) → R) (lf : Nat) (n : Nat) : KF :=
  Nat.rec (motive := fun _ => KF) (fun _ _ _ _ => none)
    (fun _ ih f args σ k => match ext f with
      | some g => match g f (args.map XV.out).toArray σ with
        | some (v, σ') => take v fun v => k v σ'
        | none => match tab f with
          | some xf => xfn P ih (draw ih) lf xf args σ k
          | none => none
      | none => match tab f with
        | some xf => xfn P ih (draw ih) lf xf args σ k
        | none => none) n

/-! ## Making ready -/
def xvOf : Value → XV
  | .int k (.ofNat n) => .nat (codeOf k) n
  | .bool b => .bool b
  | v => .oth v
/-- Where a slot's value is: the j-th pushed · the same as another argument. -/
inductive Src where
  | at (j : Nat)
  | arg (a : XArg)
def look (W : List (Nat × Src)) (t : Nat) : Option Src := match W with
  | [] => none
  | (a, j) :: r => if Nat.beq a t then some j else look r t
def rank : List Nat → Nat → Nat → Option Nat
  | [], _, _ => none
  | a :: l, t, i => if Nat.beq a t then some i else rank l t (i + 1)
def varOf (K : List Nat) (t : Nat) : Option (List Bool) := (rank K t 0).map path
/-- An operand, where i values have been pushed. K: the slots that are kept between rows. -/
def resolve (W : List (Nat × Src)) (K : List Nat) (i : Nat) : Operand → Option XArg
  | .tmp t => match look W t with
    | some (.at j) => some (.loc (i - 1 - j))
    | some (.arg a) => some a
    | none => (varOf K t).map .var
  | .const v => some (.val (xvOf v))
  | .global g => some (.val (.oth (.pointer (some ⟨g, 0, none⟩))))
  | .func f => some (.val (.oth (.func (.func f) #[] #[])))
def resolveO (W : List (Nat × Src)) (K : List Nat) (i : Nat) : Option Operand → Option (Option XArg)
  | none => some none
  | some x => (resolve W K i x).map some
def resolveL (W : List (Nat × Src)) (K : List Nat) (i : Nat) : List Operand → Option (List XArg)
  | [] => some []
  | x :: l => match resolve W K i x, resolveL W K i l with
    | some a, some r => some (a :: r)
    | _, _ => none
def resolveT (W : List (Nat × Src)) (K : List Nat) (i : Nat) : List Operand → Option (List (Nat × XArg))
  | [] => some []
  | .tmp t :: l => match resolve W K i (.tmp t), resolveT W K i l with
    | some a, some r => some ((t, a) :: r)
    | _, _ => none
  | _ :: l => resolveT W K i l
def isInt (P : Program) (t : TypeId) : Bool := match P.underlying t with
  | some (.int _) => true
  | _ => false
def fastBin : BinOp → Bool
  | .add | .sub | .mul | .eql | .neq | .lss | .leq | .gtr | .geq => true
  | _ => false
def hasBody (P : Program) (f : FuncId) : Bool := match P.funcs[f]? with
  | some fn => fn.body.isSome && !(fn.name == "runtime.NumGoroutine")
  | none => false
/-- n: the operation's own place. -/
def compGen (W : List (Nat × Src)) (K : List Nat) (i n : Nat) (o : Oper) : Option XIns := (resolveT W K i o.op.operands.toList).map fun m => .gen o m n
def compIns (P : Program) (W : List (Nat × Src)) (K : List Nat) (i n : Nat) (o : Oper) : Option XIns :=
  match o.op with
  | .move x => (resolve W K i x).map .mov
  | .assign x => (resolve W K i x).map .mov
  | .binOp op t x y _ => if isInt P t then match resolve W K i x, resolve W K i y with
      | some a, some b => (match op with
        | .shl => some (.shf true a b)
        | .shr => some (.shf false a b)
        | .and | .or | .xor => some (.bits op a b)
        | _ => if fastBin op then some (.bin op a b) else compGen W K i n o)
      | _, _ => none
    else compGen W K i n o
  | .slice t x lo hi mx => match P.underlying t, mx with
    | some .string, none => (match resolve W K i x, resolveO W K i lo, resolveO W K i hi with
      | some a, some l, some h => some (.subS a l h)
      | _, _, _ => none)
    | _, _ => compGen W K i n o
  | .unOp .not _ x => (resolve W K i x).map .notB
  | .extract x ix => (resolve W K i x).map (.ext ix)
  | .pick c x y => match resolve W K i c, resolve W K i x, resolve W K i y with
    | some a, some b, some d => some (.pick a b d)
    | _, _, _ => none
  | .next it isS => if isS then (resolve W K i it).map .next else compGen W K i n o
  | .convert src dst x => match isInt P src, P.underlying dst with
    | true, some (.int k) => (resolve W K i x).map (.conv (codeOf k))
    | _, _ => compGen W K i n o
  | .index t x ix => match P.underlying t with
    | some .string => (match resolve W K i x, resolve W K i ix with
      | some a, some b => some (.idxS a b)
      | _, _ => none)
    | _ => compGen W K i n o
  | .nilCheck x => (resolve W K i x).map .nilC
  | .load t a => match ldInfo P t with
    | some none => (resolve W K i a).map .load1
    | some (some n) => (resolve W K i a).map (.loadN n)
    | none => none
  | .store t a v => match sz? P t, resolve W K i a, resolve W K i v with
    | some n, some a, some v => some (.store n a v)
    | _, _, _ => none
  | .fieldAddr s x f => match fieldOf P s f with
    | some off => (resolve W K i x).map (.faddr off)
    | none => none
  | .makeSlice t l c => match P.underlying t with
    | some (.slice e) => (match P.info? e with
      | some ti => (match zcells? P e ti.size, resolve W K i l, resolve W K i c with
        | some z, some a, some b => some (.mk ti z n a b)
        | _, _, _ => none)
      | none => none)
    | _ => none
  | .indexAddr t x ix => match P.underlying t with
    | some (.slice e) => (match sz? P e, resolve W K i x, resolve W K i ix with
      | some n, some a, some b => some (.iaddr n none a b)
      | _, _, _ => none)
    | some (.array len e) => (match sz? P e, resolve W K i x, resolve W K i ix with
      | some n, some a, some b => some (.iaddr n (some len) a b)
      | _, _, _ => none)
    | _ => compGen W K i n o
  | .call c => match c.callee with
    | .value (.func f) => if hasBody P f then (resolveL W K i c.args.toList).map (.callF f) else compGen W K i n o
    | .builtin .len => match c.argTypes.toList, c.args.toList with
      | [t], [x] => (match P.underlying t with
        | some .string => (resolve W K i x).map (.lenS true)
        | some (.slice _) => (resolve W K i x).map (.lenS false)
        | _ => compGen W K i n o)
      | _, _ => compGen W K i n o
    | .builtin .append => match c.argTypes.toList, c.args.toList with
      | [sT, xT], [s, x] => (match P.underlying sT with
        | some (.slice e) => (match P.info? e with
          | some ti => (match zcells? P e ti.size, resolve W K i s, resolve W K i x with
            | some z, some a, some b => some (.app xT ti z n a b)
            | _, _, _ => none)
          | none => none)
        | _ => none)
      | _, _ => none
    | _ => compGen W K i n o
  | _ => compGen W K i n o
/-- A copy that need not be made: of a value, or of a slot that is not written later in the row. -/
def copyOf (o : Oper) (later : List Oper) : Option Operand := match o.guard with
  | some _ => none
  | none => match o.op with
    | .move x => match x with
      | .tmp t => if later.all (fun o' => match o'.dst with | some d => !Nat.beq d t | none => true) then some x else none
      | _ => some x
    | .assign x => match x with
      | .tmp t => if later.all (fun o' => match o'.dst with | some d => !Nat.beq d t | none => true) then some x else none
      | _ => some x
    | _ => none
def dstVar (K : List Nat) (d : Option Nat) : Option (List Bool) := match d with | some d => varOf K d | none => none
def srcOf (i : Nat) (b : XArg) : Src := match b with
  | .loc j => .at (i - 1 - j)
  | b => .arg b
def pushW (d : Option Nat) (i : Nat) (W : List (Nat × Src)) : List (Nat × Src) := match d with | some d => (d, .at i) :: W | none => W
/-- i: values pushed; n: the operation's place. -/
def compOps (P : Program) (gl : List Nat) (N : Nat) (K : List Nat) (ops : Array Oper) : List Oper → Nat → Nat → List (Nat × Src) → Option (List XI)
  | [], _, _, _ => some []
  | o :: l, i, n, W => if okOper gl N o && okGuard ops N o && o.op.operands.toList.all (fun x => (resolve W K i x).isSome) then
      match dstVar K o.dst, copyOf o l, o.dst with
      | none, some x, some d => match resolve W K i x with
        | some b => compOps P gl N K ops l i (n + 1) ((d, srcOf i b) :: W)
        | none => none
      | _, _, _ => match compIns P W K i n o with
        | some ins =>
          match compOps P gl N K ops l (i + 1) (n + 1) (pushW o.dst i W) with
          | some r => match o.guard with
            | none => match dstVar K o.dst with
              | none => some (.plain ins :: r)
              | some p => some (.put p ins :: r)
            | some (j, want) => match (ops[j]?).bind (·.dst) with
              | some d => match resolve W K i (.tmp d) with
                | some g => some (.guarded g want (dstVar K o.dst) ins :: r)
                | none => none
              | none => none
          | none => none
        | none => none
    else none
/-- Is the order of no matter by sight: what is made is laid ahead of all that is loud behind it; what is read stands in an order with all that is loud. -/
def okQ (P : Program) (ops : Array Oper) (B : List Nat) : Bool :=
  okDraw P ops B && ops.toList.zipIdx.all fun x => match clsOf P x.1.op with
    | .loud => ops.toList.zipIdx.all fun y => match clsOf P y.1.op with
      | .alloc => !(Nat.blt y.2 x.2) || bit B x.2 y.2
      | .read => bit B x.2 y.2 || bit B y.2 x.2
      | _ => true
    | _ => true
def isStoreOp : Op → Bool
  | .store .. => true
  | .call c => match c.callee with
    | .builtin .append => true
    | _ => false
  | _ => false
def isLoadOp : Op → Bool
  | .load .. => true
  | _ => false
def compDI0 (P : Program) (K : List Nat) (n : Nat) (o : Oper) : Option (Bool × DI) := match clsOf P o.op with
  | .pure => (compIns P [] K 0 n o).map fun i => (false, .ins i)
  | .read => cond (isLoadOp o.op) ((compIns P [] K 0 n o).map fun i => (false, .ins i)) none
  | .alloc => (resolveT [] K 0 o.op.operands.toList).map fun m => (false, .al o m n)
  | .loud => cond (isStoreOp o.op) ((compIns P [] K 0 n o).map fun i => (true, .ins i)) ((resolveT [] K 0 o.op.operands.toList).map fun m => (true, .gen o m n))
def compDI (P : Program) (K : List Nat) (n : Nat) (o : Oper) : Option (Bool × DI) := cond (o.op.operands.toList.all (fun x => (resolve [] K 0 x).isSome)) (compDI0 P K n o) none
def compDG (K : List Nat) (ops : Array Oper) (o : Oper) : Option (Option (XArg × Bool)) := match o.guard with
  | none => some none
  | some (j, want) => match (ops[j]?).bind (·.dst) with
    | some d => (resolve [] K 0 (.tmp d)).map fun a => some (a, want)
    | none => none
def compDQ (P : Program) (K : List Nat) (ops : Array Oper) : List Oper → Nat → Option (List DQ)
  | [], _ => some []
  | o :: l, n => match compDI P K n o, compDG K ops o, compDQ P K ops l (n + 1) with
    | some (b, d), some g, some r => some ({ loud := b, guard := g, p := dstVar K o.dst, di := d } :: r)
    | _, _, _ => none
def comp (P : Program) (gl : List Nat) (N : Nat) (K : List Nat) : Code → Option XCode
  | .skip => some .skip
  | .label _ => some .skip
  | .ret => some .ret
  | .exit id => some (.exit id)
  | .region _ ops dr => if dr then (if ops.toList.all (fun o => okOper gl N o && okGuard ops N o) then (match cond (okQ P ops (befores ops)) (compDQ P K ops ops.toList 0) none with
      | some l => some (.drawq l ops.size)
      | none => some (.draw ops K)) else none)
    else (compOps P gl N K ops ops.toList 0 0 []).map fun l => .ops l ops.size
  | .seq a b => match comp P gl N K a, comp P gl N K b with
    | some a, some b => some (.seq a b)
    | _, _ => none
  | .cond c a b => match resolve [] K 0 c, comp P gl N K a, comp P gl N K b with
    | some c, some a, some b => some (.cond c a b)
    | _, _, _ => none
  | .block id c => (comp P gl N K c).map (.block id)
  | .loop c => (comp P gl N K c).map .loop
  | .scope c => comp P gl N K c
  | _ => none
def hasDraw : Code → Bool
  | .region _ _ dr => dr
  | .seq a b => hasDraw a || hasDraw b
  | .cond _ a b => hasDraw a || hasDraw b
  | .block _ c => hasDraw c
  | .loop c => hasDraw c
  | .scope c => hasDraw c
  | _ => false
/-- The slots that are read otherwise than behind a writing in the same row. -/
def freeOf (W : List Nat) : List Operand → List Nat
  | [] => []
  | .tmp t :: l => if W.contains t then freeOf W l else t :: freeOf W l
  | _ :: l => freeOf W l
def freeOps (ops : Array Oper) : List Oper → List Nat → List Nat
  | [], _ => []
  | o :: l, W => freeOf W o.op.operands.toList ++ (match o.guard with | some (j, _) => (match (ops[j]?).bind (·.dst) with | some d => if W.contains d then [] else [d] | none => []) | none => []) ++
    freeOps ops l (match o.dst with | some d => d :: W | none => W)
def freeC : Code → List Nat
  | .region _ ops _ => freeOps ops ops.toList []
  | .seq a b => freeC a ++ freeC b
  | .cond c a b => freeOf [] [c] ++ freeC a ++ freeC b
  | .block _ c => freeC c
  | .loop c => freeC c
  | .scope c => freeC c
  | _ => []
def resTmp : ResultVar → Nat
  | .tmp t => t
  | .cell t _ => t
def nub : List Nat → List Nat → List Nat
  | [], acc => acc.reverse
  | t :: l, acc => if acc.contains t then nub l acc else nub l (t :: acc)
def compFn (P : Program) (gl : List Nat) (f : FuncId) : Option XFn := match P.funcs[f]? with
  | some fn => match fn.body with
    | some c =>
      let K := if hasDraw c then List.range fn.ntmps else nub (freeC c ++ fn.results.toList.map resTmp) []
      match comp P gl fn.ntmps K c, fn.results.toList.mapM (fun r => (varOf K (resTmp r)).map fun p => (r, p)) with
      | some x, some rs => some { code := x, params := (List.range fn.ntmps).map (varOf K), res := rs }
      | _, _ => none
    | none => none
  | none => none

/-- A row that draws its order, by the slower evaluator: all slots are kept. -/
def callOf (kf : KF) : CallF := fun f args σ => kf f (args.toList.map xvOf) σ fun v σ' => some (v.out, σ')
def mapT {α β : Type} (f : α → β) : Tr α → Tr β
  | .nil => .nil
  | .node v l r => .node (v.map f) (mapT f l) (mapT f r)
def xdraw (P : Program) (call : CallF) : Array Oper → List Nat → XEnv → St → (XEnv → St → R) → R := fun ops keep env σ k =>
  match evalDraw P call ops (mapT XV.out env) σ with
  | some (env', σ') => k (mapT xvOf env') σ'
  | none => none
end
end Go.Ev
