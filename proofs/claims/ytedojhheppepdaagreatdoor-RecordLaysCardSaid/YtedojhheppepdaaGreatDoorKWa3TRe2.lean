/-
  The evaluator and the contracts, merged out of 11 texts (Wa3 to Re2). No condition.
-/
import Derived.Test.YtedojhheppepdaaGreatDoorKTyRTSr6
import Derived.Test.YtedojhheppepdaaGreatDoorKSrb
import Derived.Shelf.LaysM
import Derived.Shelf.Strings.SlTrimAscii
import Derived.Shelf.Strings.Count
import Derived.Shelf.Strings.Search3
import Derived.Shelf.Small.Wraps
import Derived.Shelf.Strconv.Itoa3
import Derived.Ground.NamesProg
import Derived.Test.YtedojhheppepdaaGreatDoorProg
import Derived.Test.YtedojhheppepdaaGreatDoorKSr7TSr2
namespace Go.Proofs
open Go Go.Ev
set_option maxRecDepth 100000
set_option linter.unusedSimpArgs false
set_option linter.unusedVariables false
set_option linter.defProp false
set_option maxHeartbeats 4000000
attribute [local irreducible] zTF Jcf zOp zO zQ1 zQ2 zObj zQ zU zW zCl zRd zLd zPr zIf Jci zC
structure RecM.Small (r : RecM) : Prop where
  kind : r.kind < 256
  id : r.id < 4294967296
  tick : -9223372036854775808 ≤ r.tick ∧ r.tick < 9223372036854775808
  what : r.what < 256
  new : r.new < 4294967296
  next : -9223372036854775808 ≤ r.next ∧ r.next < 9223372036854775808
  snd : r.sl.size < 65536 ∧ r.sd.size < 65536
  content : r.content.size < 65536
  to : r.to.length ≤ 150
  fin : r.fin.length ≤ 150
  fail : r.fail.length ≤ 150
  which : r.which.length ≤ 150
  toS : ∀ p ∈ r.to, Jnh p
  finS : ∀ f ∈ r.fin, f.Small
  failS : ∀ f ∈ r.fail, f.Small
def rowL {α : Type} (f : α → List Value) (l : List α) : List Value := numL (l.length : Nat) 1 ++ l.flatMap f
theorem Jsn {W : Nat} {c : List Value} (rows : List Jan) (s : Value) (σ0 σ : St) (hw0 : σ0.Wf) (hs : SlR σ0 s 9 (rows.map Jan.cells)) (wn : WNew W σ0 σ) (hw : Wr σ W c) (hsm : ∀ f ∈ rows, f.Small) (hl : rows.length ≤ 150) (hc : c.length < 100000000) :
    TF Tryz.prog [] 104 #[.pointer (some ⟨W, 0, none⟩), s, .func (.func 105) #[.pointer (some ⟨W, 0, none⟩)] #[]] σ fun v σ' => v = .tuple #[] ∧ Wr σ' W (c ++ rowL Jan.bytes rows) ∧ Jbm W σ σ' := Jso rows s σ0 σ hw0 hs wn hw hsm hl hc
theorem Jsl {W : Nat} {c : List Value} (rows : List Jaw) (s : Value) (σ0 σ : St) (hw0 : σ0.Wf) (hs : SlR σ0 s 4 (rows.map Jaw.cells)) (wn : WNew W σ0 σ) (hw : Wr σ W c) (hsm : ∀ f ∈ rows, f.Small) (hl : rows.length ≤ 150) (hc : c.length < 100000000) :
    TF Tryz.prog [] 106 #[.pointer (some ⟨W, 0, none⟩), s, .func (.func 107) #[.pointer (some ⟨W, 0, none⟩)] #[]] σ fun v σ' => v = .tuple #[] ∧ Wr σ' W (c ++ rowL Jaw.bytes rows) ∧ Jbm W σ σ' := Jsm rows s σ0 σ hw0 hs wn hw hsm hl hc
theorem Jkt {W : Nat} {c : List Value} (rows : List (ByteArray × ByteArray)) (s : Value) (σ0 σ : St) (hw0 : σ0.Wf) (hs : SlR σ0 s 2 (rows.map Jbz)) (wn : WNew W σ0 σ) (hw : Wr σ W c) (hsm : ∀ f ∈ rows, Jnh f) (hl : rows.length ≤ 150) (hc : c.length < 100000000) :
    TF Tryz.prog [] 109 #[.pointer (some ⟨W, 0, none⟩), s, .func (.func 108) #[.pointer (some ⟨W, 0, none⟩)] #[]] σ fun v σ' => v = .tuple #[] ∧ Wr σ' W (c ++ rowL Jc5 rows) ∧ Jbm W σ σ' := Jsk rows s σ0 σ hw0 hs wn hw hsm hl hc
def Jj4 (r : RecM) : List Value := numL (r.kind : Nat) 1 ++ numL (r.id : Nat) 4 ++ numL r.tick 8
def Jlk (r : RecM) : List Value :=
  if r.kind = 2 then rowL Jan.bytes r.fin ++ rowL Jaw.bytes r.fail
  else if r.kind = 3 then rowL Jbp r.which ++ numL r.next 8
  else if r.kind = 4 then rowL Jbp r.which ++ numL (r.what : Nat) 1
  else if r.kind = 5 then rowL Jbp r.which ++ numL (r.new : Nat) 4
  else []
def Jlj (r : RecM) : List Value := if r.kind = 1 then Jbd r.sl r.sd else []
def Jli (r : RecM) : List Value := if r.kind = 1 ∨ r.kind = 5 then rowL Jc5 r.to ++ Jbe r.content else []
def Jdl (r : RecM) : List Value := Jj4 r ++ Jlk r ++ Jlj r ++ Jli r
structure BAt (σ τ : St) (W PW R vB FB vR : Nat) (r : RecM) (s : RecS) (c : List Value) : Prop where
  wr : Wr τ W c
  pw : τ.get PW = some (.cells true vB FB [.pointer (some ⟨W, 0, none⟩)])
  rc : τ.get R = some (.cells true vR R (Jah r s))
  pwn : PW < τ.next
  rn : R < τ.next
  pwo : ¬ OwnB τ W PW
  ro : ¬ OwnB τ W R
  new : WNew W σ τ
theorem BAt.step {σ τ τ' : St} {W PW R vB FB vR : Nat} {r : RecM} {s : RecS} {c c' : List Value} (h : BAt σ τ W PW R vB FB vR r s c) (w : Wr τ' W c') (k : Jbm W τ τ') : BAt σ τ' W PW R vB FB vR r s c' :=
  ⟨w, (k.get PW h.pwn h.pwo).1.trans h.pw, (k.get R h.rn h.ro).1.trans h.rc, Nat.lt_of_lt_of_le h.pwn k.next, Nat.lt_of_lt_of_le h.rn k.next, (k.get PW h.pwn h.pwo).2, (k.get R h.rn h.ro).2, h.new.step k⟩
theorem BAt.bump {σ τ : St} {W PW R vB FB vR n : Nat} {r : RecM} {s : RecS} {c : List Value} (h : BAt σ τ W PW R vB FB vR r s c) : BAt σ (τ.bump n) W PW R vB FB vR r s c := h.step h.wr.bump (Jbm.bump W n τ)
theorem Jhr {σ τ : St} {W PW R vB FB vR : Nat} {r : RecM} {s : RecS} {c : List Value} (h : BAt σ τ W PW R vB FB vR r s c) (hw0 : σ.Wf) (hs : SlR σ s.which 1 (r.which.map Ja8)) (hl : r.which.length ≤ 150) (hc : c.length < 100000000) :
    TF Tryz.prog [] 101 #[.pointer (some ⟨PW, 0, none⟩), .pointer (some ⟨R, 0, none⟩)] τ fun v τ' => v = .tuple #[] ∧ Wr τ' W (c ++ rowL Jbp r.which) ∧ Jbm W τ τ' := by
  refine TF.walkC (Jaf _) Jae Tryz.func101 (by kernel_rfl) (by show 2 ≤ 7; decide) fun c hc => ?_
  cases hc
  obtain ⟨b3, k3, e3⟩ := hs.shape
  obtain ⟨x0, x1, x2, x3, x5, x6, x7, x8, x9, x10, x11, x12, x13⟩ := Jb7 h.rc
  have y9 := x9
  rw [e3] at y9
  simp (maxSteps := 1000000) (disch := first | omega | decide +kernel | (simp only [symN] <;> omega) | assumption) only [Tryz.f101, Jaa, Jac, reduceIte, Nat.reduceEqDiff, Nat.reduceAdd, Nat.reduceMul, h.pw, y9]
  rw [Jak, ← e3]
  have hb := h.bump (n := 5)
  refine TF.mono_of (Jsp r.which s.which σ _ hw0 hs hb.new hb.wr PW hb.pw hb.pwn hb.pwo hl hc) ?_
  rintro _ τ2 ⟨rfl, w1, k1⟩
  simp (maxSteps := 1000000) (disch := first | omega | decide +kernel | (simp only [symN] <;> omega) | assumption) only [Jaa, Jac, reduceIte, Nat.reduceEqDiff, Nat.reduceAdd, Nat.reduceMul]
  exact ⟨trivial, w1, (Jbm.bump W 5 τ).trans k1⟩
end Go.Proofs
namespace Go.Proofs
open Go.Shelf
def Jgv : Go.Shelf.Ren := ⟨fun | 160 => 292 | 232 => 309 | 231 => 308 | 227 => 310 | 234 => 312 | 233 => 311 | 236 => 314 | 235 => 313 | 228 => 324 | 271 => 326 | 151 => 325 | 197 => 274 | 120 => 334 | 152 => 333 | 260 => 302 | 137 => 339 | 119 => 340 | 224 => 321 | 225 => 320 | 217 => 319 | 266 => 327 | n => n, fun | 9 => 9 | 4 => 4 | 3 => 3 | 5 => 5 | 117 => 334 | 116 => 333 | 0 => 0 | 124 => 337 | 21 => 21 | 105 => 303 | 46 => 196 | 119 => 341 | 139 => 344 | 138 => 343 | n => n, fun | 3 => 4 | 4 => 5 | n => n⟩
theorem Jsv : Go.Proofs.Lays.n160 Tryz.prog Jgv := {
  mixed := by kernel_rfl
  f119 := Tryz.func340.trans (congrArg some (by kernel_rfl))
  f120 := Tryz.func334.trans (congrArg some (by kernel_rfl))
  f137 := Tryz.func339.trans (congrArg some (by kernel_rfl))
  f151 := Tryz.func325.trans (congrArg some (by kernel_rfl))
  f152 := Tryz.func333.trans (congrArg some (by kernel_rfl))
  f160 := Tryz.func292.trans (congrArg some (by kernel_rfl))
  f197 := Tryz.func274.trans (congrArg some (by kernel_rfl))
  f217 := Tryz.func319.trans (congrArg some (by kernel_rfl))
  f224 := Tryz.func321.trans (congrArg some (by kernel_rfl))
  f225 := Tryz.func320.trans (congrArg some (by kernel_rfl))
  f227 := Tryz.func310.trans (congrArg some (by kernel_rfl))
  f228 := Tryz.func324.trans (congrArg some (by kernel_rfl))
  f231 := Tryz.func308.trans (congrArg some (by kernel_rfl))
  f232 := Tryz.func309.trans (congrArg some (by kernel_rfl))
  f233 := Tryz.func311.trans (congrArg some (by kernel_rfl))
  f234 := Tryz.func312.trans (congrArg some (by kernel_rfl))
  f235 := Tryz.func313.trans (congrArg some (by kernel_rfl))
  f236 := Tryz.func314.trans (congrArg some (by kernel_rfl))
  f260 := Tryz.func302.trans (congrArg some (by kernel_rfl))
  f266 := Tryz.func327.trans (congrArg some (by kernel_rfl))
  f271 := Tryz.func326.trans (congrArg some (by kernel_rfl))
  t0 := Tryz.underlying0
  a0 := Tryz.isAgg0
  z0 := Tryz.sizeOf0
  v0 := Tryz.zeroValue0
  t3 := Tryz.underlying3
  a3 := Tryz.isAgg3
  z3 := Tryz.sizeOf3
  v3 := Tryz.zeroValue3
  t4 := Tryz.underlying4
  a4 := Tryz.isAgg4
  z4 := Tryz.sizeOf4
  v4 := Tryz.zeroValue4
  t5 := Tryz.underlying5
  a5 := Tryz.isAgg5
  z5 := Tryz.sizeOf5
  v5 := Tryz.zeroValue5
  t9 := Tryz.underlying9
  a9 := Tryz.isAgg9
  z9 := Tryz.sizeOf9
  v9 := Tryz.zeroValue9
  t21 := Tryz.underlying21
  a21 := Tryz.isAgg21
  z21 := Tryz.sizeOf21
  v21 := Tryz.zeroValue21
  t46 := Tryz.underlying196
  a46 := Tryz.isAgg196
  z46 := Tryz.sizeOf196
  v46 := Tryz.zeroValue196
  t105 := Tryz.underlying303
  a105 := Tryz.isAgg303
  z105 := Tryz.sizeOf303
  v105 := Tryz.zeroValue303
  t116 := Tryz.underlying333
  a116 := Tryz.isAgg333
  z116 := Tryz.sizeOf333
  t117 := Tryz.underlying334
  a117 := Tryz.isAgg334
  z117 := Tryz.sizeOf334
  v117 := Tryz.zeroValue334
  t119 := Tryz.underlying341
  a119 := Tryz.isAgg341
  z119 := Tryz.sizeOf341
  t124 := Tryz.underlying337
  a124 := Tryz.isAgg337
  z124 := Tryz.sizeOf337
  v124 := Tryz.zeroValue337
  t138 := Tryz.underlying343
  a138 := Tryz.isAgg343
  z138 := Tryz.sizeOf343
  v138 := Tryz.zeroValue343
  t139 := Tryz.underlying344
  a139 := Tryz.isAgg344
  z139 := Tryz.sizeOf344
  v139 := Tryz.zeroValue344
  g3 := by kernel_rfl
  g4 := by kernel_rfl }
def Jf5 : Go.Shelf.Ren := ⟨fun | 138 => 249 | 195 => 287 | 218 => 288 | 143 => 289 | 219 => 306 | 217 => 319 | 225 => 320 | 224 => 321 | 267 => 322 | 266 => 327 | 314 => 328 | n => n, fun | 9 => 9 | 3 => 3 | 4 => 4 | 5 => 5 | 0 => 0 | 46 => 196 | 146 => 245 | 51 => 22 | n => n, fun | 1 => 1 | n => n⟩
theorem Jpr : Go.Proofs.Lays.n138 Tryz.prog Jf5 := {
  mixed := by kernel_rfl
  f138 := Tryz.func249.trans (congrArg some (by kernel_rfl))
  f143 := Tryz.func289.trans (congrArg some (by kernel_rfl))
  f195 := Tryz.func287.trans (congrArg some (by kernel_rfl))
  f217 := Tryz.func319.trans (congrArg some (by kernel_rfl))
  f218 := Tryz.func288.trans (congrArg some (by kernel_rfl))
  f219 := Tryz.func306.trans (congrArg some (by kernel_rfl))
  f224 := Tryz.func321.trans (congrArg some (by kernel_rfl))
  f225 := Tryz.func320.trans (congrArg some (by kernel_rfl))
  f266 := Tryz.func327.trans (congrArg some (by kernel_rfl))
  f267 := Tryz.func322.trans (congrArg some (by kernel_rfl))
  f314 := Tryz.func328.trans (congrArg some (by kernel_rfl))
  t0 := Tryz.underlying0
  a0 := Tryz.isAgg0
  z0 := Tryz.sizeOf0
  v0 := Tryz.zeroValue0
  t3 := Tryz.underlying3
  a3 := Tryz.isAgg3
  z3 := Tryz.sizeOf3
  v3 := Tryz.zeroValue3
  t4 := Tryz.underlying4
  a4 := Tryz.isAgg4
  z4 := Tryz.sizeOf4
  v4 := Tryz.zeroValue4
  t5 := Tryz.underlying5
  a5 := Tryz.isAgg5
  z5 := Tryz.sizeOf5
  v5 := Tryz.zeroValue5
  t9 := Tryz.underlying9
  a9 := Tryz.isAgg9
  z9 := Tryz.sizeOf9
  v9 := Tryz.zeroValue9
  t46 := Tryz.underlying196
  a46 := Tryz.isAgg196
  z46 := Tryz.sizeOf196
  v46 := Tryz.zeroValue196
  t51 := Tryz.underlying22
  a51 := Tryz.isAgg22
  z51 := Tryz.sizeOf22
  v51 := Tryz.zeroValue22
  t146 := Tryz.underlying245
  a146 := Tryz.isAgg245
  z146 := Tryz.sizeOf245
  v146 := Tryz.zeroValue245
  g1 := by kernel_rfl }
def Jf4 : Go.Shelf.Ren := ⟨fun | 143 => 289 | 219 => 306 | 217 => 319 | 225 => 320 | 224 => 321 | 267 => 322 | 266 => 327 | 314 => 328 | n => n, fun | 9 => 9 | 3 => 3 | 4 => 4 | 5 => 5 | 46 => 196 | 146 => 245 | 51 => 22 | n => n, fun | 1 => 1 | n => n⟩
theorem Jpq : Go.Proofs.Lays.n143 Tryz.prog Jf4 := {
  mixed := by kernel_rfl
  f143 := Tryz.func289.trans (congrArg some (by kernel_rfl))
  f217 := Tryz.func319.trans (congrArg some (by kernel_rfl))
  f219 := Tryz.func306.trans (congrArg some (by kernel_rfl))
  f224 := Tryz.func321.trans (congrArg some (by kernel_rfl))
  f225 := Tryz.func320.trans (congrArg some (by kernel_rfl))
  f266 := Tryz.func327.trans (congrArg some (by kernel_rfl))
  f267 := Tryz.func322.trans (congrArg some (by kernel_rfl))
  f314 := Tryz.func328.trans (congrArg some (by kernel_rfl))
  t3 := Tryz.underlying3
  a3 := Tryz.isAgg3
  z3 := Tryz.sizeOf3
  v3 := Tryz.zeroValue3
  t4 := Tryz.underlying4
  a4 := Tryz.isAgg4
  z4 := Tryz.sizeOf4
  v4 := Tryz.zeroValue4
  t5 := Tryz.underlying5
  a5 := Tryz.isAgg5
  z5 := Tryz.sizeOf5
  v5 := Tryz.zeroValue5
  t9 := Tryz.underlying9
  a9 := Tryz.isAgg9
  z9 := Tryz.sizeOf9
  v9 := Tryz.zeroValue9
  t46 := Tryz.underlying196
  a46 := Tryz.isAgg196
  z46 := Tryz.sizeOf196
  v46 := Tryz.zeroValue196
  t51 := Tryz.underlying22
  a51 := Tryz.isAgg22
  z51 := Tryz.sizeOf22
  v51 := Tryz.zeroValue22
  t146 := Tryz.underlying245
  a146 := Tryz.isAgg245
  z146 := Tryz.sizeOf245
  v146 := Tryz.zeroValue245
  g1 := by kernel_rfl }
def Jgy : Go.Shelf.Ren := ⟨fun | 103 => 247 | 210 => 285 | 206 => 206 | n => n, fun | 9 => 9 | 4 => 4 | 24 => 283 | 3 => 3 | n => n, fun | n => n⟩
theorem Jsy : Go.Proofs.Lays.n103 Tryz.prog Jgy := {
  mixed := by kernel_rfl
  f103 := Tryz.func247.trans (congrArg some (by kernel_rfl))
  f206 := Tryz.func206.trans (congrArg some (by kernel_rfl))
  f210 := Tryz.func285.trans (congrArg some (by kernel_rfl))
  t3 := Tryz.underlying3
  a3 := Tryz.isAgg3
  z3 := Tryz.sizeOf3
  v3 := Tryz.zeroValue3
  t4 := Tryz.underlying4
  a4 := Tryz.isAgg4
  z4 := Tryz.sizeOf4
  v4 := Tryz.zeroValue4
  t9 := Tryz.underlying9
  a9 := Tryz.isAgg9
  z9 := Tryz.sizeOf9
  v9 := Tryz.zeroValue9
  t24 := Tryz.underlying283
  a24 := Tryz.isAgg283
  z24 := Tryz.sizeOf283
  v24 := Tryz.zeroValue283 }
def Jgx : Go.Shelf.Ren := ⟨fun | 104 => 248 | 211 => 286 | 207 => 296 | n => n, fun | 9 => 9 | 4 => 4 | 24 => 283 | 3 => 3 | n => n, fun | n => n⟩
theorem Jsx : Go.Proofs.Lays.n104 Tryz.prog Jgx := {
  mixed := by kernel_rfl
  f104 := Tryz.func248.trans (congrArg some (by kernel_rfl))
  f207 := Tryz.func296.trans (congrArg some (by kernel_rfl))
  f211 := Tryz.func286.trans (congrArg some (by kernel_rfl))
  t3 := Tryz.underlying3
  a3 := Tryz.isAgg3
  z3 := Tryz.sizeOf3
  v3 := Tryz.zeroValue3
  t4 := Tryz.underlying4
  a4 := Tryz.isAgg4
  z4 := Tryz.sizeOf4
  v4 := Tryz.zeroValue4
  t9 := Tryz.underlying9
  a9 := Tryz.isAgg9
  z9 := Tryz.sizeOf9
  v9 := Tryz.zeroValue9
  t24 := Tryz.underlying283
  a24 := Tryz.isAgg283
  z24 := Tryz.sizeOf283
  v24 := Tryz.zeroValue283 }
def Jgw : Go.Shelf.Ren := ⟨fun | 171 => 291 | 243 => 307 | 246 => 323 | 283 => 329 | 284 => 330 | 285 => 331 | 286 => 332 | 129 => 273 | 317 => 335 | 318 => 336 | 319 => 337 | 320 => 338 | 337 => 341 | 338 => 342 | n => n, fun | 3 => 3 | 9 => 9 | 2 => 2 | 4 => 4 | 171 => 356 | 0 => 0 | 53 => 110 | 37 => 32 | 5 => 5 | 173 => 358 | 212 => 362 | 51 => 22 | 20 => 20 | 213 => 363 | 46 => 196 | 232 => 365 | 233 => 366 | n => n, fun | 17 => 6 | 18 => 7 | 19 => 8 | n => n⟩
theorem Jsw : Go.Proofs.LaysM.n171 Tryz.prog Jgw := {
  mixed := by kernel_rfl
  f129 := Tryz.func273.trans (congrArg some (by kernel_rfl))
  f171 := Tryz.func291.trans (congrArg some (by kernel_rfl))
  f243 := Tryz.func307.trans (congrArg some (by kernel_rfl))
  f246 := Tryz.func323.trans (congrArg some (by kernel_rfl))
  f283 := Tryz.func329.trans (congrArg some (by kernel_rfl))
  f284 := Tryz.func330.trans (congrArg some (by kernel_rfl))
  f285 := Tryz.func331.trans (congrArg some (by kernel_rfl))
  f286 := Tryz.func332.trans (congrArg some (by kernel_rfl))
  f317 := Tryz.func335.trans (congrArg some (by kernel_rfl))
  f318 := Tryz.func336.trans (congrArg some (by kernel_rfl))
  f319 := Tryz.func337.trans (congrArg some (by kernel_rfl))
  f320 := Tryz.func338.trans (congrArg some (by kernel_rfl))
  f337 := Tryz.func341.trans (congrArg some (by kernel_rfl))
  f338 := Tryz.func342.trans (congrArg some (by kernel_rfl))
  t0 := Tryz.underlying0
  a0 := Tryz.isAgg0
  z0 := Tryz.sizeOf0
  v0 := Tryz.zeroValue0
  t2 := Tryz.underlying2
  a2 := Tryz.isAgg2
  z2 := Tryz.sizeOf2
  v2 := Tryz.zeroValue2
  t3 := Tryz.underlying3
  a3 := Tryz.isAgg3
  z3 := Tryz.sizeOf3
  v3 := Tryz.zeroValue3
  t4 := Tryz.underlying4
  a4 := Tryz.isAgg4
  z4 := Tryz.sizeOf4
  v4 := Tryz.zeroValue4
  t5 := Tryz.underlying5
  a5 := Tryz.isAgg5
  z5 := Tryz.sizeOf5
  v5 := Tryz.zeroValue5
  t9 := Tryz.underlying9
  a9 := Tryz.isAgg9
  z9 := Tryz.sizeOf9
  v9 := Tryz.zeroValue9
  t20 := Tryz.underlying20
  a20 := Tryz.isAgg20
  z20 := Tryz.sizeOf20
  v20 := Tryz.zeroValue20
  t37 := Tryz.underlying32
  a37 := Tryz.isAgg32
  z37 := Tryz.sizeOf32
  v37 := Tryz.zeroValue32
  t46 := Tryz.underlying196
  a46 := Tryz.isAgg196
  z46 := Tryz.sizeOf196
  v46 := Tryz.zeroValue196
  t51 := Tryz.underlying22
  a51 := Tryz.isAgg22
  z51 := Tryz.sizeOf22
  v51 := Tryz.zeroValue22
  t53 := Tryz.underlying110
  a53 := Tryz.isAgg110
  z53 := Tryz.sizeOf110
  v53 := Tryz.zeroValue110
  t171 := Tryz.underlying356
  a171 := Tryz.isAgg356
  z171 := Tryz.sizeOf356
  v171 := Tryz.zeroValue356
  t173 := Tryz.underlying358
  a173 := Tryz.isAgg358
  z173 := Tryz.sizeOf358
  v173 := Tryz.zeroValue358
  t212 := Tryz.underlying362
  a212 := Tryz.isAgg362
  z212 := Tryz.sizeOf362
  v212 := Tryz.zeroValue362
  t213 := Tryz.underlying363
  a213 := Tryz.isAgg363
  z213 := Tryz.sizeOf363
  t232 := Tryz.underlying365
  a232 := Tryz.isAgg365
  z232 := Tryz.sizeOf365
  v232 := Tryz.zeroValue365
  t233 := Tryz.underlying366
  a233 := Tryz.isAgg366
  z233 := Tryz.sizeOf366
  v233 := Tryz.zeroValue366
  g17 := by kernel_rfl
  g18 := by kernel_rfl
  g19 := by kernel_rfl
  i0 := by kernel_rfl
  i2 := by kernel_rfl
  i3 := by kernel_rfl
  i4 := by kernel_rfl
  i5 := by kernel_rfl
  i9 := by kernel_rfl
  i20 := by kernel_rfl
  i37 := by kernel_rfl
  i46 := by kernel_rfl
  i51 := by kernel_rfl
  i53 := by kernel_rfl
  i171 := by kernel_rfl
  i173 := by kernel_rfl
  i212 := by kernel_rfl
  i232 := by kernel_rfl
  i233 := by kernel_rfl
  m17 := by kernel_rfl
  m18 := by kernel_rfl
  m19 := by kernel_rfl }
end Go.Proofs
namespace Go.Proofs
open Go Go.Ev Go.RowKit
set_option maxRecDepth 100000
set_option linter.unusedSimpArgs false
set_option linter.unusedVariables false
def bStr (l : List UInt8) : ByteArray := ⟨l.toArray⟩
theorem Kmb {P : Program} {w : World} {name : String} {k : IntKind} {zs : List Int} (g : Nat) (hg : P.globalNamed name = some g) (h : ∃ t fr, w.heap[g]? = some (.cells (zs.map fun z => Value.int k z).toArray t fr)) : Lib.TabIs P w name k zs := by
  obtain ⟨t, fr, h⟩ := h
  unfold Lib.TabIs World.var?
  rw [hg]
  simp [h]
theorem Jkz (s : ByteArray) (c : UInt8) : Jai 249 [.string s, .string ⟨#[c]⟩] (.int .i64 (Lib.countByte s.data.toList c)) := fun σ =>
  SimF.of_below (f := 249) (args := #[.string s, .string ⟨#[c]⟩]) (fun w => by
    have h := Any.strings_Count_one Jpr s c w
    rw [show Jf5.f 138 = 249 from by kernel_rfl] at h
    exact h.mono fun e w' h => ⟨h.1, h.2 ▸ Below.refl _ _⟩) rfl rfl σ
theorem Js0 (s : ByteArray) (c : UInt8) : Jai 289 [.string s, .string ⟨#[c]⟩] (.int .i64 (Lib.indexByte s.data.toList c)) := fun σ =>
  SimF.of_below (f := 289) (args := #[.string s, .string ⟨#[c]⟩]) (fun w => by
    have h := Any.strings_Index_one Jpq s c w
    rw [show Jf4.f 143 = 289 from by kernel_rfl] at h
    exact h.mono fun e w' h => ⟨h.1, h.2 ▸ Below.refl _ _⟩) rfl rfl σ
theorem Jw0 (s p : ByteArray) : Jai 247 [.string s, .string p] (.tuple #[.string (bStr (Lib.trimPrefix s.data.toList p.data.toList)), .bool (Lib.hasPrefix s.data.toList p.data.toList)]) := fun σ =>
  SimF.of_below (f := 247) (args := #[.string s, .string p]) (fun w => by
    have h := Any.strings_CutPrefix Jsy s p w
    rw [show Jgy.f 103 = 247 from by kernel_rfl] at h
    exact h.mono fun e w' h => ⟨h.1, h.2 ▸ Below.refl _ _⟩) rfl rfl σ
theorem Jwz (s p : ByteArray) (hs : s.size < 9223372036854775807) : Jai 248 [.string s, .string p] (.tuple #[.string (bStr (Lib.trimSuffix s.data.toList p.data.toList)), .bool (Lib.hasSuffix s.data.toList p.data.toList)]) := fun σ =>
  SimF.of_below (f := 248) (args := #[.string s, .string p]) (fun w => by
    have h := Any.strings_CutSuffix Jsx s p w (by omega)
    rw [show Jgx.f 104 = 248 from by kernel_rfl] at h
    exact h.mono fun e w' h => ⟨h.1, h.2 ▸ Below.refl _ _⟩) rfl rfl σ
theorem Jmd (s p : ByteArray) (hs : s.size < 9223372036854775807) (hp : p.size < 1000) (ha : p.data.toList.all (fun b => decide (b.toNat < 128)) = true) : Jai 292 [.string s, .string p] (.string (bStr (Lib.trimS s.data.toList p.data.toList))) := fun σ =>
  SimF.of_below (f := 292) (args := #[.string s, .string p]) (fun w => by
    have h := Any.strings_Trim_laid Jsv (by kernel_rfl) s p w (by omega) (by omega) (fun j b hb => of_decide_eq_true (List.all_eq_true.1 ha b (List.mem_of_getElem? hb)))
    rw [show Jgv.f 160 = 292 from by kernel_rfl] at h
    exact h) rfl rfl σ
theorem Jvd (n : Nat) (hn : n < 1000000) : Jai 291 [.int .i64 (n : Nat)] (.string (bStr (Lib.decDigits n))) := fun σ =>
  SimF.of_below_tab (f := 291) (args := #[.int .i64 (n : Nat)]) (fun w ht => by
    have h := Any.strconv_Itoa Jsw (n : Int) (by omega) (by omega) w (Kmb 6 (by kernel_rfl) (by
      obtain ⟨t, fr, h⟩ := ht _ (List.mem_cons_self ..)
      refine ⟨t, fr, h.trans ?_⟩
      congr 3))
    rw [show Jgw.f 171 = 291 from by kernel_rfl] at h
    refine h.mono fun e w' h => ?_
    obtain ⟨h1, k, os, rfl⟩ := h
    have e1 : Lib.itoa (n : Int) = Lib.decDigits n := by unfold Lib.itoa; rw [if_neg (by omega)]; rfl
    rw [e1] at h1
    refine ⟨h1, ⟨rfl, rfl, rfl, by simp [Sort.grow, World.drewN], fun b hb => ?_⟩⟩
    simp only [Sort.grow, World.drewN]
    rw [Array.getElem?_append_left hb]) rfl rfl σ
end Go.Proofs
namespace Go.Proofs
def Jmn (c : UInt8) : Bool := (decide (97 ≤ c.toNat) && decide (c.toNat ≤ 122)) || (decide (65 ≤ c.toNat) && decide (c.toNat ≤ 90)) || (decide (48 ≤ c.toNat) && decide (c.toNat ≤ 57)) || decide (c.toNat = 45)
def Ja0 : List UInt8 → List (List UInt8)
  | [] => [[]]
  | c :: l => if c.toNat = 46 then [] :: Ja0 l else match Ja0 l with
    | [] => [[c]]
    | p :: r => (c :: p) :: r
def Ka6 (o : Option UInt8) : Bool := match o with
  | some c => decide (c.toNat = 45)
  | none => false
def Jh4 (p : List UInt8) : Bool := !p.isEmpty && !Ka6 p.head? && !Ka6 p.getLast?
def Jdg (p : List UInt8) : Bool := p.all Jmn && Jh4 p
def Jkj (p : List UInt8) : Bool := decide (63 < p.length)
def Jh3 (s : List UInt8) : Nat := if (Ja0 s).all Jdg then (if decide (255 < s.length) || (Ja0 s).any Jkj then 3 else 0) else 5
def glue (cur : List UInt8) : List (List UInt8) → List (List UInt8)
  | [] => [cur]
  | p :: r => (cur ++ p) :: r
theorem Jc6 (s : List UInt8) : Ja0 s ≠ [] := by
  cases s with
  | nil => simp [Ja0]
  | cons c l =>
    unfold Ja0
    split
    · simp
    · split <;> simp
def refD (cur : List UInt8) : List UInt8 → Bool → Nat
  | [], long => if Jh4 cur then (if long || Jkj cur then 3 else 0) else 5
  | c :: r, long => if c.toNat = 46 then (if Jh4 cur then refD [] r (long || Jkj cur) else 5) else if Jmn c then refD (cur ++ [c]) r long else 5
theorem Jxx : ∀ (s cur : List UInt8) (long : Bool), cur.all Jmn = true → refD cur s long = if (glue cur (Ja0 s)).all Jdg then (if long || (glue cur (Ja0 s)).any Jkj then 3 else 0) else 5
  | [], cur, long, hc => by simp [refD, Ja0, glue, Jdg, hc]
  | c :: r, cur, long, hc => by
    unfold refD
    by_cases h : c.toNat = 46
    · rw [if_pos h]
      have e : Ja0 (c :: r) = [] :: Ja0 r := by rw [Ja0, if_pos h]
      rw [e]
      have ih := Jxx r [] (long || Jkj cur) rfl
      have eg : glue [] (Ja0 r) = Ja0 r := by
        cases hs : Ja0 r with
        | nil => exact absurd hs (Jc6 r)
        | cons p q => simp [glue]
      rw [eg] at ih
      rw [ih]
      simp only [glue, List.append_nil, List.all_cons, List.any_cons, Jdg, hc, Bool.true_and]
      cases Jh4 cur <;> simp [Bool.or_assoc]
    · rw [if_neg h]
      have e : ∃ p q, Ja0 r = p :: q ∧ Ja0 (c :: r) = (c :: p) :: q := by
        cases hs : Ja0 r with
        | nil => exact absurd hs (Jc6 r)
        | cons p q => exact ⟨p, q, rfl, by rw [Ja0, if_neg h, hs]⟩
      obtain ⟨p, q, e1, e2⟩ := e
      rw [e2]
      cases hh : Jmn c with
      | false =>
        simp [glue, Jdg, List.all_append, hh]
      | true =>
        have ih := Jxx r (cur ++ [c]) long (by simp [List.all_append, hh]; simpa using hc)
        rw [e1] at ih
        simp only [glue, List.append_assoc, List.cons_append, List.nil_append] at ih ⊢
        rw [if_pos trivial]
        exact ih
theorem Kbx (s : List UInt8) : refD [] s (decide (255 < s.length)) = Jh3 s := by
  rw [Jxx s [] _ rfl]
  have eg : glue [] (Ja0 s) = Ja0 s := by
    cases hs : Ja0 s with
    | nil => exact absurd hs (Jc6 s)
    | cons p q => simp [glue]
  rw [eg, Jh3]
end Go.Proofs
namespace Go.Proofs
open Go Go.Ev
set_option maxRecDepth 100000
set_option linter.unusedSimpArgs false
set_option linter.unusedVariables false
set_option maxHeartbeats 4000000
theorem Jbh (l : List UInt8) : (bStr l).size = l.length := by simp [bStr, ByteArray.size]
theorem Jax (l : List UInt8) : (bStr l).data.toList = l := by simp [bStr]
theorem Jr7 {a b : List UInt8} : (bStr a = bStr b) = (a = b) := propext ⟨fun h => by rw [← Jax a, h, Jax], fun h => by rw [h]⟩
theorem Jkp (s : ByteArray) : bStr s.data.toList = s := by simp [bStr]
theorem Jeq (l : List UInt8) : (bStr l = ({ data := #[] } : ByteArray)) = (l = []) := Jr7 (b := [])
theorem Jhg {α : Type} {p : α → Bool} : ∀ {l : List α}, l.dropWhile p = [] ↔ ∀ x ∈ l, p x = true
  | [] => by simp
  | a :: l => by
    rw [List.dropWhile_cons]
    by_cases h : p a = true
    · rw [if_pos h, Jhg]; simp [h]
    · rw [if_neg h]; simp [h]
theorem Jf1 (l cs : List UInt8) : (Lib.trimS l cs = []) ↔ l.all (cs.contains ·) = true := by
  unfold Lib.trimS Lib.trimLeftS Lib.trimRightS
  constructor
  · intro h
    rw [List.all_eq_true]
    intro x hx
    have h1 := Jhg.1 h
    by_cases hin : x ∈ (l.reverse.dropWhile (cs.contains ·)).reverse
    · exact h1 x hin
    · have hr : l.reverse = l.reverse.takeWhile (cs.contains ·) ++ l.reverse.dropWhile (cs.contains ·) := List.takeWhile_append_dropWhile.symm
      have hxr : x ∈ l.reverse := List.mem_reverse.2 hx
      rw [hr, List.mem_append] at hxr
      rcases hxr with k | k
      · exact List.all_eq_true.1 List.all_takeWhile x k
      · exact (hin (List.mem_reverse.2 k)).elim
  · intro h
    rw [List.all_eq_true] at h
    have : l.reverse.dropWhile (cs.contains ·) = [] := Jhg.2 fun x hx => h x (List.mem_reverse.1 hx)
    rw [this]; rfl
def Jq3 : List UInt8 := [97, 98, 99, 100, 101, 102, 103, 104, 105, 106, 107, 108, 109, 110, 111, 112, 113, 114, 115, 116, 117, 118, 119, 120, 121, 122, 65, 66, 67, 68, 69, 70, 71, 72, 73, 74, 75, 76, 77, 78, 79, 80, 81, 82, 83, 84, 85, 86, 87, 88, 89, 90, 48, 49, 50, 51, 52, 53, 54, 55, 56, 57, 45]
theorem Kno (c : UInt8) : Jq3.contains c = Jmn c := by
  have : ∀ n : Nat, n < 256 → Jq3.contains (UInt8.ofNat n) = Jmn (UInt8.ofNat n) := by decide +kernel
  have h := this c.toNat c.toNat_lt
  rwa [UInt8.ofNat_toNat] at h
theorem Jsz (p : List UInt8) (hp : p.length < 1000000000) : Jai 251 [.string (bStr p)] (.bool (Jdg p)) := by
  refine Ja6 rfl rfl (TF.walk (Jaf _) Jae Tryz.func251 (by kernel_rfl) rfl fun c hc => ?_)
  cases hc
  cases p with
  | nil => simp (maxSteps := 1000000) (disch := first | omega | decide +kernel | (simp only [symN] <;> omega) | assumption) only [Tryz.f251, Jaa, Jac, reduceIte, Nat.reduceEqDiff, Nat.reduceAdd, Nat.reduceMul, eqS, Jeq, decide_true, Jdg, Jh4, List.isEmpty_nil, List.all_nil, Bool.true_and, Bool.not_true, Bool.false_and]
  | cons c0 p =>
  have ne : (c0 :: p = []) = False := eq_false (by simp)
  simp (maxSteps := 1000000) (disch := first | omega | decide +kernel | (simp only [symN] <;> omega) | assumption) only [Tryz.f251, Jaa, Jac, reduceIte, Nat.reduceEqDiff, Nat.reduceAdd, Nat.reduceMul, eqS, Jeq, ne, decide_false]
  rw [Jak]
  refine TF.of (Jmd (bStr (c0 :: p)) (bStr Jq3) (by rw [Jbh]; omega) (by rw [Jbh]; decide) (by rw [Jax]; decide) _) ?_
  rw [Jax, Jax]
  have hall : (c0 :: p).all (Jq3.contains ·) = (c0 :: p).all Jmn := by
    congr 1; funext c; exact Kno c
  by_cases h1 : (c0 :: p).all Jmn = true
  case neg =>
    have ht : (Lib.trimS (c0 :: p) Jq3 = []) = False := eq_false fun h => h1 (by rw [← hall]; exact (Jf1 _ _).1 h)
    simp (maxSteps := 1000000) (disch := first | omega | decide +kernel | (simp only [symN] <;> omega) | assumption) only [Jaa, Jac, reduceIte, Nat.reduceEqDiff, Nat.reduceAdd, Nat.reduceMul, eqS, Jeq, ht, decide_false]
    simp [Jdg, h1]
  have ht : (Lib.trimS (c0 :: p) Jq3 = []) = True := eq_true ((Jf1 _ _).2 (by rw [hall]; exact h1))
  have i0 : (0 : Int) < ((bStr (c0 :: p)).size : Int) := by rw [Jbh]; simp
  have i1 : ((bStr (c0 :: p)).size : Int) = (p.length : Nat) + 1 := by rw [Jbh]; simp
  have iw : IntKind.i64.wrap (((p.length : Nat) : Int) + 1 - 1) = (p.length : Nat) := by
    rw [show ((p.length : Nat) : Int) + 1 - 1 = ((p.length + 1 : Nat) : Int) - ((1 : Nat) : Int) from by omega]
    exact Jjx (p.length + 1) 1 (by omega) (by simp at hp; omega)
  have e0 : ((c0 :: p).getD 0 0) = c0 := rfl
  have eL : ((c0 :: p).getD p.length 0) = (c0 :: p).getLast (by simp) := by
    rw [List.getLast_eq_getElem]; simp [List.getD]
  have hd : Ka6 (c0 :: p).head? = decide (c0.toNat = 45) := rfl
  have hl : Ka6 (c0 :: p).getLast? = decide (((c0 :: p).getLast (by simp)).toNat = 45) := by rw [List.getLast?_eq_some_getLast (by simp)]; rfl
  by_cases h2 : c0.toNat = 45
  · have h2' : ((c0.toNat : Int) = 45) = True := eq_true (by omega)
    simp (maxSteps := 1000000) (disch := first | omega | decide +kernel | (simp only [symN] <;> omega) | assumption) only [Jaa, Jac, reduceIte, Nat.reduceEqDiff, Nat.reduceAdd, Nat.reduceMul, eqS, Jeq, ht, Jax, i0, e0, h2']
    have hf : Jdg (c0 :: p) = false := by unfold Jdg Jh4; rw [hd, h2]; simp
    simp [hf]
  have h2' : ((c0.toNat : Int) = 45) = False := eq_false (by omega)
  have iz : (0 : Int) ≤ (p.length : Nat) := by omega
  have ib : ((p.length : Nat) : Int) < ((bStr (c0 :: p)).size : Int) := by rw [i1]; omega
  simp (maxSteps := 1000000) (disch := first | omega | decide +kernel | (simp only [symN] <;> omega) | assumption) only [Jaa, Jac, reduceIte, Nat.reduceEqDiff, Nat.reduceAdd, Nat.reduceMul, eqS, Jeq, ht, Jax, i0, e0, h2', i1, iw, iz, ib, eL]
  by_cases h3 : ((c0 :: p).getLast (by simp)).toNat = 45
  · have h3' : ((((c0 :: p).getLast (by simp)).toNat : Int) = 45) = True := eq_true (by omega)
    simp (maxSteps := 1000000) (disch := first | omega | decide +kernel | (simp only [symN] <;> omega) | assumption) only [Jaa, Jac, reduceIte, Nat.reduceEqDiff, Nat.reduceAdd, Nat.reduceMul, h3']
    have hf : Jdg (c0 :: p) = false := by unfold Jdg Jh4; rw [hl, h3]; simp
    simp [hf]
  · have h3' : ((((c0 :: p).getLast (by simp)).toNat : Int) = 45) = False := eq_false (by omega)
    simp (maxSteps := 1000000) (disch := first | omega | decide +kernel | (simp only [symN] <;> omega) | assumption) only [Jaa, Jac, reduceIte, Nat.reduceEqDiff, Nat.reduceAdd, Nat.reduceMul, h3', decide_false]
    have : Jdg (c0 :: p) = true := by unfold Jdg Jh4; rw [h1, hd, hl]; simp [h2, h3]
    simp [this]
theorem Jsg (p : List UInt8) : Jai 252 [.string (bStr p)] (.bool (!Jkj p)) := by
  refine Ja6 rfl rfl (TF.walk (Jaf _) Jae Tryz.func252 (by kernel_rfl) rfl fun c hc => ?_)
  cases hc
  have e : decide (((bStr p).size : Int) ≤ 63) = !Jkj p := by
    rw [Jbh, Jkj]; by_cases h : p.length ≤ 63
    · rw [decide_eq_true (by omega), decide_eq_false (by omega)]; rfl
    · rw [decide_eq_false (by omega), decide_eq_true (by omega)]; rfl
  simp (maxSteps := 1000000) (disch := first | omega | decide +kernel | (simp only [symN] <;> omega) | assumption) only [Tryz.f252, Jaa, Jac, reduceIte, Nat.reduceEqDiff, Nat.reduceAdd, Nat.reduceMul, e]
def digU (c : UInt8) : Bool := decide (48 ≤ c.toNat) && decide (c.toNat ≤ 57)
def numU (l : List UInt8) : Nat := l.foldl (fun n c => 10 * n + (c.toNat - 48)) 0
def Jjn (p : List UInt8) : Bool := !p.isEmpty && decide (p.length ≤ 3) && p.all digU
def numV (p : List UInt8) : Value := if Jjn p then .tuple #[.int .i64 (numU p : Nat), .int .i64 0] else .tuple #[.int .i64 0, .int .i64 5]
def Kcu : List UInt8 := [48, 49, 50, 51, 52, 53, 54, 55, 56, 57]
theorem Kq9 (c : UInt8) : Kcu.contains c = digU c := by
  have : ∀ n : Nat, n < 256 → Kcu.contains (UInt8.ofNat n) = digU (UInt8.ofNat n) := by decide +kernel
  have h := this c.toNat c.toNat_lt
  rwa [UInt8.ofNat_toNat] at h
theorem Jga {c : UInt8} (h : digU c = true) : 48 ≤ c.toNat ∧ c.toNat ≤ 57 := by simpa [digU] using h
theorem Jnt {p : List UInt8} (h : p.all digU = true) : ∀ i, i ≤ p.length → numU (p.take i) < 10 ^ i
  | 0, _ => by simp [numU]
  | i + 1, hi => by
    have ih := Jnt h i (by omega)
    have hd := Jga (List.all_eq_true.1 h (p[i]'(by omega)) (List.getElem_mem _))
    rw [List.take_succ_eq_append_getElem (by omega), numU, List.foldl_append]
    simp only [List.foldl_cons, List.foldl_nil]
    have e : List.foldl (fun n c => 10 * n + (c.toNat - 48)) 0 (p.take i) = numU (p.take i) := rfl
    rw [e, Nat.pow_succ]
    omega
theorem Jpo (p : List UInt8) (hp : p.length < 1000000000) : Jai 290 [.string (bStr p), .int .i64 3] (numV p) := by
  refine Ja6 rfl (by unfold numV; split <;> rfl) (TF.walk (Jaf _) Jae Tryz.func290 (by kernel_rfl) rfl fun c hc => ?_)
  cases hc
  by_cases h0 : p = []
  · have h0' := eq_true h0
    have hv : numV p = .tuple #[.int .i64 0, .int .i64 5] := by rw [numV, Jjn, h0]; rfl
    rw [hv]
    simp (maxSteps := 1000000) (disch := first | omega | decide +kernel | (simp only [symN] <;> omega) | assumption) only [Tryz.f290, Jaa, Jac, reduceIte, Nat.reduceEqDiff, Nat.reduceAdd, Nat.reduceMul, eqS, Jeq, h0']
  have h0' := eq_false h0
  have mm : max (1 : Int) (min 3 15) = 3 := by decide
  by_cases h1 : p.length ≤ 3
  case neg =>
    have h1' : (3 < ((bStr p).size : Int)) = True := eq_true (by rw [Jbh]; omega)
    have hv : numV p = .tuple #[.int .i64 0, .int .i64 5] := by rw [numV, Jjn, decide_eq_false h1]; simp
    rw [hv]
    simp (maxSteps := 1000000) (disch := first | omega | decide +kernel | (simp only [symN] <;> omega) | assumption) only [Tryz.f290, Jaa, Jac, reduceIte, Nat.reduceEqDiff, Nat.reduceAdd, Nat.reduceMul, eqS, Jeq, h0', mm, h1']
  have h1' : (3 < ((bStr p).size : Int)) = False := eq_false (by rw [Jbh]; omega)
  simp (maxSteps := 1000000) (disch := first | omega | decide +kernel | (simp only [symN] <;> omega) | assumption) only [Tryz.f290, Jaa, Jac, reduceIte, Nat.reduceEqDiff, Nat.reduceAdd, Nat.reduceMul, eqS, Jeq, h0', mm, h1']
  rw [Jak]
  refine TF.of (Jmd (bStr p) (bStr Kcu) (by rw [Jbh]; omega) (by rw [Jbh]; decide) (by rw [Jax]; decide) _) ?_
  rw [Jax, Jax]
  have hall : p.all (Kcu.contains ·) = p.all digU := by
    congr 1; funext c; exact Kq9 c
  by_cases h2 : p.all digU = true
  case neg =>
    have ht : (Lib.trimS p Kcu = []) = False := eq_false fun h => h2 (by rw [← hall]; exact (Jf1 _ _).1 h)
    have hv : numV p = .tuple #[.int .i64 0, .int .i64 5] := by rw [numV, Jjn]; simp only [Bool.not_eq_true] at h2; rw [h2]; simp
    rw [hv]
    simp (maxSteps := 1000000) (disch := first | omega | decide +kernel | (simp only [symN] <;> omega) | assumption) only [Jaa, Jac, reduceIte, Nat.reduceEqDiff, Nat.reduceAdd, Nat.reduceMul, eqS, Jeq, ht, h0', mm, h1']
  have ht : (Lib.trimS p Kcu = []) = True := eq_true ((Jf1 _ _).2 (by rw [hall]; exact h2))
  have hv : numV p = .tuple #[.int .i64 (numU p : Nat), .int .i64 0] := by
    have : Jjn p = true := by unfold Jjn; rw [h2, decide_eq_true h1]; cases p with
      | nil => exact absurd rfl h0
      | cons _ _ => rfl
    rw [numV, this]; rfl
  rw [hv]
  simp (maxSteps := 1000000) (disch := first | omega | decide +kernel | (simp only [symN] <;> omega) | assumption) only [Jaa, Jac, reduceIte, Nat.reduceEqDiff, Nat.reduceAdd, Nat.reduceMul, eqS, Jeq, ht, h0', mm, h1']
  refine Jay (Jaf _) Jae (fun kk env τ => ∃ i A v F, i + kk = p.length ∧ eget env 25 = .slice (some ⟨A, 0, none⟩) p.length 2 ∧ eget env 26 = .int .i64 (p.length : Nat) ∧ eget env 27 = .int .i64 (i : Nat) ∧ eget env 6 = .int .i64 (numU (p.take i) : Nat) ∧ τ.get A = some (.cells true v F (p.map Jib))) (n := p.length) (by kernel_rfl) ?_ ?_
  · exact ⟨0, 1019, 0, 1019, by omega, by simp [Jab, Jbh], by simp [Jab, Jbh], by simp [Jab], by simp [Jab, numU], by simp [bytesOf, Jax]⟩
  rintro kk env τ ⟨i, A, v, F, hi, e25, e26, e27, e6, hA⟩
  cases kk with
  | zero =>
    have hlt : ((i : Int) < (p.length : Int)) = False := eq_false (by omega)
    rw [List.take_of_length_le (by omega)] at e6
    simp (maxSteps := 1000000) (disch := first | omega | decide +kernel | (simp only [symN] <;> omega) | assumption) only [Jaa, Jac, reduceIte, Nat.reduceEqDiff, Nat.reduceAdd, Nat.reduceMul, e25, e26, e27, e6, hlt, decide_false]
  | succ kk =>
    have hil : i < p.length := by omega
    have hlt : ((i : Int) < (p.length : Int)) = True := eq_true (by omega)
    have hrd : ∀ m, rdG (τ.bump m) (τ.get A) i 1 = some [.int .u8 (p[i].toNat : Nat)] := fun m => by
      rw [hA, Jxy]
      exact Kps (by simp [hil, Jib])
    have hd := Jga (List.all_eq_true.1 h2 p[i] (List.getElem_mem hil))
    have hacc := Jnt h2 i (by omega)
    have hacc2 : numU (p.take i) < 1000 := Nat.lt_of_lt_of_le hacc (by
      have : (10 : Nat) ^ i ≤ 10 ^ 3 := Nat.pow_le_pow_right (by decide) (by omega)
      exact this)
    have htk : numU (p.take (i + 1)) = 10 * numU (p.take i) + (p[i].toNat - 48) := by
      rw [List.take_succ_eq_append_getElem hil, numU, List.foldl_append]; rfl
    obtain ⟨d, hdd⟩ : ∃ d, d = p[i].toNat - 48 := ⟨_, rfl⟩
    obtain ⟨acc, hac⟩ : ∃ acc, acc = numU (p.take i) := ⟨_, rfl⟩
    rw [← hdd, ← hac] at htk
    rw [← hac] at e6 hacc2
    have w1 : IntKind.i64.wrap (10 * (acc : Int)) = ((10 * acc : Nat) : Int) := Ke6 10 acc (by omega)
    have w2 : IntKind.u8.wrap ((p[i].toNat : Int) - 48) = (d : Nat) := by
      rw [show ((p[i].toNat : Int) - 48) = (d : Nat) from by omega]
      exact Jbf .u8 d (show d < 256 by omega)
    have w3 : IntKind.i64.wrap (d : Int) = (d : Nat) := Jbf .i64 d (show d < 9223372036854775808 by omega)
    have w4 : IntKind.i64.wrap (((10 * acc : Nat) : Int) + (d : Int)) = ((10 * acc + d : Nat) : Int) := Jbt _ _ (by omega)
    have w5 : IntKind.i64.wrap ((i : Int) + 1) = ((i + 1 : Nat) : Int) := Jbt i 1 (by omega)
    simp (maxSteps := 1000000) (disch := first | omega | decide +kernel | (simp only [symN] <;> omega) | assumption) only [Jaa, Jac, reduceIte, Nat.reduceEqDiff, Nat.reduceAdd, Nat.reduceMul, e25, e26, e27, e6, hlt, decide_true, hrd, w1, w2, w3, w4, w5]
    exact ⟨kk, by omega, i + 1, A, v, F, by omega, rfl, trivial, rfl, by rw [htk], by simp [hA]⟩
def Jf8 (p : List UInt8) : Bool := Jjn p && decide (numU p < 256) && decide (Lib.decDigits (numU p) = p)
theorem Jst (p : List UInt8) (hp : p.length < 1000000000) : Jai 250 [.string (bStr p)] (.bool (Jf8 p)) := by
  refine Ja6 rfl rfl (TF.walk (Jaf _) Jae Tryz.func250 (by kernel_rfl) rfl fun c hc => ?_)
  cases hc
  simp (maxSteps := 1000000) (disch := first | omega | decide +kernel | (simp only [symN] <;> omega) | assumption) only [Tryz.f250, Jaa, Jac, reduceIte, Nat.reduceEqDiff, Nat.reduceAdd, Nat.reduceMul]
  rw [Jak]
  refine TF.of (Jpo p hp _) ?_
  cases h1 : Jjn p with
  | false =>
    have hv : numV p = .tuple #[.int .i64 0, .int .i64 5] := by rw [numV, h1]; rfl
    have z : ((5 : Int) = 0) = False := eq_false (by omega)
    rw [hv]
    simp (maxSteps := 1000000) (disch := first | omega | decide +kernel | (simp only [symN] <;> omega) | assumption) only [Jaa, Jac, reduceIte, Nat.reduceEqDiff, Nat.reduceAdd, Nat.reduceMul, z, decide_false]
    simp [Jf8, h1]
  | true =>
    have hv : numV p = .tuple #[.int .i64 (numU p : Nat), .int .i64 0] := by rw [numV, h1]; rfl
    rw [hv]
    by_cases h2 : numU p < 256
    case neg =>
      have h2' : ((numU p : Int) < 256) = False := eq_false (by omega)
      simp (maxSteps := 1000000) (disch := first | omega | decide +kernel | (simp only [symN] <;> omega) | assumption) only [Jaa, Jac, reduceIte, Nat.reduceEqDiff, Nat.reduceAdd, Nat.reduceMul, h2', decide_false]
      simp [Jf8, h2]
    have h2' : ((numU p : Int) < 256) = True := eq_true (by omega)
    simp (maxSteps := 1000000) (disch := first | omega | decide +kernel | (simp only [symN] <;> omega) | assumption) only [Jaa, Jac, reduceIte, Nat.reduceEqDiff, Nat.reduceAdd, Nat.reduceMul, h2', decide_false]
    rw [Jak]
    refine TF.of (Jvd (numU p) (by omega) _) ?_
    simp (maxSteps := 1000000) (disch := first | omega | decide +kernel | (simp only [symN] <;> omega) | assumption) only [Jaa, Jac, reduceIte, Nat.reduceEqDiff, Nat.reduceAdd, Nat.reduceMul, eqS, Jr7]
    simp [Jf8, h1, h2]
set_option linter.defProp false
theorem Jko (l : List UInt8) (a b : Nat) : (bStr l).extract a b = bStr ((l.take b).drop a) := by
  rw [← Jkp ((bStr l).extract a b)]
  congr 1
  simp [bStr, ByteArray.data_extract, List.extract_eq_take_drop, List.drop_take]
theorem Jhh (l : List UInt8) : Lib.countByte l 46 + 1 = (Ja0 l).length := by
  unfold Lib.countByte
  induction l with
  | nil => rfl
  | cons c l ih =>
    by_cases h : c.toNat = 46
    · have hc : c = 46 := by rw [← UInt8.ofNat_toNat (x := c), h]; rfl
      rw [Ja0, if_pos h, hc]
      simp only [List.count_cons_self, List.length_cons, ih]
    · have hc : ¬ (c = 46) := fun e => h (by rw [e]; rfl)
      rw [Ja0, if_neg h, List.count_cons_of_ne (fun e => hc e)]
      cases hs : Ja0 l with
      | nil => exact absurd hs (Jc6 l)
      | cons p q => rw [hs] at ih; simpa using ih
theorem Jn0 (l : List UInt8) : (Lib.indexByte l 46 = -1 ∧ Ja0 l = [l]) ∨ ∃ k : Nat, Lib.indexByte l 46 = (k : Int) ∧ k < l.length ∧ Ja0 l = l.take k :: Ja0 (l.drop (k + 1)) := by
  induction l with
  | nil => exact .inl ⟨rfl, rfl⟩
  | cons c l ih =>
    by_cases h : c.toNat = 46
    · have hc : c = 46 := by rw [← UInt8.ofNat_toNat (x := c), h]; rfl
      right
      refine ⟨0, ?_, by simp, ?_⟩
      · rw [Lib.indexByte, hc]; rfl
      · rw [Ja0, if_pos h]; rfl
    · have hc : (c == 46) = false := by rw [beq_eq_false_iff_ne]; exact fun e => h (by rw [e]; rfl)
      rcases ih with ⟨h1, h2⟩ | ⟨k, h1, h2, h3⟩
      · left
        refine ⟨?_, ?_⟩
        · rw [Lib.indexByte, hc, h1]; rfl
        · rw [Ja0, if_neg h, h2]
      · right
        refine ⟨k + 1, ?_, by simp; omega, ?_⟩
        · rw [Lib.indexByte, hc, h1]
          have : (((k : Nat) : Int) == -1) = false := by rw [beq_eq_false_iff_ne]; omega
          rw [this]; simp
        · rw [Ja0, if_neg h, h3]; simp
theorem SlR.ofCells {α : Type} {σ : St} {A n : Nat} {rows : List α} {f : α → Value} (h : σ.cells? A = some (rows.map f)) (hn : n = rows.length) : SlR σ (.slice (some ⟨A, 0, none⟩) n 2) 1 (rows.map fun p => [f p]) := by
  subst hn
  refine .inr ⟨A, 0, 2, _, by rw [List.length_map], h, fun i hi => ?_⟩
  have hi' : i < rows.length := by simpa using hi
  rw [Kps (v := f rows[i]) (by simp [hi'])]
  simp
def Jb3 (p : List UInt8) : Value := .string (bStr p)
def Kc9 := Jt3 (P := Tryz.prog) (t := 280) (e := 9) (z := .string ⟨#[]⟩) Jd3 (by kernel_rfl) (by kernel_rfl)
def Kc4 := Jg7 (P := Tryz.prog) (t := 280) Jd3 Jsi
def Kif := Jas (P := Tryz.prog) Tryz.func284 (by kernel_rfl) (by kernel_rfl)
theorem Jse {gl : List Nat} (l : List UInt8) (hl : l.length < 1000000000) (σ : St) :
    TF Tryz.prog gl 284 #[.string (bStr l), .string ⟨#[46]⟩, .int .i64 0, .int .i64 (-1)] σ fun v σ' => SlR σ' v 1 ((Ja0 l).map fun p => [Jb3 p]) ∧ Jad σ σ' := by
  refine TF.walk (Jaf _) Jae Tryz.func284 (by kernel_rfl) rfl fun c hc => ?_
  cases hc
  have z0 : ((-1 : Int) = 0) = False := eq_false (by omega)
  have z1 : ((-1 : Int) < 0) = True := eq_true (by omega)
  have ne : (({ data := #[46] } : ByteArray) = { data := #[] }) = False := eq_false (by intro h; have := congrArg ByteArray.size h; exact absurd this (by decide))
  simp (maxSteps := 1000000) (disch := first | omega | decide +kernel | (simp only [symN] <;> omega) | assumption) only [Tryz.f284, Jaa, Jac, reduceIte, Nat.reduceEqDiff, Nat.reduceAdd, Nat.reduceMul, eqS, z0, z1, ne]
  rw [Jak]
  refine TF.of ((Jkz (bStr l) 46 _).glob) ?_
  rw [Jax]
  have hcl := Jhh l
  have hcn : (Ja0 l).length ≤ l.length + 1 := by
    have : Lib.countByte l 46 ≤ l.length := List.count_le_length
    omega
  obtain ⟨n, hn⟩ : ∃ n, n = (Ja0 l).length := ⟨_, rfl⟩
  have hn1 : 1 ≤ n := by rw [hn, ← hcl]; omega
  have w1 : IntKind.i64.wrap ((Lib.countByte l 46 : Int) + 1) = (n : Nat) := by
    rw [hn, ← hcl]; exact Jbt _ 1 (by omega)
  have w2 : IntKind.i64.wrap (((bStr l).size : Int) + 1) = ((l.length + 1 : Nat) : Int) := by
    rw [Jbh]; exact Jbt _ 1 (by omega)
  have w3 : min (n : Int) ((l.length + 1 : Nat) : Int) = (n : Nat) := by omega
  have w4 : IntKind.i64.wrap ((n : Int) - 1) = ((n - 1 : Nat) : Int) := Jjx n 1 hn1 (by omega)
  have hmk := fun (id : Nat) (τ : St) => Kc9 id n .i64 .i64 τ (by omega)
  simp (maxSteps := 1000000) (disch := first | omega | decide +kernel | (simp only [symN] <;> omega) | assumption) only [Jaa, Jac, reduceIte, Nat.reduceEqDiff, Nat.reduceAdd, Nat.reduceMul, w1, w2, w3, w4, hmk]
  refine Jay (Jaf _) Jae (fun kk env τ => ∃ done r A v F, Ja0 l = done ++ Ja0 r ∧ done.length + kk + 1 = n ∧ r.length ≤ l.length ∧ eget env 0 = .string (bStr r) ∧ eget env 1 = .string ⟨#[46]⟩ ∧ eget env 2 = .int .i64 0 ∧ eget env 3 = .int .i64 ((n - 1 : Nat) : Int) ∧ eget env 9 = .slice (some ⟨A, 0, none⟩) n 2 ∧ eget env 10 = .int .i64 (done.length : Nat) ∧ A < τ.next ∧ σ.next ≤ A ∧ τ.get A = some (.cells true v F (done.map Jb3 ++ List.replicate (n - done.length) (.string ⟨#[]⟩))) ∧ Jad σ τ) (n := n - 1) (by kernel_rfl) ?_ ?_
  · refine ⟨[], l, σ.next + 18 + 1, 0, σ.next + 18 + 1, rfl, by simp; omega, Nat.le_refl _, by simp [Jab], by simp [Jab], by simp [Jab], by simp [Jab], by simp [Jab], by simp [Jab], by simp <;> omega, by omega, by simp, by refine (Jad.set (Jad.bump (n := 21)) ?_).bump'; omega⟩
  rintro kk env τ ⟨done, r, A, v, F, hsp, hk, hr, e0, e1, e2, e3, e9, e10, hAn, hAs, hA, hK⟩
  obtain ⟨C, hC⟩ : ∃ C, C = done.map Jb3 ++ List.replicate (n - done.length) (Value.string ⟨#[]⟩) := ⟨_, rfl⟩
  rw [← hC] at hA
  have hCl : C.length = n := by rw [hC]; simp; omega
  have hlay : ∀ x, lay C done.length [x] = done.map Jb3 ++ x :: List.replicate (n - (done.length + 1)) (Value.string ⟨#[]⟩) := fun x => by
    rw [hC, show n - done.length = (n - (done.length + 1)) + 1 from by omega, List.replicate_succ]
    have := Kfd (a := done.map Jb3) (r := List.replicate (n - (done.length + 1)) (Value.string ⟨#[]⟩)) (z := Value.string ⟨#[]⟩) (x := x)
    rw [List.length_map] at this
    exact this
  have w5 : IntKind.i64.wrap ((done.length : Int) + 1) = ((done.length + 1 : Nat) : Int) := Jbt _ 1 (by omega)
  have hlen : n = done.length + (Ja0 r).length := by rw [hn, hsp, List.length_append]
  cases kk with
  | zero =>
    have hlt : ((done.length : Int) < ((n - 1 : Nat) : Int)) = False := eq_false (by omega)
    have hs1 : Ja0 r = [r] := by
      rcases Jn0 r with ⟨_, h⟩ | ⟨k, _, _, h⟩
      · exact h
      · have := List.length_pos_iff.2 (Jc6 (r.drop (k + 1)))
        rw [h] at hlen; simp at hlen; omega
    have ia : (done.length : Int) < (n : Int) := by omega
    have ib : (0 : Int) ≤ ((done.length : Nat) : Int) := by omega
    simp (maxSteps := 1000000) (disch := first | omega | decide +kernel | (simp only [symN] <;> omega) | assumption) only [Jaa, Jac, reduceIte, Nat.reduceEqDiff, Nat.reduceAdd, Nat.reduceMul, e0, e1, e2, e3, e9, e10, hlt, decide_false, hA, w5, Kc4, hlay, hCl]
    have hn0 : n - (done.length + 1) = 0 := by omega
    rw [hn0, List.replicate_zero]
    refine ⟨SlR.ofCells (f := Jb3) (Jum (ver := v + 1) (F := F) ?_) (by rw [← hn]; omega), ((hK.bump').set hAs).bump'⟩
    rw [hsp, hs1]
    simp [Jb3]
  | succ kk =>
    have hlt : ((done.length : Int) < ((n - 1 : Nat) : Int)) = True := eq_true (by omega)
    rcases Jn0 r with ⟨_, h⟩ | ⟨k, hk1, hk2, hk3⟩
    · rw [h] at hlen; simp at hlen; omega
    have ia : (done.length : Int) < (n : Int) := by omega
    have ib : (0 : Int) ≤ ((done.length : Nat) : Int) := by omega
    simp (maxSteps := 1000000) (disch := first | omega | decide +kernel | (simp only [symN] <;> omega) | assumption) only [Jaa, Jac, reduceIte, Nat.reduceEqDiff, Nat.reduceAdd, Nat.reduceMul, e0, e1, e2, e3, e9, e10, hlt, decide_true, Jw4]
    rw [Jak]
    refine TF.of ((Js0 (bStr r) 46 _).glob) ?_
    rw [Jax, hk1]
    have hneg : ((k : Int) < 0) = False := eq_false (by omega)
    have w6 : IntKind.i64.wrap ((k : Int) + 0) = (k : Nat) := Jbt k 0 (by omega)
    have w7 : IntKind.i64.wrap ((k : Int) + 1) = ((k + 1 : Nat) : Int) := Jbt k 1 (by omega)
    have sz1 : ((ByteArray.mk #[46]).size : Int) = 1 := rfl
    have ik : (0 : Int) ≤ (k : Nat) := by omega
    have ik2 : ((k : Nat) : Int) ≤ ((bStr r).size : Nat) := by rw [Jbh]; omega
    have ik3 : ((k + 1 : Nat) : Int) ≤ ((bStr r).size : Nat) := by rw [Jbh]; omega
    have ik4 : (0 : Int) ≤ ((k + 1 : Nat) : Int) := by omega
    have x1 : (bStr r).extract 0 k = bStr (r.take k) := by rw [Jko]; rfl
    have x2 : (bStr r).extract (k + 1) (bStr r).size = bStr (r.drop (k + 1)) := by rw [Jko, Jbh, List.take_of_length_le (Nat.le_refl _)]
    simp (maxSteps := 1000000) (disch := first | omega | decide +kernel | (simp only [symN] <;> omega) | assumption) only [Jaa, Jac, reduceIte, Nat.reduceEqDiff, Nat.reduceAdd, Nat.reduceMul, e0, e1, e2, e3, e9, e10, hneg, decide_false, hA, w5, w6, w7, sz1, ik, ik2, ik3, ik4, x1, x2, hlay, hCl]
    refine ⟨kk, by omega, done ++ [r.take k], r.drop (k + 1), A, v + 1, F, by rw [hsp, hk3]; simp, by rw [List.length_append, List.length_singleton]; omega, by rw [List.length_drop]; omega, rfl, trivial, trivial, trivial, rfl, by rw [List.length_append, List.length_singleton], by omega, hAs, ?_, ((hK.bump').set hAs).bump'⟩
    simp [Jb3]
theorem Jpj {gl : List Nat} (l : List UInt8) (hl : l.length < 1000000000) (σ : St) :
    TF Tryz.prog gl 245 #[.string (bStr l), .string ⟨#[46]⟩] σ fun v σ' => SlR σ' v 1 ((Ja0 l).map fun p => [Jb3 p]) ∧ Jad σ σ' := by
  refine TF.walk (Jaf _) Jae Tryz.func245 (by kernel_rfl) rfl fun c hc => ?_
  cases hc
  simp (maxSteps := 1000000) (disch := first | omega | decide +kernel | (simp only [symN] <;> omega) | assumption) only [Tryz.f245, Jaa, Jac, reduceIte, Nat.reduceEqDiff, Nat.reduceAdd, Nat.reduceMul, Kif]
  rw [Jak]
  refine (Jse l hl _).mono ?_
  rintro v τ ⟨h1, h2⟩
  simp (maxSteps := 1000000) (disch := first | omega | decide +kernel | (simp only [symN] <;> omega) | assumption) only [Jaa, Jac, reduceIte, Nat.reduceEqDiff, Nat.reduceAdd, Nat.reduceMul]
  exact ⟨h1, Jad.bump.trans h2⟩
theorem Jmp {σ : St} {B F g : Nat} {x : Value} {b : Bool} (hB : σ.get B = some (.cells false 0 F [.func (.func g) #[] #[]])) (hF : σ.famO F = none) (hlt : B < σ.next) (hg : ∀ args σ, Jb6 Tryz.prog g args σ = some (.enter g args))
    (hcall : Jai g [x] (.bool b)) :
    TF Tryz.prog [] 246 #[x, .pointer (some ⟨B, 0, none⟩)] σ fun v σ' => v = .bool (!b) := by
  refine TF.walkC (Jaf _) Jae Tryz.func246 (by kernel_rfl) (by show 2 ≤ 8; decide) fun c hc => ?_
  cases hc
  have q1 : (σ.next = B) = False := eq_false (by omega)
  have hrd : ∀ τ : St, τ.famO F = none → rdG τ (some (.cells false 0 F [.func (.func g) #[] #[]])) 0 1 = some [.func (.func g) #[] #[]] := fun τ h => by rw [Jqn h]; simp [sub?]
  have hrd' : ∀ (o : AObj) n m, rdG (((σ.bump n).set σ.next o).bump m) (some (.cells false 0 F [.func (.func g) #[] #[]])) 0 1 = some [.func (.func g) #[] #[]] := fun o n m => hrd _ (by simpa using hF)
  have hrd2 : ∀ m, rdG (σ.bump m) (some (.cells false 0 F [.func (.func g) #[] #[]])) 0 1 = some [.func (.func g) #[] #[]] := fun m => hrd _ (by simpa using hF)
  simp (maxSteps := 1000000) (disch := first | omega | decide +kernel | (simp only [symN] <;> omega) | assumption) only [Tryz.f246, Jaa, Jac, reduceIte, Nat.reduceEqDiff, Nat.reduceAdd, Nat.reduceMul, q1, hB, hrd2, hg]
  rw [Jak]
  refine TF.of (hcall _) ?_
  simp (maxSteps := 1000000) (disch := first | omega | decide +kernel | (simp only [symN] <;> omega) | assumption) only [Jaa, Jac, reduceIte, Nat.reduceEqDiff, Nat.reduceAdd, Nat.reduceMul]
theorem Jls {σ : St} {B g : Nat} {x : Value} {b : Bool} (hB : σ.cells? B = some [.func (.func g) #[] #[]]) (hx : Ja5 (x) = true) (hg : ∀ args σ, Jb6 Tryz.prog g args σ = some (.enter g args))
    (hcall : Jai g [x] (.bool b)) : SimF Tryz.prog [] 246 #[x, .pointer (some ⟨B, 0, none⟩)] σ (.bool (!b)) σ := by
  obtain ⟨v, σ', hs, rfl⟩ := Jmp (σ := roSt 1000 0 [(0, [.func (.func g) #[] #[]])]) (B := 0) (F := 0) (Jfh (by simp) (by simp)) Jdz (by rw [Jdy]; decide) hg hcall
  refine hs.ro (ρ := fun A => if A = 0 then some (B, 0) else none) (by simp) (by simp) ⟨[.func (.func g) #[] #[]], by simp⟩ (fun A B' d h => ?_) (fun b hb => by simp at hb) ?_ (.flat rfl)
  · split at h
    · rename_i e; subst e; cases h
      exact ⟨[.func (.func g) #[] #[]], [.func (.func g) #[] #[]], by simp, hB, .flat (by simp) (by simp) (by simp [Ja5, flat0])⟩
    · cases h
  · refine ⟨rfl, fun i h h' => ?_⟩
    have hi : i = 0 ∨ i = 1 := by simp at h; omega
    rcases hi with rfl | rfl
    · exact .flat hx
    · exact .ptr 0 B 0 0 (by simp)
def Kij := Jas (P := Tryz.prog) Tryz.func246 (by kernel_rfl) (by kernel_rfl)
def Knb (p : List UInt8 → Bool) (v : Value) : Bool := match v with
  | .string s => p s.data.toList
  | _ => false
theorem Jtv {p : List UInt8 → Bool} {q : List UInt8} : Knb p (Jb3 q) = p q := by simp [Knb, Jb3, Jax]
theorem Kaf {g : Nat} (l : List UInt8) (hl : l.length < 500000000) (p : List UInt8 → Bool) (hg : ∀ args σ, Jb6 Tryz.prog g args σ = some (.enter g args)) (hp : ∀ q ∈ Ja0 l, Jai g [Jb3 q] (.bool (p q))) (σ : St) :
    TF Tryz.prog [] 243 #[.string (bStr l), .func (.func g) #[] #[]] σ fun v σ' => v = .bool ((Ja0 l).all p) ∧ Jad σ σ' := by
  refine TF.walk (Jaf _) Jae Tryz.func243 (by kernel_rfl) rfl fun c hc => ?_
  cases hc
  simp (maxSteps := 1000000) (disch := first | omega | decide +kernel | (simp only [symN] <;> omega) | assumption) only [Tryz.f243, Jaa, Jac, reduceIte, Nat.reduceEqDiff, Nat.reduceAdd, Nat.reduceMul]
  rw [Jak]
  refine (Jpj l (by omega) _).mono ?_
  rintro v τ ⟨h1, h2⟩
  have hb : τ.get σ.next = some (.cells true 0 σ.next [.func (.func g) #[] #[]]) := by
    rw [h2.get σ.next (by simp; omega)]; simp
  have hlen : (Ja0 l).length ≤ l.length + 1 := by
    have := Jhh l
    have : Lib.countByte l 46 ≤ l.length := List.count_le_length
    omega
  have h1' : SlR τ v 1 (((Ja0 l).map Jb3).map fun v => [v]) := by rw [List.map_map]; exact h1
  obtain ⟨b0, k0, e0⟩ := h1.shape
  subst e0
  simp (maxSteps := 1000000) (disch := first | omega | decide +kernel | (simp only [symN] <;> omega) | assumption) only [Jaa, Jac, reduceIte, Nat.reduceEqDiff, Nat.reduceAdd, Nat.reduceMul]
  rw [Jak]
  refine (Jp4 (g := 246) (caps := [.pointer (some ⟨σ.next, 0, none⟩)]) ((Ja0 l).map Jb3) (fun v => !Knb p v) _ _ h1' (by rw [List.length_map]; omega) (fun args σ => Kij args σ) fun i hi m => ?_).mono ?_
  · have hi' : i < (Ja0 l).length := by simpa using hi
    have hrow : ((Ja0 l).map Jb3)[i] = Jb3 (Ja0 l)[i] := by simp
    rw [hrow, Jtv]
    exact Jls (g := g) (by simp [St.cells?, St.rd, hb]) rfl hg (hp _ (List.getElem_mem hi'))
  · rintro _ _ ⟨m, rfl, rfl⟩
    have hall : (!((Ja0 l).map Jb3).any fun v => !Knb p v) = (Ja0 l).all p := by
      rw [Bool.eq_iff_iff]; simp [Jtv]
    simp (maxSteps := 1000000) (disch := first | omega | decide +kernel | (simp only [symN] <;> omega) | assumption) only [Jaa, Jac, reduceIte, Nat.reduceEqDiff, Nat.reduceAdd, Nat.reduceMul, hall]
    exact ⟨trivial, (Jad.trans (by exact (Jad.set (Jad.bump (n := 2)) (Nat.le_refl _)).bump') h2).bump'⟩
theorem Jiv {g : Nat} (l : List UInt8) (hl : l.length < 500000000) (p : List UInt8 → Bool) (hg : ∀ args σ, Jb6 Tryz.prog g args σ = some (.enter g args)) (hp : ∀ q ∈ Ja0 l, Jai g [Jb3 q] (.bool (p q))) (σ : St) :
    SimF Tryz.prog [] 243 #[.string (bStr l), .func (.func g) #[] #[]] σ (.bool ((Ja0 l).all p)) σ := Jjr (Je4 rfl _) fun hw => Kaf l hl p hg hp σ
def Kcg (i : List UInt8) : Bool := decide (Lib.countByte i 46 = 3) && (Ja0 i).all Jf8
def Jf0 (l : List UInt8) : List UInt8 := Lib.trimPrefix l [91]
def Jfk (l : List UInt8) : List UInt8 := Lib.trimSuffix (Jf0 l) [93]
def domV (l : List UInt8) : Nat := if Lib.hasPrefix l [91] then (if Lib.hasSuffix (Jf0 l) [93] && Kcg (Jfk l) then 0 else 5) else Jh3 l
theorem Jk2 {l q : List UInt8} (hq : q ∈ Ja0 l) : q.length ≤ l.length := by
  induction l generalizing q with
  | nil => simp [Ja0] at hq; simp [hq]
  | cons c l ih =>
    by_cases h : c.toNat = 46
    · rw [Ja0, if_pos h] at hq
      rcases List.mem_cons.1 hq with rfl | hq
      · simp
      · have := ih hq; simp; omega
    · rw [Ja0, if_neg h] at hq
      cases hs : Ja0 l with
      | nil => exact absurd hs (Jc6 l)
      | cons p r =>
        rw [hs] at hq
        rcases List.mem_cons.1 hq with rfl | hq
        · have := ih (q := p) (by rw [hs]; simp); simp; omega
        · have := ih (q := q) (by rw [hs]; simp [hq]); simp; omega
theorem Kfn (l : List UInt8) : (Jf0 l).length ≤ l.length ∧ (Jfk l).length ≤ l.length := by
  have h1 : (Jf0 l).length ≤ l.length := by unfold Jf0 Lib.trimPrefix; split <;> simp
  have h2 : (Jfk l).length ≤ (Jf0 l).length := by unfold Jfk Lib.trimSuffix; split <;> simp
  exact ⟨h1, by omega⟩
def Kii := Jas (P := Tryz.prog) Tryz.func250 (by kernel_rfl) (by kernel_rfl)
def Kih := Jas (P := Tryz.prog) Tryz.func251 (by kernel_rfl) (by kernel_rfl)
def Kig := Jas (P := Tryz.prog) Tryz.func252 (by kernel_rfl) (by kernel_rfl)
theorem Jp3 (l : List UInt8) (hl : l.length < 100000000) : Jai 210 [.string (bStr l)] (.int .i64 (domV l : Nat)) := by
  refine Ja6 rfl rfl (TF.walk (Jaf _) Jae Tryz.func210 (by kernel_rfl) rfl fun c hc => ?_)
  cases hc
  obtain ⟨len1, len2⟩ := Kfn l
  have h91 : Jai 247 [.string (bStr l), .string ⟨#[91]⟩] (.tuple #[.string (bStr (Jf0 l)), .bool (Lib.hasPrefix l [91])]) := by
    have := Jw0 (bStr l) ⟨#[91]⟩
    rw [Jax] at this; exact this
  have h93 : Jai 248 [.string (bStr (Jf0 l)), .string ⟨#[93]⟩] (.tuple #[.string (bStr (Jfk l)), .bool (Lib.hasSuffix (Jf0 l) [93])]) := by
    have := Jwz (bStr (Jf0 l)) ⟨#[93]⟩ (by rw [Jbh]; omega)
    rw [Jax] at this; exact this
  have h46 : Jai 249 [.string (bStr (Jfk l)), .string ⟨#[46]⟩] (.int .i64 (Lib.countByte (Jfk l) 46)) := by
    have := Jkz (bStr (Jfk l)) 46
    rw [Jax] at this; exact this
  have a1 := Jiv (Jfk l) (by omega) Jf8 (fun args σ => Kii args σ) (fun q hq => Jst q (by have := Jk2 hq; omega))
  have a2 := Jiv l (by omega) Jdg (fun args σ => Kih args σ) (fun q hq => Jsz q (by have := Jk2 hq; omega))
  have a3 := Jiv l (by omega) (fun q => !Jkj q) (fun args σ => Kig args σ) (fun q hq => Jsg q)
  simp (maxSteps := 1000000) (disch := first | omega | decide +kernel | (simp only [symN] <;> omega) | assumption) only [Tryz.f210, Jaa, Jac, reduceIte, Nat.reduceEqDiff, Nat.reduceAdd, Nat.reduceMul]
  rw [Jak]
  refine TF.of (h91 _) ?_
  cases p1 : Lib.hasPrefix l [91] with
  | true =>
    simp (maxSteps := 1000000) (disch := first | omega | decide +kernel | (simp only [symN] <;> omega) | assumption) only [Jaa, Jac, reduceIte, Nat.reduceEqDiff, Nat.reduceAdd, Nat.reduceMul]
    rw [Jak]
    refine TF.of (h93 _) ?_
    cases p2 : Lib.hasSuffix (Jf0 l) [93] with
    | false =>
      simp (maxSteps := 1000000) (disch := first | omega | decide +kernel | (simp only [symN] <;> omega) | assumption) only [Jaa, Jac, reduceIte, Nat.reduceEqDiff, Nat.reduceAdd, Nat.reduceMul]
      simp [domV, p1, p2]
    | true =>
    simp (maxSteps := 1000000) (disch := first | omega | decide +kernel | (simp only [symN] <;> omega) | assumption) only [Jaa, Jac, reduceIte, Nat.reduceEqDiff, Nat.reduceAdd, Nat.reduceMul]
    rw [Jak]
    refine TF.of (h46 _) ?_
    by_cases p3 : Lib.countByte (Jfk l) 46 = 3
    case neg =>
      have p3' : ((Lib.countByte (Jfk l) 46 : Int) = 3) = False := eq_false (by omega)
      simp (maxSteps := 1000000) (disch := first | omega | decide +kernel | (simp only [symN] <;> omega) | assumption) only [Jaa, Jac, reduceIte, Nat.reduceEqDiff, Nat.reduceAdd, Nat.reduceMul, p3', decide_false]
      simp [domV, p1, p2, Kcg, p3]
    have p3' : ((Lib.countByte (Jfk l) 46 : Int) = 3) = True := eq_true (by omega)
    simp (maxSteps := 1000000) (disch := first | omega | decide +kernel | (simp only [symN] <;> omega) | assumption) only [Jaa, Jac, reduceIte, Nat.reduceEqDiff, Nat.reduceAdd, Nat.reduceMul, p3']
    rw [Jak]
    refine TF.of (a1 _) ?_
    cases p4 : (Ja0 (Jfk l)).all Jf8 with
    | false =>
      simp (maxSteps := 1000000) (disch := first | omega | decide +kernel | (simp only [symN] <;> omega) | assumption) only [Jaa, Jac, reduceIte, Nat.reduceEqDiff, Nat.reduceAdd, Nat.reduceMul]
      simp [domV, p1, p2, Kcg, p3, p4]
    | true =>
      simp (maxSteps := 1000000) (disch := first | omega | decide +kernel | (simp only [symN] <;> omega) | assumption) only [Jaa, Jac, reduceIte, Nat.reduceEqDiff, Nat.reduceAdd, Nat.reduceMul]
      simp [domV, p1, p2, Kcg, p3, p4]
  | false =>
    simp (maxSteps := 1000000) (disch := first | omega | decide +kernel | (simp only [symN] <;> omega) | assumption) only [Jaa, Jac, reduceIte, Nat.reduceEqDiff, Nat.reduceAdd, Nat.reduceMul]
    rw [Jak]
    refine TF.of (a2 _) ?_
    cases p2 : (Ja0 l).all Jdg with
    | false =>
      simp (maxSteps := 1000000) (disch := first | omega | decide +kernel | (simp only [symN] <;> omega) | assumption) only [Jaa, Jac, reduceIte, Nat.reduceEqDiff, Nat.reduceAdd, Nat.reduceMul]
      simp [domV, p1, Jh3, p2]
    | true =>
    have hany : (Ja0 l).any Jkj = !(Ja0 l).all fun q => !Jkj q := by rw [Bool.eq_iff_iff]; simp
    by_cases p3 : 255 < l.length
    · have p3' : ((255 : Int) < ((bStr l).size : Int)) = True := eq_true (by rw [Jbh]; omega)
      simp (maxSteps := 1000000) (disch := first | omega | decide +kernel | (simp only [symN] <;> omega) | assumption) only [Jaa, Jac, reduceIte, Nat.reduceEqDiff, Nat.reduceAdd, Nat.reduceMul, p3']
      simp [domV, p1, Jh3, p2, p3]
    have p3' : ((255 : Int) < ((bStr l).size : Int)) = False := eq_false (by rw [Jbh]; omega)
    simp (maxSteps := 1000000) (disch := first | omega | decide +kernel | (simp only [symN] <;> omega) | assumption) only [Jaa, Jac, reduceIte, Nat.reduceEqDiff, Nat.reduceAdd, Nat.reduceMul, p3', decide_false]
    rw [Jak]
    refine TF.of (a3 _) ?_
    cases p4 : (Ja0 l).all fun q => !Jkj q with
    | false =>
      simp (maxSteps := 1000000) (disch := first | omega | decide +kernel | (simp only [symN] <;> omega) | assumption) only [Jaa, Jac, reduceIte, Nat.reduceEqDiff, Nat.reduceAdd, Nat.reduceMul]
      rw [p4] at hany
      simp [domV, p1, Jh3, p2, p3, hany]
    | true =>
      simp (maxSteps := 1000000) (disch := first | omega | decide +kernel | (simp only [symN] <;> omega) | assumption) only [Jaa, Jac, reduceIte, Nat.reduceEqDiff, Nat.reduceAdd, Nat.reduceMul]
      rw [p4] at hany
      simp [domV, p1, Jh3, p2, p3, hany]
def domB (d : ByteArray) : Bool := decide (domV d.data.toList = 0)
theorem Jgu (d : ByteArray) (hd : d.size < 100000000) : Jai 161 [.string d] (.bool (domB d)) := by
  refine Ja6 rfl rfl (TF.walk (Jaf _) Jae Tryz.func161 (by kernel_rfl) rfl fun c hc => ?_)
  cases hc
  have h := Jp3 d.data.toList (by simpa using hd)
  rw [Jkp] at h
  have e : decide (((domV d.data.toList : Nat) : Int) = 0) = domB d := by unfold domB; congr 1; exact propext (by omega)
  simp (maxSteps := 1000000) (disch := first | omega | decide +kernel | (simp only [symN] <;> omega) | assumption) only [Tryz.f161, Jaa, Jac, reduceIte, Nat.reduceEqDiff, Nat.reduceAdd, Nat.reduceMul]
  rw [Jak]
  refine TF.of (h _) ?_
  simp (maxSteps := 1000000) (disch := first | omega | decide +kernel | (simp only [symN] <;> omega) | assumption) only [Jaa, Jac, reduceIte, Nat.reduceEqDiff, Nat.reduceAdd, Nat.reduceMul, e]
def Jnx (c : Nat) : Bool := (decide (97 ≤ c) && decide (c ≤ 122)) || (decide (65 ≤ c) && decide (c ≤ 90)) || (decide (48 ≤ c) && decide (c ≤ 57))
theorem Jpp (c : Nat) : Jai 239 [.int .u8 (c : Nat)] (.bool (Jnx c)) := by
  refine Ja6 rfl rfl (TF.walk (Jdr Jel) Jae Tryz.func239 (by kernel_rfl) rfl fun c hc => ?_)
  cases hc
  have e1 : decide ((97 : Int) ≤ (c : Int)) = decide (97 ≤ c) := by congr 1; exact propext (by omega)
  have e2 : decide ((c : Int) ≤ 122) = decide (c ≤ 122) := by congr 1; exact propext (by omega)
  have e3 : decide ((65 : Int) ≤ (c : Int)) = decide (65 ≤ c) := by congr 1; exact propext (by omega)
  have e4 : decide ((c : Int) ≤ 90) = decide (c ≤ 90) := by congr 1; exact propext (by omega)
  have e5 : decide ((48 : Int) ≤ (c : Int)) = decide (48 ≤ c) := by congr 1; exact propext (by omega)
  have e6 : decide ((c : Int) ≤ 57) = decide (c ≤ 57) := by congr 1; exact propext (by omega)
  unfold Jnx
  generalize decide (97 ≤ c) = a at *
  generalize decide (c ≤ 122) = b at *
  generalize decide (65 ≤ c) = a2 at *
  generalize decide (c ≤ 90) = b2 at *
  generalize decide (48 ≤ c) = a3 at *
  generalize decide (c ≤ 57) = b3 at *
  cases a <;> cases b <;> cases a2 <;> cases b2 <;> cases a3 <;> cases b3 <;> simp (maxSteps := 1000000) (disch := first | omega | decide +kernel | (simp only [symN] <;> omega) | assumption) only [Tryz.f239, Jaa, Jac, reduceIte, Nat.reduceEqDiff, Nat.reduceAdd, Nat.reduceMul, e1, e2, e3, e4, e5, e6, Bool.true_and, Bool.false_and, Bool.true_or, Bool.false_or, Bool.or_true, Bool.or_false]
attribute [local irreducible] zTF Jcf zOp zO zQ1 zQ2 zObj zQ zU zW zCl zRd zLd zPr zIf Jci zC
theorem getD_at (l : List UInt8) (i : Nat) (h : i < l.length) : l.getD i 0 = l[i] := by simp [List.getD, h]
theorem Jow (p : List UInt8) (hp : p.length < 1000000000) : Jai 282 [.string (bStr p), .int .i64 3] (numV p) := by
  refine Ja6 rfl (by unfold numV; split <;> rfl) (TF.walk (Jaf _) Jae Tryz.func282 (by kernel_rfl) rfl fun c hc => ?_)
  cases hc
  have z1 : ((3 : Int) < 1) = False := eq_false (by omega)
  have z2 : ((15 : Int) < 3) = False := eq_false (by omega)
  have bad : (p = [] ∨ 3 < p.length) → numV p = .tuple #[.int .i64 0, .int .i64 5] := fun h => by
    rw [numV, Jjn]
    rcases h with h | h
    · simp [h]
    · rw [decide_eq_false (show ¬ p.length ≤ 3 by omega)]; simp
  have hsz := Jbh p
  by_cases h0 : p = []
  · have h0' : (((bStr p).size : Int) < 1) = True := eq_true (by rw [hsz, h0]; decide)
    rw [bad (.inl h0)]
    simp (maxSteps := 1000000) (disch := first | omega | decide +kernel | (simp only [symN] <;> omega) | assumption) only [Tryz.f282, Jaa, Jac, reduceIte, Nat.reduceEqDiff, Nat.reduceAdd, Nat.reduceMul, z1, z2, h0']
  have hpos : 0 < p.length := List.length_pos_iff.2 h0
  have h0' : (((bStr p).size : Int) < 1) = False := eq_false (by rw [hsz]; omega)
  by_cases h1 : 3 < p.length
  · have h1' : ((3 : Int) < ((bStr p).size : Int)) = True := eq_true (by rw [hsz]; omega)
    rw [bad (.inr h1)]
    simp (maxSteps := 1000000) (disch := first | omega | decide +kernel | (simp only [symN] <;> omega) | assumption) only [Tryz.f282, Jaa, Jac, reduceIte, Nat.reduceEqDiff, Nat.reduceAdd, Nat.reduceMul, z1, z2, h0', h1']
  have h1' : ((3 : Int) < ((bStr p).size : Int)) = False := eq_false (by rw [hsz]; omega)
  simp (maxSteps := 1000000) (disch := first | omega | decide +kernel | (simp only [symN] <;> omega) | assumption) only [Tryz.f282, Jaa, Jac, reduceIte, Nat.reduceEqDiff, Nat.reduceAdd, Nat.reduceMul, z1, z2, h0', h1']
  refine Jay (Jaf _) Jae (fun kk env τ => ∃ i, i + kk = p.length ∧ (p.take i).all digU = true ∧ eget env 0 = .string (bStr p) ∧ eget env 6 = .int .i64 (numU (p.take i) : Nat) ∧ eget env 7 = .int .i64 (i : Nat)) (n := p.length) (by kernel_rfl) ?_ ?_
  · exact ⟨0, by omega, by simp, by simp [Jab], by simp [Jab, numU], by simp [Jab]⟩
  rintro kk env τ ⟨i, hi, hall, e0, e6, e7⟩
  cases kk with
  | zero =>
    have hlt : ((i : Int) < ((bStr p).size : Int)) = False := eq_false (by rw [hsz]; omega)
    rw [List.take_of_length_le (by omega)] at e6 hall
    have hv : numV p = .tuple #[.int .i64 (numU p : Nat), .int .i64 0] := by
      have : Jjn p = true := by
        unfold Jjn; rw [hall, decide_eq_true (show p.length ≤ 3 by omega)]
        cases p with
        | nil => exact absurd rfl h0
        | cons _ _ => rfl
      rw [numV, this]; rfl
    rw [hv]
    simp (maxSteps := 1000000) (disch := first | omega | decide +kernel | (simp only [symN] <;> omega) | assumption) only [Jaa, Jac, reduceIte, Nat.reduceEqDiff, Nat.reduceAdd, Nat.reduceMul, e0, e6, e7, hlt, decide_false]
  | succ kk =>
    have hil : i < p.length := by omega
    have hlt : ((i : Int) < ((bStr p).size : Int)) = True := eq_true (by rw [hsz]; omega)
    have hg := getD_at p i hil
    have ib : (0 : Int) ≤ ((i : Nat) : Int) := by omega
    have ib2 : ((i : Nat) : Int) < ((bStr p).size : Int) := by rw [hsz]; omega
    by_cases hd : digU p[i] = true
    case neg =>
      have hv : numV p = .tuple #[.int .i64 0, .int .i64 5] := by
        have : p.all digU = false := by
          rw [List.all_eq_false]; exact ⟨p[i], List.getElem_mem hil, hd⟩
        rw [numV, Jjn, this]; simp
      rw [hv]
      by_cases ha : p[i].toNat < 48
      · have ha' : ((p[i].toNat : Int) < 48) = True := eq_true (by omega)
        simp (maxSteps := 1000000) (disch := first | omega | decide +kernel | (simp only [symN] <;> omega) | assumption) only [Jaa, Jac, reduceIte, Nat.reduceEqDiff, Nat.reduceAdd, Nat.reduceMul, e0, e6, e7, hlt, Jax, hg, ib, ib2, ha']
      · have ha' : ((p[i].toNat : Int) < 48) = False := eq_false (by omega)
        have hb' : ((57 : Int) < (p[i].toNat : Int)) = True := eq_true (by simp [digU] at hd; omega)
        simp (maxSteps := 1000000) (disch := first | omega | decide +kernel | (simp only [symN] <;> omega) | assumption) only [Jaa, Jac, reduceIte, Nat.reduceEqDiff, Nat.reduceAdd, Nat.reduceMul, e0, e6, e7, hlt, Jax, hg, ib, ib2, ha', hb']
    have hd2 := Jga hd
    have ha' : ((p[i].toNat : Int) < 48) = False := eq_false (by omega)
    have hb' : ((57 : Int) < (p[i].toNat : Int)) = False := eq_false (by omega)
    have hacc : numU (p.take i) < 10 ^ i := by
      have h := Jnt hall i (by simp; omega)
      rwa [List.take_take, Nat.min_self] at h
    have hacc2 : numU (p.take i) < 1000 := Nat.lt_of_lt_of_le hacc (by
      have : (10 : Nat) ^ i ≤ 10 ^ 3 := Nat.pow_le_pow_right (by decide) (by omega)
      exact this)
    have htk : numU (p.take (i + 1)) = 10 * numU (p.take i) + (p[i].toNat - 48) := by
      rw [List.take_succ_eq_append_getElem hil, numU, List.foldl_append]; rfl
    have hall2 : (p.take (i + 1)).all digU = true := by
      rw [List.take_succ_eq_append_getElem hil, List.all_append, hall, List.all_cons, hd]; rfl
    obtain ⟨d, hdd⟩ : ∃ d, d = p[i].toNat - 48 := ⟨_, rfl⟩
    obtain ⟨acc, hac⟩ : ∃ acc, acc = numU (p.take i) := ⟨_, rfl⟩
    rw [← hdd, ← hac] at htk
    rw [← hac] at e6 hacc2
    have w1 : IntKind.i64.wrap (10 * (acc : Int)) = ((10 * acc : Nat) : Int) := Ke6 10 acc (by omega)
    have w2 : IntKind.u8.wrap ((p[i].toNat : Int) - 48) = (d : Nat) := by
      rw [show ((p[i].toNat : Int) - 48) = (d : Nat) from by omega]
      exact Jbf .u8 d (show d < 256 by omega)
    have w3 : IntKind.i64.wrap (d : Int) = (d : Nat) := Jbf .i64 d (show d < 9223372036854775808 by omega)
    have w4 : IntKind.i64.wrap (((10 * acc : Nat) : Int) + (d : Int)) = ((10 * acc + d : Nat) : Int) := Jbt _ _ (by omega)
    have w5 : IntKind.i64.wrap ((i : Int) + 1) = ((i + 1 : Nat) : Int) := Jbt i 1 (by omega)
    simp (maxSteps := 1000000) (disch := first | omega | decide +kernel | (simp only [symN] <;> omega) | assumption) only [Jaa, Jac, reduceIte, Nat.reduceEqDiff, Nat.reduceAdd, Nat.reduceMul, e0, e6, e7, hlt, Jax, hg, ib, ib2, ha', hb', w1, w2, w3, w4, w5]
    exact ⟨kk, by omega, i + 1, by omega, hall2, trivial, by rw [htk], rfl⟩
theorem Jw8 {A id n ver F : Nat} {c nc : List Value} {σ : St} (h0 : n ≠ 0) (h1 : c.length + n ≤ 1000000000) (h3 : nc.all (·.oneCell') = true) :
    appG Jer A c.length 2 id n nc σ (some (.cells true ver F c)) = some (.val (.slice (some ⟨id, 0, none⟩) (c.length + n) 2) (((((σ.set A (.cells false ver F c)).set id (.cells true ver F (c ++ nc))).setFam F id).setHint A c.length).setHint id (c.length + nc.length))) := by
  have e1 : Jer.size = 1 := Jhu
  have e2 : Jer.bytes = 16 := Jgb
  rw [Jkq h0 (by rw [e1]) (by rw [e1]; omega) (by omega) (by rw [e2]; omega) h3, e1, Nat.mul_one]
theorem Ju3 {id n : Nat} {nc : List Value} {σ : St} (h0 : n ≠ 0) (h1 : n ≤ 1000000000) :
    appE Jer (.slice none 0 0) id (some (n, nc)) σ = some (.val (.slice (some ⟨id, 0, none⟩) n 2) (σ.set id (.cells true 0 id nc))) := by
  have e1 : Jer.size = 1 := Jhu
  have e2 : Jer.bytes = 16 := Jgb
  rw [Jnc h0 (by omega) (by rw [e2]; omega), e1]
theorem Knr {cur : List UInt8} {c : UInt8} {r : List UInt8} (h : ¬ c.toNat = 46) : glue cur (Ja0 (c :: r)) = glue (cur ++ [c]) (Ja0 r) := by
  rw [Ja0, if_neg h]
  cases hs : Ja0 r with
  | nil => exact absurd hs (Jc6 r)
  | cons p q => simp [glue]
theorem Knq {cur : List UInt8} {c : UInt8} {r : List UInt8} (h : c.toNat = 46) : glue cur (Ja0 (c :: r)) = cur :: Ja0 r := by
  rw [Ja0, if_pos h]; simp [glue]
theorem Ka7 {ps : List (List UInt8)} (h : ps ≠ []) : glue [] ps = ps := by
  cases ps with
  | nil => exact absurd rfl h
  | cons p q => simp [glue]
theorem Knp {cur : List UInt8} {ps : List (List UInt8)} (h : ps ≠ []) : (glue cur ps).length = ps.length := by
  cases ps with
  | nil => exact absurd rfl h
  | cons p q => simp [glue]
def RowS (σ τ : St) (v : Value) (rows : List (List UInt8)) : Prop := (rows = [] ∧ v = .slice none 0 0) ∨
  ∃ A ver F, v = .slice (some ⟨A, 0, none⟩) (rows.map Jb3).length 2 ∧ τ.get A = some (.cells true ver F (rows.map Jb3)) ∧ σ.next ≤ A ∧ A < τ.next ∧ σ.next ≤ F
theorem RowS.bump {σ τ : St} {v : Value} {rows : List (List UInt8)} {n : Nat} (h : RowS σ τ v rows) : RowS σ (τ.bump n) v rows := by
  rcases h with h | ⟨A, ver, F, h1, h2, h3, h4, h5⟩
  · exact .inl h
  · exact .inr ⟨A, ver, F, h1, h2, h3, Nat.lt_of_lt_of_le h4 (Nat.le_add_right _ _), h5⟩
theorem RowS.sl {σ τ : St} {v : Value} {rows : List (List UInt8)} (h : RowS σ τ v rows) : SlR τ v 1 (rows.map fun p => [Jb3 p]) := by
  rcases h with ⟨rfl, rfl⟩ | ⟨A, ver, F, rfl, h2, _⟩
  · exact .inl ⟨rfl, rfl⟩
  · exact SlR.ofCells (f := Jb3) (Jum h2) (List.length_map ..)
theorem RowS.mk {σ τ : St} {A ver F n : Nat} {rows : List (List UInt8)} (h : τ.get A = some (.cells true ver F (rows.map Jb3))) (hn : n = rows.length) (h1 : σ.next ≤ A) (h2 : A < τ.next) (h3 : σ.next ≤ F) : RowS σ τ (.slice (some ⟨A, 0, none⟩) n 2) rows :=
  .inr ⟨A, ver, F, by rw [hn, List.length_map], h, h1, h2, h3⟩
theorem Jpk {gl : List Nat} (l : List UInt8) (hl : l.length < 500000000) (σ : St) :
    TF Tryz.prog gl 281 #[.string (bStr l), .int .u8 46] σ fun v σ' => SlR σ' v 1 ((Ja0 l).map fun p => [Jb3 p]) ∧ Jad σ σ' := by
  refine TF.walk (Jaf _) Jae Tryz.func281 (by kernel_rfl) rfl fun c hc => ?_
  cases hc
  have hsz := Jbh l
  have hcn : (Ja0 l).length ≤ l.length + 1 := by
    have := Jhh l
    have : Lib.countByte l 46 ≤ l.length := List.count_le_length
    omega
  simp (maxSteps := 1000000) (disch := first | omega | decide +kernel | (simp only [symN] <;> omega) | assumption) only [Tryz.f281, Jaa, Jac, reduceIte, Nat.reduceEqDiff, Nat.reduceAdd, Nat.reduceMul]
  refine Jay (Jaf _) Jae (fun kk env τ => ∃ i fr done v5, i + kk = l.length ∧ fr ≤ i ∧ Ja0 l = done ++ glue ((l.take i).drop fr) (Ja0 (l.drop i)) ∧ eget env 0 = .string (bStr l) ∧ eget env 1 = .int .u8 46 ∧ eget env 5 = v5 ∧ eget env 6 = .int .i64 (fr : Nat) ∧ eget env 7 = .int .i64 (i : Nat) ∧ RowS σ τ v5 done ∧ Jad σ τ) (n := l.length) (by kernel_rfl) ?_ ?_
  · exact ⟨0, 0, [], _, by omega, Nat.le_refl _, by simp [Ka7 (Jc6 l)], by simp [Jab], by simp [Jab], rfl, by simp [Jab], by simp [Jab], .inl ⟨rfl, by simp [Jab]⟩, by (repeat (first | exact Jad.refl _ | apply Jad.bump' | apply Jad.setHint | refine Jad.setFam ?_ (by first | omega | (simp <;> omega)) | refine Jad.set ?_ (by first | omega | (simp <;> omega))))⟩
  rintro kk env τ ⟨i, fr, done, v5, hi, hfi, hsp, e0, e1, e5, e6, e7, hrow, hK⟩
  have hdl : done.length ≤ l.length := by
    have h1 := congrArg List.length hsp
    rw [List.length_append, Knp (Jc6 _)] at h1
    have h2 := List.length_pos_iff.2 (Jc6 (l.drop i))
    omega
  have hfr0 : (0 : Int) ≤ ((fr : Nat) : Int) := by omega
  cases kk with
  | zero =>
    have hlt : ((i : Int) < ((bStr l).size : Int)) = False := eq_false (by rw [hsz]; omega)
    have hb : ((fr : Nat) : Int) ≤ ((bStr l).size : Nat) := by rw [hsz]; omega
    have hx : (bStr l).extract fr (bStr l).size = bStr (l.drop fr) := by rw [Jko, hsz, List.take_of_length_le (Nat.le_refl _)]
    have hall : Ja0 l = done ++ [l.drop fr] := by
      rw [hsp, List.drop_of_length_le (l := l) (i := i) (by omega), List.take_of_length_le (by omega)]
      simp [Ja0, glue]
    have hns := hK.next
    rw [hall]
    rcases hrow with ⟨rfl, rfl⟩ | ⟨A, ver, F, rfl, hA, hAs, hAn, hFs⟩
    · simp (maxSteps := 1000000) (disch := first | omega | decide +kernel | (simp only [symN] <;> omega) | assumption) only [Jaa, Jac, reduceIte, Nat.reduceEqDiff, Nat.reduceAdd, Nat.reduceMul, e0, e1, e5, e6, e7, hlt, decide_false, hfr0, hb, hx, Ju3]
      refine ⟨RowS.sl (σ := σ) (rows := [l.drop fr]) ?_, ?_⟩
      · refine RowS.mk (A := τ.next + 4 + 5) (ver := 0) (F := τ.next + 4 + 5) ?_ rfl (by omega) ?_ (by omega)
        · simp [Jb3]
        · simp <;> omega
      exact ((hK.bump'.set (by omega)).set (by omega))
    · have q1 : ∀ k, (τ.next + k = A) = False := fun k => eq_false (by omega)
      have q3 : ∀ k, (A = τ.next + k) = False := fun k => eq_false (by omega)
      have hml : (done.map Jb3).length = done.length := List.length_map ..
      simp (maxSteps := 1000000) (disch := first | omega | decide +kernel | (simp only [symN] <;> omega) | assumption) only [Jaa, Jac, reduceIte, Nat.reduceEqDiff, Nat.reduceAdd, Nat.reduceMul, Nat.add_assoc, e0, e1, e5, e6, e7, hlt, decide_false, hfr0, hb, hx, Jw8, hA, q1, q3]
      refine ⟨RowS.sl (σ := σ) ?_, ?_⟩
      · refine RowS.mk (A := τ.next + 9) (ver := ver) (F := F) ?_ (by rw [hml]; simp) (by omega) ?_ hFs
        · simp [Jb3]
        · simp <;> omega
      exact ((((((hK.bump'.set (by omega)).set (by omega)).set (by omega)).setFam (by omega)).setHint).setHint)
  | succ kk =>
    have hil : i < l.length := by omega
    have hlt : ((i : Int) < ((bStr l).size : Int)) = True := eq_true (by rw [hsz]; omega)
    have hg := getD_at l i hil
    have ib : (0 : Int) ≤ ((i : Nat) : Int) := by omega
    have ib2 : ((i : Nat) : Int) < ((bStr l).size : Int) := by rw [hsz]; omega
    have w5 : IntKind.i64.wrap ((i : Int) + 1) = ((i + 1 : Nat) : Int) := Jbt i 1 (by omega)
    have hns := hK.next
    have hdr : l.drop i = l[i] :: l.drop (i + 1) := List.drop_eq_getElem_cons hil
    by_cases hd : l[i].toNat = 46
    case neg =>
      have hd' : ((l[i].toNat : Int) = 46) = False := eq_false (by omega)
      simp (maxSteps := 1000000) (disch := first | omega | decide +kernel | (simp only [symN] <;> omega) | assumption) only [Jaa, Jac, reduceIte, Nat.reduceEqDiff, Nat.reduceAdd, Nat.reduceMul, e0, e1, e5, e6, e7, hlt, Jax, hg, ib, ib2, hd', w5]
      refine ⟨kk, by omega, i + 1, fr, done, v5, by omega, by omega, ?_, trivial, trivial, rfl, rfl, rfl, hrow.bump, hK.bump'⟩
      rw [hsp, hdr, Knr hd]
      congr 2
      rw [List.take_succ_eq_append_getElem hil, List.drop_append_of_le_length (by rw [List.length_take]; omega)]
    have hd' : ((l[i].toNat : Int) = 46) = True := eq_true (by omega)
    have c1 : ((fr : Nat) : Int) ≤ ((i : Nat) : Int) := by omega
    have c2 : ((i : Nat) : Int) ≤ ((bStr l).size : Nat) := by rw [hsz]; omega
    have hx : (bStr l).extract fr i = bStr ((l.take i).drop fr) := Jko _ _ _
    have hnew : Ja0 l = (done ++ [(l.take i).drop fr]) ++ glue ((l.take (i + 1)).drop (i + 1)) (Ja0 (l.drop (i + 1))) := by
      rw [hsp, hdr, Knq hd, List.drop_of_length_le (l := l.take (i + 1)) (by rw [List.length_take]; omega), Ka7 (Jc6 _)]
      simp
    rcases hrow with ⟨rfl, rfl⟩ | ⟨A, ver, F, rfl, hA, hAs, hAn, hFs⟩
    · simp (maxSteps := 1000000) (disch := first | omega | decide +kernel | (simp only [symN] <;> omega) | assumption) only [Jaa, Jac, reduceIte, Nat.reduceEqDiff, Nat.reduceAdd, Nat.reduceMul, e0, e1, e5, e6, e7, hlt, Jax, hg, ib, ib2, hd', w5, hfr0, c1, c2, hx, Ju3]
      refine ⟨kk, by omega, i + 1, i + 1, _, .slice (some ⟨τ.next + 9 + 6, 0, none⟩) 1 2, by omega, Nat.le_refl _, hnew, trivial, trivial, rfl, rfl, rfl, ?_, ?_⟩
      · refine RowS.mk (A := τ.next + 9 + 6) (ver := 0) (F := τ.next + 9 + 6) ?_ rfl (by omega) ?_ (by omega)
        · simp [Jb3]
        · simp <;> omega
      · exact ((hK.bump'.set (by omega)).set (by omega)).bump'
    · have q1 : ∀ k, (τ.next + k = A) = False := fun k => eq_false (by omega)
      have q3 : ∀ k, (A = τ.next + k) = False := fun k => eq_false (by omega)
      have hml : (done.map Jb3).length = done.length := List.length_map ..
      simp (maxSteps := 1000000) (disch := first | omega | decide +kernel | (simp only [symN] <;> omega) | assumption) only [Jaa, Jac, reduceIte, Nat.reduceEqDiff, Nat.reduceAdd, Nat.reduceMul, Nat.add_assoc, e0, e1, e5, e6, e7, hlt, Jax, hg, ib, ib2, hd', w5, hfr0, c1, c2, hx, Jw8, hA, q1, q3]
      refine ⟨kk, by omega, i + 1, i + 1, _, .slice (some ⟨τ.next + 15, 0, none⟩) ((done.map Jb3).length + 1) 2, by omega, Nat.le_refl _, hnew, trivial, trivial, rfl, rfl, rfl, ?_, ?_⟩
      · refine RowS.mk (A := τ.next + 15) (ver := ver) (F := F) ?_ (by rw [hml]; simp) (by omega) ?_ hFs
        · simp [Jb3]
        · simp <;> omega
      · exact ((((((hK.bump'.set (by omega)).set (by omega)).set (by omega)).setFam (by omega)).setHint).setHint).bump'
end Go.Proofs
