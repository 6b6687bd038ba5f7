/-
  The evaluator and the contracts, merged out of 27 texts (TyR to Sr6). No condition.
-/
import Derived.Test.YtedojhheppepdaaGreatDoorChecked
import Derived.Test.YtedojhheppepdaaGreatDoorKEv15TEv38
import Derived.KernelRfl
import Derived.Laws.RangeAny
namespace Go.Proofs
open Go Go.Ev
set_option maxRecDepth 100000
set_option linter.unusedSimpArgs false
set_option linter.defProp false
def Kh8 := Jl4 (P := Tryz.prog) (t := 30) (n := 13) (by kernel_rfl)
def Kpm := Jas (P := Tryz.prog) Tryz.func12 (by kernel_rfl) (by kernel_rfl)
theorem Kor : sz? Tryz.prog 30 = some 13 := by kernel_rfl
def Kgq := st_n (P := Tryz.prog) (t := 30) Kor
def Kpl := Jas (P := Tryz.prog) Tryz.func13 (by kernel_rfl) (by kernel_rfl)
def Kpj := Jas (P := Tryz.prog) Tryz.func15 (by kernel_rfl) (by kernel_rfl)
def Kpk := Jas (P := Tryz.prog) Tryz.func14 (by kernel_rfl) (by kernel_rfl)
def Kpi := Jas (P := Tryz.prog) Tryz.func16 (by kernel_rfl) (by kernel_rfl)
def Kph := Jas (P := Tryz.prog) Tryz.func17 (by kernel_rfl) (by kernel_rfl)
theorem Jsc : Tryz.prog.underlying 4 = some .bool := by kernel_rfl
def Ko7 := And.intro (fun (x y : Operand) (σ : St) (a b : Bool) => Kek (P := Tryz.prog) (t := 4) (x := x) (y := y) (σ := σ) (a := a) (b := b) Jsc) (fun (x y : Operand) (σ : St) (a b : Bool) => Kei (P := Tryz.prog) (t := 4) (x := x) (y := y) (σ := σ) (a := a) (b := b) Jsc)
def Kpg := Jas (P := Tryz.prog) Tryz.func18 (by kernel_rfl) (by kernel_rfl)
def Kpf := Jas (P := Tryz.prog) Tryz.func19 (by kernel_rfl) (by kernel_rfl)
theorem Jc2 : Tryz.prog.underlying 32 = some (.slice 5) := by kernel_rfl
def Kht := Jdb (P := Tryz.prog) (t := 32) Jc2
theorem Jos : sz? Tryz.prog 5 = some 1 := by kernel_rfl
def Kgx := And.intro (Jg7 (P := Tryz.prog) (t := 32) Jc2 Jos) (fun (k : IntKind) (i : Int) (σ : St) => Jqz (P := Tryz.prog) (t := 32) (k := k) (i := i) (σ := σ) Jc2 Jos)
theorem Jr9 : Jg4 Tryz.prog 30 = some (.agg #[.int .u8 0, .int .u32 0, .int .i64 0, .string ⟨#[]⟩, .string ⟨#[]⟩, .slice none 0 0, .string ⟨#[]⟩, .slice none 0 0, .slice none 0 0, .slice none 0 0, .int .u8 0, .int .i64 0, .int .u32 0]) := by kernel_rfl
theorem Kbg : Jg4 Tryz.prog 43 = some (.agg #[.int .i64 0, .int .u32 0, .int .i64 0, .string ⟨#[]⟩, .string ⟨#[]⟩, .slice none 0 0, .string ⟨#[]⟩, .slice none 0 0, .slice none 0 0, .slice none 0 0, .int .i64 0, .int .i64 0, .int .u32 0]) := by kernel_rfl
theorem Kom : sz? Tryz.prog 43 = some 13 := by kernel_rfl
def Kgk := st_n (P := Tryz.prog) (t := 43) Kom
def Kh1 := Jl4 (P := Tryz.prog) (t := 43) (n := 13) (by kernel_rfl)
theorem Jek : Tryz.prog.underlying 5 = some (.int .u8) := by kernel_rfl
theorem Jhn : Tryz.prog.underlying 3 = some (.int .i64) := by kernel_rfl
def Kdn := And.intro (Jjv (P := Tryz.prog) (s := 5) (e := 3) Jek) (cvi (P := Tryz.prog) (s := 5) (e := 3) Jek Jhn)
def Kdp := And.intro (Jjv (P := Tryz.prog) (s := 3) (e := 5) Jhn) (cvi (P := Tryz.prog) (s := 3) (e := 5) Jhn Jek)
theorem Jnd : Jcp Tryz.prog 5 1 = some #[.int .u8 0] := by kernel_rfl
theorem Jz8 (id : Nat) (σ : St) (v0 : Value) (h0 : v0.cells = #[v0]) : Ja1 Tryz.prog 32 1 id ⟨[(0, v0)]⟩ σ = some (.val (.slice (some ⟨id, 0, none⟩) 1 2) (σ.set id (.cells true 0 id [v0]))) := by
  simp [Ja1, Jc2, Jos, Jnd, Instr.fill, Jbs, zrow, sliceTo, Jfx, h0, show List.range 1 = [0] from rfl]
theorem Jb1 : Tryz.prog.underlying 9 = some .string := by kernel_rfl
def Jz1 := Ksw (P := Tryz.prog) (s := 32) (e := 9) Jc2 Jb1 Jek
theorem Kbh : Jg4 Tryz.prog 24 = some (.agg #[.string ⟨#[]⟩, .string ⟨#[]⟩]) := by kernel_rfl
theorem Khh : Jf7 Tryz.prog 24 = some (fun i => (#[(0, 1), (1, 1)] : Array (Nat × Nat))[i]?) := by kernel_rfl
theorem Js9 (v0 : Value) (v1 : Value) (h0 : v0.cells = #[v0]) (h1 : v1.cells = #[v1]) : Jcc Tryz.prog 24 ⟨[(0, v0), (1, v1)]⟩ = some (.agg ⟨[v0, v1]⟩) := by
  simp [Jcc, Kbh, Khh, Instr.fill, Jbs, h0, h1]
theorem Kbe : Jg4 Tryz.prog 58 = some (.agg #[.string ⟨#[]⟩, .string ⟨#[]⟩, .int .i64 0, .string ⟨#[]⟩]) := by kernel_rfl
theorem Khe : Jf7 Tryz.prog 58 = some (fun i => (#[(0, 2), (2, 1), (3, 1)] : Array (Nat × Nat))[i]?) := by kernel_rfl
theorem Jo9 (v0_0 v0_1 : Value) (v1 : Value) (v2 : Value) (h1 : v1.cells = #[v1]) (h2 : v2.cells = #[v2]) : Jcc Tryz.prog 58 ⟨[(0, .agg ⟨[v0_0, v0_1]⟩), (1, v1), (2, v2)]⟩ = some (.agg ⟨[v0_0, v0_1, v1, v2]⟩) := by
  simp [Jcc, Kbe, Khe, Instr.fill, Jbs, h1, h2]
theorem Juq : Jcp Tryz.prog 58 4 = some #[.string ⟨#[]⟩, .string ⟨#[]⟩, .int .i64 0, .string ⟨#[]⟩] := by kernel_rfl
theorem Jd5 : Tryz.prog.underlying 27 = some (.slice 58) := by kernel_rfl
theorem Jjc : sz? Tryz.prog 58 = some 4 := by kernel_rfl
theorem Kaa (id : Nat) (σ : St) (v0_0 v0_1 v0_2 v0_3 : Value)  : Ja1 Tryz.prog 27 1 id ⟨[(0, .agg ⟨[v0_0, v0_1, v0_2, v0_3]⟩)]⟩ σ = some (.val (.slice (some ⟨id, 0, none⟩) 1 5) (σ.set id (.cells true 0 id [v0_0, v0_1, v0_2, v0_3]))) := by
  simp [Ja1, Jd5, Jjc, Juq, Instr.fill, Jbs, zrow, sliceTo, Jfx, show List.range 4 = [0, 1, 2, 3] from rfl]
theorem Jmg : (Tryz.prog.info? 58).isSome = true := by kernel_rfl
noncomputable def Jgz : TypeInfo := (Tryz.prog.info? 58).get Jmg
theorem Jve : Tryz.prog.info? 58 = some Jgz := (Option.some_get Jmg).symm
theorem Jgc : Jgz.size = 4 := by kernel_rfl
theorem Jfq : Jgz.bytes = 56 := by kernel_rfl
def Jxe := ap (P := Tryz.prog) (sT := 27) (xT := 27) (i := Jgz) Jd5 Jve Juq
def Klh := And.intro (fun (i : TypeInfo) (z : Array Value) (σ : St) (B o n k : Nat) (h0 : n ≠ 0) => Jd2 (P := Tryz.prog) (xT := 27) (i := i) (z := z) (σ := σ) (B := B) (o := o) (n := n) (k := k) Jd5 h0) (fun (i : TypeInfo) (z : Array Value) (σ : St) => Jhi (P := Tryz.prog) (xT := 27) (i := i) (z := z) (σ := σ) Jd5)
theorem Jr8 : Jcp Tryz.prog 3 1 = some #[.int .i64 0] := by kernel_rfl
theorem Jd4 : Tryz.prog.underlying 28 = some (.slice 3) := by kernel_rfl
theorem Jlq : sz? Tryz.prog 3 = some 1 := by kernel_rfl
theorem Jz9 (id : Nat) (σ : St) (v0 : Value) (h0 : v0.cells = #[v0]) : Ja1 Tryz.prog 28 1 id ⟨[(0, v0)]⟩ σ = some (.val (.slice (some ⟨id, 0, none⟩) 1 2) (σ.set id (.cells true 0 id [v0]))) := by
  simp [Ja1, Jd4, Jlq, Jr8, Instr.fill, Jbs, zrow, sliceTo, Jfx, h0, show List.range 1 = [0] from rfl]
theorem Jo1 : (Tryz.prog.info? 3).isSome = true := by kernel_rfl
noncomputable def Je6 : TypeInfo := (Tryz.prog.info? 3).get Jo1
theorem Jyo : Tryz.prog.info? 3 = some Je6 := (Option.some_get Jo1).symm
theorem Js1 : Je6.size = 1 := by kernel_rfl
theorem Jpt : Je6.bytes = 8 := by kernel_rfl
def Jxd := ap (P := Tryz.prog) (sT := 28) (xT := 28) (i := Je6) Jd4 Jyo Jr8
def Klg := And.intro (fun (i : TypeInfo) (z : Array Value) (σ : St) (B o n k : Nat) (h0 : n ≠ 0) => Jd2 (P := Tryz.prog) (xT := 28) (i := i) (z := z) (σ := σ) (B := B) (o := o) (n := n) (k := k) Jd4 h0) (fun (i : TypeInfo) (z : Array Value) (σ : St) => Jhi (P := Tryz.prog) (xT := 28) (i := i) (z := z) (σ := σ) Jd4)
theorem Juy : Jf7 Tryz.prog 30 = some (fun i => (#[(0, 1), (1, 1), (2, 1), (3, 2), (5, 1), (6, 1), (7, 1), (8, 1), (9, 1), (10, 1), (11, 1), (12, 1)] : Array (Nat × Nat))[i]?) := by kernel_rfl
theorem Jut : Jcp Tryz.prog 24 2 = some #[.string ⟨#[]⟩, .string ⟨#[]⟩] := by kernel_rfl
theorem Jd7 : Tryz.prog.underlying 25 = some (.slice 24) := by kernel_rfl
theorem Jje : sz? Tryz.prog 24 = some 2 := by kernel_rfl
theorem Kac (id : Nat) (σ : St) (v0_0 v0_1 : Value)  : Ja1 Tryz.prog 25 1 id ⟨[(0, .agg ⟨[v0_0, v0_1]⟩)]⟩ σ = some (.val (.slice (some ⟨id, 0, none⟩) 1 3) (σ.set id (.cells true 0 id [v0_0, v0_1]))) := by
  simp [Ja1, Jd7, Jje, Jut, Instr.fill, Jbs, zrow, sliceTo, Jfx, show List.range 2 = [0, 1] from rfl]
def Jyu := Jba (P := Tryz.prog) (s := 85) (f := 8) (off := 9) (by kernel_rfl)
def Jy0 := Jba (P := Tryz.prog) (s := 85) (f := 2) (off := 2) (by kernel_rfl)
def Kid := Jl4 (P := Tryz.prog) (t := 24) (n := 2) (by kernel_rfl)
def Jyy := Jba (P := Tryz.prog) (s := 85) (f := 4) (off := 5) (by kernel_rfl)
def Ko0 := Jdf (P := Tryz.prog) (t := 9) (by kernel_rfl)
def Jy1 := Jba (P := Tryz.prog) (s := 85) (f := 1) (off := 1) (by kernel_rfl)
def Ko4 := Jdf (P := Tryz.prog) (t := 2) (by kernel_rfl)
def Jyx := Jba (P := Tryz.prog) (s := 85) (f := 5) (off := 6) (by kernel_rfl)
def Ko2 := Jdf (P := Tryz.prog) (t := 4) (by kernel_rfl)
def Jyt := Jba (P := Tryz.prog) (s := 89) (f := 0) (off := 0) (by kernel_rfl)
def Ko1 := Jdf (P := Tryz.prog) (t := 5) (by kernel_rfl)
def Khu := Jdb (P := Tryz.prog) (t := 28) Jd4
def Jwv := Jba (P := Tryz.prog) (s := 100) (f := 0) (off := 0) (by kernel_rfl)
def Ko3 := Jdf (P := Tryz.prog) (t := 3) (by kernel_rfl)
def Jws := Jba (P := Tryz.prog) (s := 100) (f := 3) (off := 15) (by kernel_rfl)
def Kh9 := Jdf (P := Tryz.prog) (t := 28) (by kernel_rfl)
def Jwu := Jba (P := Tryz.prog) (s := 100) (f := 1) (off := 1) (by kernel_rfl)
def Jy2 := Jba (P := Tryz.prog) (s := 85) (f := 0) (off := 0) (by kernel_rfl)
def Kie := Jdf (P := Tryz.prog) (t := 22) (by kernel_rfl)
def Jyw := Jba (P := Tryz.prog) (s := 85) (f := 6) (off := 7) (by kernel_rfl)
def Kib := Jdf (P := Tryz.prog) (t := 26) (by kernel_rfl)
theorem Jd6 : Tryz.prog.underlying 26 = some (.slice 56) := by kernel_rfl
def Khw := Jdb (P := Tryz.prog) (t := 26) Jd6
def Jyv := Jba (P := Tryz.prog) (s := 85) (f := 7) (off := 8) (by kernel_rfl)
def Kia := Jdf (P := Tryz.prog) (t := 27) (by kernel_rfl)
def Khv := Jdb (P := Tryz.prog) (t := 27) Jd5
theorem Jho : Tryz.prog.underlying 22 = some (.int .u32) := by kernel_rfl
theorem Jhp : Tryz.prog.underlying 2 = some (.int .i64) := by kernel_rfl
def Jz2 := And.intro (Jjv (P := Tryz.prog) (s := 22) (e := 2) Jho) (cvi (P := Tryz.prog) (s := 22) (e := 2) Jho Jhp)
theorem Kbf : Jg4 Tryz.prog 56 = some (.agg #[.string ⟨#[]⟩, .string ⟨#[]⟩, .string ⟨#[]⟩, .string ⟨#[]⟩, .string ⟨#[]⟩, .string ⟨#[]⟩, .string ⟨#[]⟩, .string ⟨#[]⟩, .bool false]) := by kernel_rfl
theorem Khf : Jf7 Tryz.prog 56 = some (fun i => (#[(0, 2), (2, 1), (3, 1), (4, 2), (6, 2), (8, 1)] : Array (Nat × Nat))[i]?) := by kernel_rfl
theorem Jur : Jcp Tryz.prog 56 9 = some #[.string ⟨#[]⟩, .string ⟨#[]⟩, .string ⟨#[]⟩, .string ⟨#[]⟩, .string ⟨#[]⟩, .string ⟨#[]⟩, .string ⟨#[]⟩, .string ⟨#[]⟩, .bool false] := by kernel_rfl
theorem Jjd : sz? Tryz.prog 56 = some 9 := by kernel_rfl
theorem Kab (id : Nat) (σ : St) (v0_0 v0_1 v0_2 v0_3 v0_4 v0_5 v0_6 v0_7 v0_8 : Value)  : Ja1 Tryz.prog 26 1 id ⟨[(0, .agg ⟨[v0_0, v0_1, v0_2, v0_3, v0_4, v0_5, v0_6, v0_7, v0_8]⟩)]⟩ σ = some (.val (.slice (some ⟨id, 0, none⟩) 1 10) (σ.set id (.cells true 0 id [v0_0, v0_1, v0_2, v0_3, v0_4, v0_5, v0_6, v0_7, v0_8]))) := by
  simp [Ja1, Jd6, Jjd, Jur, Instr.fill, Jbs, zrow, sliceTo, Jfx, show List.range 9 = [0, 1, 2, 3, 4, 5, 6, 7, 8] from rfl]
theorem Jmh : (Tryz.prog.info? 56).isSome = true := by kernel_rfl
noncomputable def Jg0 : TypeInfo := (Tryz.prog.info? 56).get Jmh
theorem Jvf : Tryz.prog.info? 56 = some Jg0 := (Option.some_get Jmh).symm
theorem Jgd : Jg0.size = 9 := by kernel_rfl
theorem Jfr : Jg0.bytes = 136 := by kernel_rfl
def Jxf := ap (P := Tryz.prog) (sT := 26) (xT := 26) (i := Jg0) Jd6 Jvf Jur
def Kli := And.intro (fun (i : TypeInfo) (z : Array Value) (σ : St) (B o n k : Nat) (h0 : n ≠ 0) => Jd2 (P := Tryz.prog) (xT := 26) (i := i) (z := z) (σ := σ) (B := B) (o := o) (n := n) (k := k) Jd6 h0) (fun (i : TypeInfo) (z : Array Value) (σ : St) => Jhi (P := Tryz.prog) (xT := 26) (i := i) (z := z) (σ := σ) Jd6)
theorem Kow : sz? Tryz.prog 22 = some 1 := by kernel_rfl
def Kdi := Jdf (P := Tryz.prog) (t := 110) (by kernel_rfl)
def Jwp := Jba (P := Tryz.prog) (s := 114) (f := 1) (off := 1) (by kernel_rfl)
def Kgj := st_n (P := Tryz.prog) (t := 56) Jjd
def Kgi := st_n (P := Tryz.prog) (t := 58) Jjc
def Kh0 := Jl4 (P := Tryz.prog) (t := 56) (n := 9) (by kernel_rfl)
def Khz := Jl4 (P := Tryz.prog) (t := 58) (n := 4) (by kernel_rfl)
def Jwm := Jba (P := Tryz.prog) (s := 127) (f := 0) (off := 0) (by kernel_rfl)
def Jwl := Jba (P := Tryz.prog) (s := 127) (f := 1) (off := 13) (by kernel_rfl)
def Kh6 := Jdf (P := Tryz.prog) (t := 33) (by kernel_rfl)
def Jzw := Jba (P := Tryz.prog) (s := 30) (f := 1) (off := 1) (by kernel_rfl)
def Kgw := st_n (P := Tryz.prog) (t := 22) Kow
def Jzx := Jba (P := Tryz.prog) (s := 30) (f := 0) (off := 0) (by kernel_rfl)
def Jvr := Jba (P := Tryz.prog) (s := 30) (f := 11) (off := 12) (by kernel_rfl)
def Jzv := Jba (P := Tryz.prog) (s := 30) (f := 2) (off := 2) (by kernel_rfl)
theorem Kre : sz? Tryz.prog 2 = some 1 := by kernel_rfl
def Koi := st_n (P := Tryz.prog) (t := 2) Kre
def Jzs := Jba (P := Tryz.prog) (s := 30) (f := 5) (off := 6) (by kernel_rfl)
theorem Jsi : sz? Tryz.prog 9 = some 1 := by kernel_rfl
def Koe := st_n (P := Tryz.prog) (t := 9) Jsi
theorem Jo0 : (Tryz.prog.info? 5).isSome = true := by kernel_rfl
noncomputable def Jct : TypeInfo := (Tryz.prog.info? 5).get Jo0
theorem Jkc : Tryz.prog.info? 5 = some Jct := (Option.some_get Jo0).symm
theorem Jdd : Jct.size = 1 := by kernel_rfl
theorem Jps : Jct.bytes = 1 := by kernel_rfl
def Jxc := ap (P := Tryz.prog) (sT := 32) (xT := 32) (i := Jct) Jc2 Jkc Jnd
def Klf := And.intro (fun (i : TypeInfo) (z : Array Value) (σ : St) (B o n k : Nat) (h0 : n ≠ 0) => Jd2 (P := Tryz.prog) (xT := 32) (i := i) (z := z) (σ := σ) (B := B) (o := o) (n := n) (k := k) Jc2 h0) (fun (i : TypeInfo) (z : Array Value) (σ : St) => Jhi (P := Tryz.prog) (xT := 32) (i := i) (z := z) (σ := σ) Jc2)
def Kiu := Je3 (P := Tryz.prog) (t := 32) Jc2 Jos
def Kof := st_n (P := Tryz.prog) (t := 5) Jos
def Jzu := Jba (P := Tryz.prog) (s := 30) (f := 3) (off := 3) (by kernel_rfl)
def Kpd := Jas (P := Tryz.prog) Tryz.func97 (by kernel_rfl) (by kernel_rfl)
def Kpc := Jas (P := Tryz.prog) Tryz.func98 (by kernel_rfl) (by kernel_rfl)
def Kgv := st_n (P := Tryz.prog) (t := 24) Jje
def Jzt := Jba (P := Tryz.prog) (s := 30) (f := 4) (off := 5) (by kernel_rfl)
theorem Kov : sz? Tryz.prog 25 = some 1 := by kernel_rfl
def Kgu := st_n (P := Tryz.prog) (t := 25) Kov
def Jzr := Jba (P := Tryz.prog) (s := 30) (f := 6) (off := 7) (by kernel_rfl)
theorem Kou : sz? Tryz.prog 26 = some 1 := by kernel_rfl
def Kgt := st_n (P := Tryz.prog) (t := 26) Kou
def Jzq := Jba (P := Tryz.prog) (s := 30) (f := 7) (off := 8) (by kernel_rfl)
theorem Kot : sz? Tryz.prog 27 = some 1 := by kernel_rfl
def Kgs := st_n (P := Tryz.prog) (t := 27) Kot
def Jzp := Jba (P := Tryz.prog) (s := 30) (f := 8) (off := 9) (by kernel_rfl)
def Kgy := And.intro (Jg7 (P := Tryz.prog) (t := 28) Jd4 Jlq) (fun (k : IntKind) (i : Int) (σ : St) => Jqz (P := Tryz.prog) (t := 28) (k := k) (i := i) (σ := σ) Jd4 Jlq)
def Kpb := Jas (P := Tryz.prog) Tryz.func99 (by kernel_rfl) (by kernel_rfl)
theorem Kos : sz? Tryz.prog 28 = some 1 := by kernel_rfl
def Kgr := st_n (P := Tryz.prog) (t := 28) Kos
def Kic := Jdf (P := Tryz.prog) (t := 25) (by kernel_rfl)
def Khx := Jdb (P := Tryz.prog) (t := 25) Jd7
def Kg1 := And.intro (Jg7 (P := Tryz.prog) (t := 25) Jd7 Jje) (fun (k : IntKind) (i : Int) (σ : St) => Jqz (P := Tryz.prog) (t := 25) (k := k) (i := i) (σ := σ) Jd7 Jje)
def Kiy := Je3 (P := Tryz.prog) (t := 25) Jd7 Jje
theorem Jmj : (Tryz.prog.info? 24).isSome = true := by kernel_rfl
noncomputable def Jg2 : TypeInfo := (Tryz.prog.info? 24).get Jmj
theorem Jvj : Tryz.prog.info? 24 = some Jg2 := (Option.some_get Jmj).symm
theorem Jgf : Jg2.size = 2 := by kernel_rfl
theorem Jft : Jg2.bytes = 32 := by kernel_rfl
def Jxg := ap (P := Tryz.prog) (sT := 25) (xT := 25) (i := Jg2) Jd7 Jvj Jut
def Klj := And.intro (fun (i : TypeInfo) (z : Array Value) (σ : St) (B o n k : Nat) (h0 : n ≠ 0) => Jd2 (P := Tryz.prog) (xT := 25) (i := i) (z := z) (σ := σ) (B := B) (o := o) (n := n) (k := k) Jd7 h0) (fun (i : TypeInfo) (z : Array Value) (σ : St) => Jhi (P := Tryz.prog) (xT := 25) (i := i) (z := z) (σ := σ) Jd7)
def Kg0 := And.intro (Jg7 (P := Tryz.prog) (t := 26) Jd6 Jjd) (fun (k : IntKind) (i : Int) (σ : St) => Jqz (P := Tryz.prog) (t := 26) (k := k) (i := i) (σ := σ) Jd6 Jjd)
def Kix := Je3 (P := Tryz.prog) (t := 26) Jd6 Jjd
def Jzb := Jba (P := Tryz.prog) (s := 56) (f := 0) (off := 0) (by kernel_rfl)
def Jza := Jba (P := Tryz.prog) (s := 56) (f := 1) (off := 2) (by kernel_rfl)
def Jy9 := Jba (P := Tryz.prog) (s := 56) (f := 2) (off := 3) (by kernel_rfl)
def Jy8 := Jba (P := Tryz.prog) (s := 56) (f := 3) (off := 4) (by kernel_rfl)
def Jy7 := Jba (P := Tryz.prog) (s := 56) (f := 4) (off := 6) (by kernel_rfl)
def Jy6 := Jba (P := Tryz.prog) (s := 56) (f := 5) (off := 8) (by kernel_rfl)
theorem Jit (v0_0 v0_1 : Value) (v1 : Value) (v2 : Value) (v3_0 v3_1 : Value) (v4_0 v4_1 : Value) (v5 : Value) (h1 : v1.cells = #[v1]) (h2 : v2.cells = #[v2]) (h5 : v5.cells = #[v5]) : Jcc Tryz.prog 56 ⟨[(0, .agg ⟨[v0_0, v0_1]⟩), (1, v1), (2, v2), (3, .agg ⟨[v3_0, v3_1]⟩), (4, .agg ⟨[v4_0, v4_1]⟩), (5, v5)]⟩ = some (.agg ⟨[v0_0, v0_1, v1, v2, v3_0, v3_1, v4_0, v4_1, v5]⟩) := by
  simp [Jcc, Kbf, Khf, Instr.fill, Jbs, h1, h2, h5]
def Kgz := And.intro (Jg7 (P := Tryz.prog) (t := 27) Jd5 Jjc) (fun (k : IntKind) (i : Int) (σ : St) => Jqz (P := Tryz.prog) (t := 27) (k := k) (i := i) (σ := σ) Jd5 Jjc)
def Kiw := Je3 (P := Tryz.prog) (t := 27) Jd5 Jjc
def Jy5 := Jba (P := Tryz.prog) (s := 58) (f := 0) (off := 0) (by kernel_rfl)
def Jy4 := Jba (P := Tryz.prog) (s := 58) (f := 1) (off := 2) (by kernel_rfl)
def Jy3 := Jba (P := Tryz.prog) (s := 58) (f := 2) (off := 3) (by kernel_rfl)
theorem Kf4 : Jg4 Tryz.prog 137 = some (.agg #[.slice none 0 0]) := by kernel_rfl
theorem Kc7 : Jf7 Tryz.prog 137 = some (fun i => (#[(0, 1)] : Array (Nat × Nat))[i]?) := by kernel_rfl
theorem Jz4   : Jcc Tryz.prog 137 ⟨[]⟩ = some (.agg ⟨[.slice none 0 0]⟩) := by
  simp [Jcc, Kf4, Kc7, Instr.fill, Jbs]
theorem Kf5 : Jg4 Tryz.prog 135 = some (.pointer none) := by kernel_rfl
theorem Kha : sz? Tryz.prog 135 = some 1 := by kernel_rfl
def Kc3 := st_n (P := Tryz.prog) (t := 135) Kha
def Kdh := Jdf (P := Tryz.prog) (t := 135) (by kernel_rfl)
def Kdo := And.intro (Jjv (P := Tryz.prog) (s := 5) (e := 2) Jek) (cvi (P := Tryz.prog) (s := 5) (e := 2) Jek Jhp)
def Klb := Jas (P := Tryz.prog) Tryz.func100 (by kernel_rfl) (by kernel_rfl)
def Kla := Jas (P := Tryz.prog) Tryz.func101 (by kernel_rfl) (by kernel_rfl)
def Kk6 := Jas (P := Tryz.prog) Tryz.func105 (by kernel_rfl) (by kernel_rfl)
def Kk7 := Jas (P := Tryz.prog) Tryz.func104 (by kernel_rfl) (by kernel_rfl)
def Kk4 := Jas (P := Tryz.prog) Tryz.func107 (by kernel_rfl) (by kernel_rfl)
def Kk5 := Jas (P := Tryz.prog) Tryz.func106 (by kernel_rfl) (by kernel_rfl)
def Jvs := Jba (P := Tryz.prog) (s := 30) (f := 10) (off := 11) (by kernel_rfl)
def Jzo := Jba (P := Tryz.prog) (s := 30) (f := 9) (off := 10) (by kernel_rfl)
def Kk3 := Jas (P := Tryz.prog) Tryz.func108 (by kernel_rfl) (by kernel_rfl)
def Kk2 := Jas (P := Tryz.prog) Tryz.func109 (by kernel_rfl) (by kernel_rfl)
def Kk1 := Jas (P := Tryz.prog) Tryz.func110 (by kernel_rfl) (by kernel_rfl)
def Jwk := Jba (P := Tryz.prog) (s := 137) (f := 0) (off := 0) (by kernel_rfl)
def Kh7 := Jdf (P := Tryz.prog) (t := 32) (by kernel_rfl)
def Jzl := Jba (P := Tryz.prog) (s := 43) (f := 0) (off := 0) (by kernel_rfl)
def Jzk := Jba (P := Tryz.prog) (s := 43) (f := 1) (off := 1) (by kernel_rfl)
theorem Jdm : Tryz.prog.underlying 110 = some (.int .u64) := by kernel_rfl
def Js7 := And.intro (Jjv (P := Tryz.prog) (s := 22) (e := 110) Jho) (cvi (P := Tryz.prog) (s := 22) (e := 110) Jho Jdm)
def Kk0 := Jas (P := Tryz.prog) Tryz.func111 (by kernel_rfl) (by kernel_rfl)
def Jzj := Jba (P := Tryz.prog) (s := 43) (f := 2) (off := 2) (by kernel_rfl)
def Jwx := And.intro (Jjv (P := Tryz.prog) (s := 2) (e := 110) Jhp) (cvi (P := Tryz.prog) (s := 2) (e := 110) Jhp Jdm)
def Jzf := Jba (P := Tryz.prog) (s := 43) (f := 6) (off := 7) (by kernel_rfl)
def Kh3 := Jdf (P := Tryz.prog) (t := 40) (by kernel_rfl)
theorem Jhl : Tryz.prog.underlying 40 = some (.slice 150) := by kernel_rfl
def Khr := Jdb (P := Tryz.prog) (t := 40) Jhl
theorem Jou : sz? Tryz.prog 150 = some 9 := by kernel_rfl
def Kis := Je3 (P := Tryz.prog) (t := 40) Jhl Jou
def Kdg := Jl4 (P := Tryz.prog) (t := 150) (n := 9) (by kernel_rfl)
theorem Juv : Jg4 Tryz.prog 150 = some (.agg #[.string ⟨#[]⟩, .string ⟨#[]⟩, .string ⟨#[]⟩, .string ⟨#[]⟩, .string ⟨#[]⟩, .string ⟨#[]⟩, .string ⟨#[]⟩, .string ⟨#[]⟩, .bool false]) := by kernel_rfl
def Kc2 := st_n (P := Tryz.prog) (t := 150) Jou
def Jwj := Jba (P := Tryz.prog) (s := 150) (f := 0) (off := 0) (by kernel_rfl)
def Kh5 := Jl4 (P := Tryz.prog) (t := 38) (n := 2) (by kernel_rfl)
def Kkz := Jas (P := Tryz.prog) Tryz.func112 (by kernel_rfl) (by kernel_rfl)
def Jwi := Jba (P := Tryz.prog) (s := 150) (f := 1) (off := 2) (by kernel_rfl)
def Kky := Jas (P := Tryz.prog) Tryz.func113 (by kernel_rfl) (by kernel_rfl)
def Jwh := Jba (P := Tryz.prog) (s := 150) (f := 2) (off := 3) (by kernel_rfl)
def Jwg := Jba (P := Tryz.prog) (s := 150) (f := 3) (off := 4) (by kernel_rfl)
def Jwf := Jba (P := Tryz.prog) (s := 150) (f := 4) (off := 6) (by kernel_rfl)
def Jze := Jba (P := Tryz.prog) (s := 43) (f := 7) (off := 8) (by kernel_rfl)
def Kh2 := Jdf (P := Tryz.prog) (t := 41) (by kernel_rfl)
theorem Jhk : Tryz.prog.underlying 41 = some (.slice 154) := by kernel_rfl
def Khq := Jdb (P := Tryz.prog) (t := 41) Jhk
theorem Jot : sz? Tryz.prog 154 = some 4 := by kernel_rfl
def Kir := Je3 (P := Tryz.prog) (t := 41) Jhk Jot
def Kdf := Jl4 (P := Tryz.prog) (t := 154) (n := 4) (by kernel_rfl)
theorem Juu : Jg4 Tryz.prog 154 = some (.agg #[.string ⟨#[]⟩, .string ⟨#[]⟩, .int .i64 0, .string ⟨#[]⟩]) := by kernel_rfl
def Kc1 := st_n (P := Tryz.prog) (t := 154) Jot
def Jwd := Jba (P := Tryz.prog) (s := 154) (f := 0) (off := 0) (by kernel_rfl)
def Jwc := Jba (P := Tryz.prog) (s := 154) (f := 1) (off := 2) (by kernel_rfl)
def Jww := And.intro (Jjv (P := Tryz.prog) (s := 3) (e := 110) Jhn) (cvi (P := Tryz.prog) (s := 3) (e := 110) Jhn Jdm)
def Jwb := Jba (P := Tryz.prog) (s := 154) (f := 2) (off := 3) (by kernel_rfl)
def Jzd := Jba (P := Tryz.prog) (s := 43) (f := 8) (off := 9) (by kernel_rfl)
def Kiv := Je3 (P := Tryz.prog) (t := 28) Jd4 Jlq
def Jzi := Jba (P := Tryz.prog) (s := 43) (f := 3) (off := 3) (by kernel_rfl)
def Jvq := Jba (P := Tryz.prog) (s := 43) (f := 10) (off := 11) (by kernel_rfl)
def Jzc := Jba (P := Tryz.prog) (s := 43) (f := 9) (off := 10) (by kernel_rfl)
def Jvp := Jba (P := Tryz.prog) (s := 43) (f := 11) (off := 12) (by kernel_rfl)
def Jzh := Jba (P := Tryz.prog) (s := 43) (f := 4) (off := 5) (by kernel_rfl)
def Kh4 := Jdf (P := Tryz.prog) (t := 39) (by kernel_rfl)
theorem Jhm : Tryz.prog.underlying 39 = some (.slice 38) := by kernel_rfl
def Khs := Jdb (P := Tryz.prog) (t := 39) Jhm
theorem Jsj : sz? Tryz.prog 38 = some 2 := by kernel_rfl
def Kit := Je3 (P := Tryz.prog) (t := 39) Jhm Jsj
def Jzg := Jba (P := Tryz.prog) (s := 43) (f := 5) (off := 6) (by kernel_rfl)
def Kkx := Jas (P := Tryz.prog) Tryz.func114 (by kernel_rfl) (by kernel_rfl)
theorem Khg : Jf7 Tryz.prog 43 = some (fun i => (#[(0, 1), (1, 1), (2, 1), (3, 2), (5, 1), (6, 1), (7, 1), (8, 1), (9, 1), (10, 1), (11, 1), (12, 1)] : Array (Nat × Nat))[i]?) := by kernel_rfl
theorem Jex (v0 : Value) (v1 : Value) (v2 : Value) (v3_0 v3_1 : Value) (v4 : Value) (v5 : Value) (v6 : Value) (v7 : Value) (v8 : Value) (h0 : v0.cells = #[v0]) (h1 : v1.cells = #[v1]) (h2 : v2.cells = #[v2]) (h4 : v4.cells = #[v4]) (h5 : v5.cells = #[v5]) (h6 : v6.cells = #[v6]) (h7 : v7.cells = #[v7]) (h8 : v8.cells = #[v8]) : Jcc Tryz.prog 43 ⟨[(0, v0), (1, v1), (2, v2), (3, .agg ⟨[v3_0, v3_1]⟩), (5, v4), (8, v5), (9, v6), (10, v7), (11, v8)]⟩ = some (.agg ⟨[v0, v1, v2, v3_0, v3_1, .slice none 0 0, v4, .slice none 0 0, .slice none 0 0, v5, v6, v7, v8]⟩) := by
  simp [Jcc, Kbg, Khg, Instr.fill, Jbs, h0, h1, h2, h4, h5, h6, h7, h8]
theorem Jus : Jcp Tryz.prog 38 2 = some #[.string ⟨#[]⟩, .string ⟨#[]⟩] := by kernel_rfl
theorem Jz7 (id : Nat) (σ : St) (v0_0 v0_1 : Value)  : Ja1 Tryz.prog 39 1 id ⟨[(0, .agg ⟨[v0_0, v0_1]⟩)]⟩ σ = some (.val (.slice (some ⟨id, 0, none⟩) 1 3) (σ.set id (.cells true 0 id [v0_0, v0_1]))) := by
  simp [Ja1, Jhm, Jsj, Jus, Instr.fill, Jbs, zrow, sliceTo, Jfx, show List.range 2 = [0, 1] from rfl]
theorem Jmi : (Tryz.prog.info? 38).isSome = true := by kernel_rfl
noncomputable def Jg1 : TypeInfo := (Tryz.prog.info? 38).get Jmi
theorem Jvg : Tryz.prog.info? 38 = some Jg1 := (Option.some_get Jmi).symm
theorem Jge : Jg1.size = 2 := by kernel_rfl
theorem Jfs : Jg1.bytes = 32 := by kernel_rfl
def Jxb := ap (P := Tryz.prog) (sT := 39) (xT := 39) (i := Jg1) Jhm Jvg Jus
def Kle := And.intro (fun (i : TypeInfo) (z : Array Value) (σ : St) (B o n k : Nat) (h0 : n ≠ 0) => Jd2 (P := Tryz.prog) (xT := 39) (i := i) (z := z) (σ := σ) (B := B) (o := o) (n := n) (k := k) Jhm h0) (fun (i : TypeInfo) (z : Array Value) (σ : St) => Jhi (P := Tryz.prog) (xT := 39) (i := i) (z := z) (σ := σ) Jhm)
theorem Kop : sz? Tryz.prog 39 = some 1 := by kernel_rfl
def Kgn := st_n (P := Tryz.prog) (t := 39) Kop
def Kkw := Jas (P := Tryz.prog) Tryz.func115 (by kernel_rfl) (by kernel_rfl)
theorem Jrg : Jcp Tryz.prog 150 9 = some #[.string ⟨#[]⟩, .string ⟨#[]⟩, .string ⟨#[]⟩, .string ⟨#[]⟩, .string ⟨#[]⟩, .string ⟨#[]⟩, .string ⟨#[]⟩, .string ⟨#[]⟩, .bool false] := by kernel_rfl
theorem Jz6 (id : Nat) (σ : St) (v0_0 v0_1 v0_2 v0_3 v0_4 v0_5 v0_6 v0_7 v0_8 : Value)  : Ja1 Tryz.prog 40 1 id ⟨[(0, .agg ⟨[v0_0, v0_1, v0_2, v0_3, v0_4, v0_5, v0_6, v0_7, v0_8]⟩)]⟩ σ = some (.val (.slice (some ⟨id, 0, none⟩) 1 10) (σ.set id (.cells true 0 id [v0_0, v0_1, v0_2, v0_3, v0_4, v0_5, v0_6, v0_7, v0_8]))) := by
  simp [Ja1, Jhl, Jou, Jrg, Instr.fill, Jbs, zrow, sliceTo, Jfx, show List.range 9 = [0, 1, 2, 3, 4, 5, 6, 7, 8] from rfl]
theorem Jkx : (Tryz.prog.info? 150).isSome = true := by kernel_rfl
noncomputable def Jfd : TypeInfo := (Tryz.prog.info? 150).get Jkx
theorem Js3 : Tryz.prog.info? 150 = some Jfd := (Option.some_get Jkx).symm
theorem Jfv : Jfd.size = 9 := by kernel_rfl
theorem Jew : Jfd.bytes = 136 := by kernel_rfl
def Jxa := ap (P := Tryz.prog) (sT := 40) (xT := 40) (i := Jfd) Jhl Js3 Jrg
def Kld := And.intro (fun (i : TypeInfo) (z : Array Value) (σ : St) (B o n k : Nat) (h0 : n ≠ 0) => Jd2 (P := Tryz.prog) (xT := 40) (i := i) (z := z) (σ := σ) (B := B) (o := o) (n := n) (k := k) Jhl h0) (fun (i : TypeInfo) (z : Array Value) (σ : St) => Jhi (P := Tryz.prog) (xT := 40) (i := i) (z := z) (σ := σ) Jhl)
theorem Koo : sz? Tryz.prog 40 = some 1 := by kernel_rfl
def Kgm := st_n (P := Tryz.prog) (t := 40) Koo
def Kkv := Jas (P := Tryz.prog) Tryz.func116 (by kernel_rfl) (by kernel_rfl)
theorem Jrf : Jcp Tryz.prog 154 4 = some #[.string ⟨#[]⟩, .string ⟨#[]⟩, .int .i64 0, .string ⟨#[]⟩] := by kernel_rfl
theorem Jz5 (id : Nat) (σ : St) (v0_0 v0_1 v0_2 v0_3 : Value)  : Ja1 Tryz.prog 41 1 id ⟨[(0, .agg ⟨[v0_0, v0_1, v0_2, v0_3]⟩)]⟩ σ = some (.val (.slice (some ⟨id, 0, none⟩) 1 5) (σ.set id (.cells true 0 id [v0_0, v0_1, v0_2, v0_3]))) := by
  simp [Ja1, Jhk, Jot, Jrf, Instr.fill, Jbs, zrow, sliceTo, Jfx, show List.range 4 = [0, 1, 2, 3] from rfl]
theorem Jkw : (Tryz.prog.info? 154).isSome = true := by kernel_rfl
noncomputable def Jfc : TypeInfo := (Tryz.prog.info? 154).get Jkw
theorem Js2 : Tryz.prog.info? 154 = some Jfc := (Option.some_get Jkw).symm
theorem Jfu : Jfc.size = 4 := by kernel_rfl
theorem Jev : Jfc.bytes = 56 := by kernel_rfl
def Jw9 := ap (P := Tryz.prog) (sT := 41) (xT := 41) (i := Jfc) Jhk Js2 Jrf
def Klc := And.intro (fun (i : TypeInfo) (z : Array Value) (σ : St) (B o n k : Nat) (h0 : n ≠ 0) => Jd2 (P := Tryz.prog) (xT := 41) (i := i) (z := z) (σ := σ) (B := B) (o := o) (n := n) (k := k) Jhk h0) (fun (i : TypeInfo) (z : Array Value) (σ : St) => Jhi (P := Tryz.prog) (xT := 41) (i := i) (z := z) (σ := σ) Jhk)
theorem Kon : sz? Tryz.prog 41 = some 1 := by kernel_rfl
def Kgl := st_n (P := Tryz.prog) (t := 41) Kon
def Kku := Jas (P := Tryz.prog) Tryz.func117 (by kernel_rfl) (by kernel_rfl)
def Koz := And.intro (Kne (P := Tryz.prog) (t := 9) Jb1) (Kr6 (P := Tryz.prog) (t := 9) Jb1)
def Kks := Jas (P := Tryz.prog) Tryz.func119 (by kernel_rfl) (by kernel_rfl)
def Kkt := Jas (P := Tryz.prog) Tryz.func118 (by kernel_rfl) (by kernel_rfl)
def Kkr := Jas (P := Tryz.prog) Tryz.func120 (by kernel_rfl) (by kernel_rfl)
def Kkq := Jas (P := Tryz.prog) Tryz.func121 (by kernel_rfl) (by kernel_rfl)
def Kkp := Jas (P := Tryz.prog) Tryz.func122 (by kernel_rfl) (by kernel_rfl)
def Kko := Jas (P := Tryz.prog) Tryz.func124 (by kernel_rfl) (by kernel_rfl)
def Kkn := Jas (P := Tryz.prog) Tryz.func126 (by kernel_rfl) (by kernel_rfl)
def Kkm := Jas (P := Tryz.prog) Tryz.func127 (by kernel_rfl) (by kernel_rfl)
def Kkl := Jas (P := Tryz.prog) Tryz.func128 (by kernel_rfl) (by kernel_rfl)
def Kkk := Jas (P := Tryz.prog) Tryz.func129 (by kernel_rfl) (by kernel_rfl)
def Kkj := Jas (P := Tryz.prog) Tryz.func130 (by kernel_rfl) (by kernel_rfl)
def Kki := Jas (P := Tryz.prog) Tryz.func131 (by kernel_rfl) (by kernel_rfl)
def Kkh := Jas (P := Tryz.prog) Tryz.func132 (by kernel_rfl) (by kernel_rfl)
theorem Jkd (v0 : Value) (v1 : Value) (v2 : Value) (v3 : Value) (v4 : Value) (h0 : v0.cells = #[v0]) (h1 : v1.cells = #[v1]) (h2 : v2.cells = #[v2]) (h3 : v3.cells = #[v3]) (h4 : v4.cells = #[v4]) : Jcc Tryz.prog 30 ⟨[(0, v0), (1, v1), (2, v2), (8, v3), (9, v4)]⟩ = some (.agg ⟨[v0, v1, v2, .string ⟨#[]⟩, .string ⟨#[]⟩, .slice none 0 0, .string ⟨#[]⟩, .slice none 0 0, .slice none 0 0, v3, v4, .int .i64 0, .int .u32 0]⟩) := by
  simp [Jcc, Jr9, Juy, Instr.fill, Jbs, h0, h1, h2, h3, h4]
theorem Ksb : Jg4 Tryz.prog 173 = some (.agg #[.slice none 0 0, .bool false]) := by kernel_rfl
theorem Ksc : Jg4 Tryz.prog 171 = some (.pointer none) := by kernel_rfl
def Kdq := And.intro (Jjv (P := Tryz.prog) (s := 2) (e := 5) Jhp) (cvi (P := Tryz.prog) (s := 2) (e := 5) Jhp Jek)
theorem Jpa (v0 : Value) (v1 : Value) (v2 : Value) (h0 : v0.cells = #[v0]) (h1 : v1.cells = #[v1]) (h2 : v2.cells = #[v2]) : Jcc Tryz.prog 30 ⟨[(0, v0), (1, v1), (2, v2)]⟩ = some (.agg ⟨[v0, v1, v2, .string ⟨#[]⟩, .string ⟨#[]⟩, .slice none 0 0, .string ⟨#[]⟩, .slice none 0 0, .slice none 0 0, .slice none 0 0, .int .u8 0, .int .i64 0, .int .u32 0]⟩) := by
  simp [Jcc, Jr9, Juy, Instr.fill, Jbs, h0, h1, h2]
def Jv9 := Jba (P := Tryz.prog) (s := 173) (f := 1) (off := 1) (by kernel_rfl)
def Jwa := Jba (P := Tryz.prog) (s := 173) (f := 0) (off := 0) (by kernel_rfl)
def Koh := st_n (P := Tryz.prog) (t := 3) Jlq
def Jv6 := Jba (P := Tryz.prog) (s := 185) (f := 2) (off := 2) (by kernel_rfl)
def Kgo := st_n (P := Tryz.prog) (t := 38) Jsj
def Jv7 := Jba (P := Tryz.prog) (s := 185) (f := 1) (off := 1) (by kernel_rfl)
def Kkg := Jas (P := Tryz.prog) Tryz.func153 (by kernel_rfl) (by kernel_rfl)
def Jzz := Jba (P := Tryz.prog) (s := 24) (f := 0) (off := 0) (by kernel_rfl)
def Kkf := Jas (P := Tryz.prog) Tryz.func160 (by kernel_rfl) (by kernel_rfl)
def Jzy := Jba (P := Tryz.prog) (s := 24) (f := 1) (off := 1) (by kernel_rfl)
def Kke := Jas (P := Tryz.prog) Tryz.func161 (by kernel_rfl) (by kernel_rfl)
theorem Koq : sz? Tryz.prog 32 = some 1 := by kernel_rfl
def Jwo := Jba (P := Tryz.prog) (s := 126) (f := 0) (off := 0) (by kernel_rfl)
def Jv5 := Jba (P := Tryz.prog) (s := 210) (f := 0) (off := 0) (by kernel_rfl)
def Jv4 := Jba (P := Tryz.prog) (s := 210) (f := 1) (off := 1) (by kernel_rfl)
def Jv3 := Jba (P := Tryz.prog) (s := 210) (f := 2) (off := 2) (by kernel_rfl)
def Kgp := st_n (P := Tryz.prog) (t := 32) Koq
def Jv1 := Jba (P := Tryz.prog) (s := 210) (f := 4) (off := 4) (by kernel_rfl)
def Jv2 := Jba (P := Tryz.prog) (s := 210) (f := 3) (off := 3) (by kernel_rfl)
def Jvz := Jba (P := Tryz.prog) (s := 220) (f := 0) (off := 0) (by kernel_rfl)
def Jvy := Jba (P := Tryz.prog) (s := 220) (f := 1) (off := 1) (by kernel_rfl)
def Jyz := Jba (P := Tryz.prog) (s := 85) (f := 3) (off := 4) (by kernel_rfl)
def Kkd := Jas (P := Tryz.prog) Tryz.func176 (by kernel_rfl) (by kernel_rfl)
def Kkc := Jas (P := Tryz.prog) Tryz.func177 (by kernel_rfl) (by kernel_rfl)
def Kkb := Jas (P := Tryz.prog) Tryz.func178 (by kernel_rfl) (by kernel_rfl)
def Jwt := Jba (P := Tryz.prog) (s := 100) (f := 2) (off := 2) (by kernel_rfl)
def Jwr := Jba (P := Tryz.prog) (s := 100) (f := 4) (off := 16) (by kernel_rfl)
def Jys := Jba (P := Tryz.prog) (s := 89) (f := 1) (off := 1) (by kernel_rfl)
theorem Krd : sz? Tryz.prog 4 = some 1 := by kernel_rfl
def Kog := st_n (P := Tryz.prog) (t := 4) Krd
def Jwn := Jba (P := Tryz.prog) (s := 126) (f := 1) (off := 1) (by kernel_rfl)
theorem Jvk : (Tryz.prog.info? 22).isSome = true := by kernel_rfl
noncomputable def Jvl : TypeInfo := (Tryz.prog.info? 22).get Jvk
theorem Jpv : Jvl.size = 1 := by kernel_rfl
theorem Jo3 : Jvl.bytes = 4 := by kernel_rfl
def Jyr := Jba (P := Tryz.prog) (s := 89) (f := 2) (off := 2) (by kernel_rfl)
def Jwq := Jba (P := Tryz.prog) (s := 114) (f := 0) (off := 0) (by kernel_rfl)
def Kka := Jas (P := Tryz.prog) Tryz.func188 (by kernel_rfl) (by kernel_rfl)
def Koj := And.intro (fun (v : ByteArray) (k : IntKind) (i : Int) (σ : St) => Krn (P := Tryz.prog) (t := 9) (v := v) (k := k) (i := i) (σ := σ) Jb1) (And.intro (fun (v : ByteArray) (k : IntKind) (i : Int) (σ : St) => Kro (P := Tryz.prog) (t := 9) (v := v) (k := k) (i := i) (σ := σ) Jb1) (fun (v : ByteArray) (k k2 : IntKind) (i j : Int) (σ : St) => Kmg (P := Tryz.prog) (t := 9) (v := v) (k := k) (k' := k2) (i := i) (j := j) (σ := σ) Jb1))
def Kk8 := Jas (P := Tryz.prog) Tryz.func103 (by kernel_rfl) (by kernel_rfl)
def Kk9 := Jas (P := Tryz.prog) Tryz.func102 (by kernel_rfl) (by kernel_rfl)
def Kad := ap (P := Tryz.prog) (sT := 32) (xT := 9) (i := Jct) Jc2 Jkc Jnd
def Kpn := fun (z : Array Value) (σ : St) (s : ByteArray) => Jof (P := Tryz.prog) (xT := 9) (i := Jct) (z := z) (σ := σ) Jb1 Jdd (s := s)
def Jwy := And.intro (Jjv (P := Tryz.prog) (s := 110) (e := 5) Jdm) (cvi (P := Tryz.prog) (s := 110) (e := 5) Jdm Jek)
def Jzn := Jba (P := Tryz.prog) (s := 38) (f := 0) (off := 0) (by kernel_rfl)
def Jzm := Jba (P := Tryz.prog) (s := 38) (f := 1) (off := 1) (by kernel_rfl)
theorem Kn3 : Jg4 Tryz.prog 38 = some (.agg #[.string ⟨#[]⟩, .string ⟨#[]⟩]) := by kernel_rfl
theorem Kc6 : Jf7 Tryz.prog 150 = some (fun i => (#[(0, 2), (2, 1), (3, 1), (4, 2), (6, 2), (8, 1)] : Array (Nat × Nat))[i]?) := by kernel_rfl
theorem Jic (v0_0 v0_1 : Value) (v1 : Value) (v2 : Value) (v3_0 v3_1 : Value) (v4_0 v4_1 : Value) (v5 : Value) (h1 : v1.cells = #[v1]) (h2 : v2.cells = #[v2]) (h5 : v5.cells = #[v5]) : Jcc Tryz.prog 150 ⟨[(0, .agg ⟨[v0_0, v0_1]⟩), (1, v1), (2, v2), (3, .agg ⟨[v3_0, v3_1]⟩), (4, .agg ⟨[v4_0, v4_1]⟩), (5, v5)]⟩ = some (.agg ⟨[v0_0, v0_1, v1, v2, v3_0, v3_1, v4_0, v4_1, v5]⟩) := by
  simp [Jcc, Juv, Kc6, Instr.fill, Jbs, h1, h2, h5]
theorem Kc5 : Jf7 Tryz.prog 154 = some (fun i => (#[(0, 2), (2, 1), (3, 1)] : Array (Nat × Nat))[i]?) := by kernel_rfl
theorem Jm2 (v0_0 v0_1 : Value) (v1 : Value) (v2 : Value) (h1 : v1.cells = #[v1]) (h2 : v2.cells = #[v2]) : Jcc Tryz.prog 154 ⟨[(0, .agg ⟨[v0_0, v0_1]⟩), (1, v1), (2, v2)]⟩ = some (.agg ⟨[v0_0, v0_1, v1, v2]⟩) := by
  simp [Jcc, Juu, Kc5, Instr.fill, Jbs, h1, h2]
def Kj9 := Jas (P := Tryz.prog) Tryz.func190 (by kernel_rfl) (by kernel_rfl)
def Kpe := Jas (P := Tryz.prog) Tryz.func64 (by kernel_rfl) (by kernel_rfl)
def Kj7 := Jas (P := Tryz.prog) Tryz.func192 (by kernel_rfl) (by kernel_rfl)
def Kj8 := Jas (P := Tryz.prog) Tryz.func191 (by kernel_rfl) (by kernel_rfl)
def Kj5 := Jas (P := Tryz.prog) Tryz.func194 (by kernel_rfl) (by kernel_rfl)
def Kj6 := Jas (P := Tryz.prog) Tryz.func193 (by kernel_rfl) (by kernel_rfl)
def Kj3 := Jas (P := Tryz.prog) Tryz.func196 (by kernel_rfl) (by kernel_rfl)
def Kj4 := Jas (P := Tryz.prog) Tryz.func195 (by kernel_rfl) (by kernel_rfl)
def Kj2 := Jas (P := Tryz.prog) Tryz.func197 (by kernel_rfl) (by kernel_rfl)
def Kj1 := Jas (P := Tryz.prog) Tryz.func198 (by kernel_rfl) (by kernel_rfl)
def Kj0 := Jas (P := Tryz.prog) Tryz.func200 (by kernel_rfl) (by kernel_rfl)
def Jwe := Jba (P := Tryz.prog) (s := 150) (f := 5) (off := 8) (by kernel_rfl)
def Kjz := Jas (P := Tryz.prog) Tryz.func201 (by kernel_rfl) (by kernel_rfl)
def Kjy := Jas (P := Tryz.prog) Tryz.func202 (by kernel_rfl) (by kernel_rfl)
def Jv8 := Jba (P := Tryz.prog) (s := 185) (f := 0) (off := 0) (by kernel_rfl)
def Kox := Krv (P := Tryz.prog) (t := 9) Jb1
theorem Jsd : Tryz.prog.underlying 21 = some (.int .i32) := by kernel_rfl
def Jz3 := And.intro (Jjv (P := Tryz.prog) (s := 21) (e := 5) Jsd) (cvi (P := Tryz.prog) (s := 21) (e := 5) Jsd Jek)
def Kjx := Jas (P := Tryz.prog) Tryz.func209 (by kernel_rfl) (by kernel_rfl)
def Kjw := Jas (P := Tryz.prog) Tryz.func210 (by kernel_rfl) (by kernel_rfl)
theorem Jvh : (Tryz.prog.info? 32).isSome = true := by kernel_rfl
noncomputable def Jvi : TypeInfo := (Tryz.prog.info? 32).get Jvh
theorem Jpu : Jvi.size = 1 := by kernel_rfl
theorem Jo2 : Jvi.bytes = 24 := by kernel_rfl
def Jvw := Jba (P := Tryz.prog) (s := 253) (f := 1) (off := 1) (by kernel_rfl)
def Jvu := Jba (P := Tryz.prog) (s := 253) (f := 3) (off := 3) (by kernel_rfl)
def Jvt := Jba (P := Tryz.prog) (s := 253) (f := 4) (off := 4) (by kernel_rfl)
def Jvv := Jba (P := Tryz.prog) (s := 253) (f := 2) (off := 2) (by kernel_rfl)
def Jvx := Jba (P := Tryz.prog) (s := 253) (f := 0) (off := 0) (by kernel_rfl)
def Jv0 := Jba (P := Tryz.prog) (s := 210) (f := 5) (off := 5) (by kernel_rfl)
def Jz0 := Ksv (P := Tryz.prog) (s := 9) (e := 32) Jb1 Jc2 Jek
def Ko6 := Kr7 (P := Tryz.prog) (t := 9) Jb1
def Kjv := Jas (P := Tryz.prog) Tryz.func232 (by kernel_rfl) (by kernel_rfl)
def Khy := Jdf (P := Tryz.prog) (t := 68) (by kernel_rfl)
def Kju := Jas (P := Tryz.prog) Tryz.func233 (by kernel_rfl) (by kernel_rfl)
def Kde := Jdf (P := Tryz.prog) (t := 163) (by kernel_rfl)
def Kjt := Jas (P := Tryz.prog) Tryz.func234 (by kernel_rfl) (by kernel_rfl)
def Kdd := Jdf (P := Tryz.prog) (t := 165) (by kernel_rfl)
def Kjs := Jas (P := Tryz.prog) Tryz.func235 (by kernel_rfl) (by kernel_rfl)
def Kjq := Jas (P := Tryz.prog) Tryz.func237 (by kernel_rfl) (by kernel_rfl)
def Kjr := Jas (P := Tryz.prog) Tryz.func236 (by kernel_rfl) (by kernel_rfl)
def Kjp := Jas (P := Tryz.prog) Tryz.func238 (by kernel_rfl) (by kernel_rfl)
def Kjo := Jas (P := Tryz.prog) Tryz.func239 (by kernel_rfl) (by kernel_rfl)
def Kjn := Jas (P := Tryz.prog) Tryz.func240 (by kernel_rfl) (by kernel_rfl)
def Kjm := Jas (P := Tryz.prog) Tryz.func243 (by kernel_rfl) (by kernel_rfl)
def Kji := Jas (P := Tryz.prog) Tryz.func247 (by kernel_rfl) (by kernel_rfl)
def Kjh := Jas (P := Tryz.prog) Tryz.func248 (by kernel_rfl) (by kernel_rfl)
def Kjg := Jas (P := Tryz.prog) Tryz.func249 (by kernel_rfl) (by kernel_rfl)
theorem Krc : Jg4 Tryz.prog 3 = some (.int .i64 0) := by kernel_rfl
def Kjf := Jas (P := Tryz.prog) Tryz.func279 (by kernel_rfl) (by kernel_rfl)
def Kje := Jas (P := Tryz.prog) Tryz.func280 (by kernel_rfl) (by kernel_rfl)
def Kdb := Jdf (P := Tryz.prog) (t := 242) (by kernel_rfl)
def Jw5 := Jas (P := Tryz.prog) Tryz.func281 (by kernel_rfl) (by kernel_rfl)
theorem Jd3 : Tryz.prog.underlying 280 = some (.slice 9) := by kernel_rfl
def Kda := Jdb (P := Tryz.prog) (t := 280) Jd3
def Kdj := Je3 (P := Tryz.prog) (t := 280) Jd3 Jsi
def Kjd := Jas (P := Tryz.prog) Tryz.func282 (by kernel_rfl) (by kernel_rfl)
def Kjk := Jas (P := Tryz.prog) Tryz.func245 (by kernel_rfl) (by kernel_rfl)
def Kjj := Jas (P := Tryz.prog) Tryz.func246 (by kernel_rfl) (by kernel_rfl)
def Kjl := Jas (P := Tryz.prog) Tryz.func244 (by kernel_rfl) (by kernel_rfl)
def Kjc := Jas (P := Tryz.prog) Tryz.func283 (by kernel_rfl) (by kernel_rfl)
def Kjb := Jas (P := Tryz.prog) Tryz.func284 (by kernel_rfl) (by kernel_rfl)
def Kdc := Jdf (P := Tryz.prog) (t := 207) (by kernel_rfl)
def Jw4 := Jas (P := Tryz.prog) Tryz.func289 (by kernel_rfl) (by kernel_rfl)
def Kja := Jas (P := Tryz.prog) Tryz.func290 (by kernel_rfl) (by kernel_rfl)
def Ki9 := Jas (P := Tryz.prog) Tryz.func291 (by kernel_rfl) (by kernel_rfl)
def Ki8 := Jas (P := Tryz.prog) Tryz.func292 (by kernel_rfl) (by kernel_rfl)
theorem Kbd : Jcp Tryz.prog 9 1 = some #[.string ⟨#[]⟩] := by kernel_rfl
theorem Jw7 (id : Nat) (σ : St) (v0 : Value) (h0 : v0.cells = #[v0]) : Ja1 Tryz.prog 280 1 id ⟨[(0, v0)]⟩ σ = some (.val (.slice (some ⟨id, 0, none⟩) 1 2) (σ.set id (.cells true 0 id [v0]))) := by
  simp [Ja1, Jd3, Jsi, Kbd, Instr.fill, Jbs, zrow, sliceTo, Jfx, h0, show List.range 1 = [0] from rfl]
theorem Joz : (Tryz.prog.info? 9).isSome = true := by kernel_rfl
noncomputable def Jer : TypeInfo := (Tryz.prog.info? 9).get Joz
theorem Jyn : Tryz.prog.info? 9 = some Jer := (Option.some_get Joz).symm
theorem Jhu : Jer.size = 1 := by kernel_rfl
theorem Jgb : Jer.bytes = 16 := by kernel_rfl
def Jqh := ap (P := Tryz.prog) (sT := 280) (xT := 280) (i := Jer) Jd3 Jyn Kbd
def Kdr := And.intro (fun (i : TypeInfo) (z : Array Value) (σ : St) (B o n k : Nat) (h0 : n ≠ 0) => Jd2 (P := Tryz.prog) (xT := 280) (i := i) (z := z) (σ := σ) (B := B) (o := o) (n := n) (k := k) Jd3 h0) (fun (i : TypeInfo) (z : Array Value) (σ : St) => Jhi (P := Tryz.prog) (xT := 280) (i := i) (z := z) (σ := σ) Jd3)
def Kae := ap (P := Tryz.prog) (sT := 32) (xT := 3) (i := Jct) Jc2 Jkc Jnd
def Kod := And.intro Kh8 (And.intro Kpm (And.intro Kgq (And.intro Kpl (And.intro Kpj (And.intro Kpk (And.intro Kpi (And.intro Kph (And.intro Ko7 (And.intro Kpg (And.intro Kpf (And.intro Jc2 (And.intro Kht (And.intro Kgx (And.intro Jr9 (And.intro Kbg (And.intro Kgk (And.intro Kh1 (And.intro Jek Jhn))))))))))))))))))
def Koc := And.intro Kdn (And.intro Kdp (And.intro Jz8 (And.intro Jb1 (And.intro Jz1 (And.intro Js9 (And.intro Jo9 (And.intro Kaa (And.intro Jxe (And.intro Jgc (And.intro Jfq (And.intro Klh (And.intro Jz9 (And.intro Jxd (And.intro Js1 (And.intro Jpt (And.intro Klg (And.intro Kac (And.intro Jyu Jy0))))))))))))))))))
def Kob := And.intro Kid (And.intro Jyy (And.intro Ko0 (And.intro Jy1 (And.intro Ko4 (And.intro Jyx (And.intro Ko2 (And.intro Jyt (And.intro Ko1 (And.intro Jd4 (And.intro Khu (And.intro Jwv (And.intro Ko3 (And.intro Jws (And.intro Kh9 (And.intro Jwu (And.intro Jy2 (And.intro Kie (And.intro Jyw Kib))))))))))))))))))
def Koa := And.intro Jd6 (And.intro Khw (And.intro Jyv (And.intro Kia (And.intro Jd5 (And.intro Khv (And.intro Jho (And.intro Jhp (And.intro Jz2 (And.intro Kab (And.intro Jxf (And.intro Jgd (And.intro Jfr (And.intro Kli (And.intro Kdi (And.intro Jwp (And.intro Kbf (And.intro Kgj (And.intro Kbe Kgi))))))))))))))))))
def Kn9 := And.intro Kh0 (And.intro Khz (And.intro Jwm (And.intro Jwl (And.intro Kh6 (And.intro Jzw (And.intro Kgw (And.intro Jzx (And.intro Jvr (And.intro Jzv (And.intro Koi (And.intro Jzs (And.intro Koe (And.intro Jxc (And.intro Jdd (And.intro Jps (And.intro Klf (And.intro Kiu (And.intro Kof Jzu))))))))))))))))))
def Kn8 := And.intro Kpd (And.intro Kpc (And.intro Kgv (And.intro Jzt (And.intro Kgu (And.intro Jzr (And.intro Kgt (And.intro Jzq (And.intro Kgs (And.intro Jzp (And.intro Kgy (And.intro Kpb (And.intro Kgr (And.intro Kic (And.intro Jd7 (And.intro Khx (And.intro Kg1 (And.intro Kiy (And.intro Kbh Jxg))))))))))))))))))
def Kn7 := And.intro Jgf (And.intro Jft (And.intro Klj (And.intro Kg0 (And.intro Kix (And.intro Jzb (And.intro Jza (And.intro Jy9 (And.intro Jy8 (And.intro Jy7 (And.intro Jy6 (And.intro Jit (And.intro Kgz (And.intro Kiw (And.intro Jy5 (And.intro Jy4 (And.intro Jy3 (And.intro Jz4 (And.intro Kf5 Kc3))))))))))))))))))
def Kn6 := And.intro Kdh (And.intro Kdo (And.intro Klb (And.intro Kla (And.intro Kk6 (And.intro Kk7 (And.intro Kk4 (And.intro Kk5 (And.intro Jvs (And.intro Jzo (And.intro Kk3 (And.intro Kk2 (And.intro Kk1 (And.intro Jwk (And.intro Kh7 (And.intro Jzl (And.intro Jzk (And.intro Jdm (And.intro Js7 Kk0))))))))))))))))))
def Kn5 := And.intro Jzj (And.intro Jwx (And.intro Jzf (And.intro Kh3 (And.intro Jhl (And.intro Khr (And.intro Kis (And.intro Kdg (And.intro Juv (And.intro Kc2 (And.intro Jwj (And.intro Kh5 (And.intro Kkz (And.intro Jwi (And.intro Kky (And.intro Jwh (And.intro Jwg (And.intro Jwf (And.intro Jze Kh2))))))))))))))))))
def Kn4 := And.intro Jhk (And.intro Khq (And.intro Kir (And.intro Kdf (And.intro Juu (And.intro Kc1 (And.intro Jwd (And.intro Jwc (And.intro Jww (And.intro Jwb (And.intro Jzd (And.intro Kiv (And.intro Jzi (And.intro Jvq (And.intro Jzc (And.intro Jvp (And.intro Jzh (And.intro Kh4 (And.intro Jhm Khs))))))))))))))))))
def Kgg := And.intro Kit (And.intro Jzg (And.intro Kkx (And.intro Jex (And.intro Jz7 (And.intro Jxb (And.intro Jge (And.intro Jfs (And.intro Kle (And.intro Kgn (And.intro Kkw (And.intro Jz6 (And.intro Jxa (And.intro Jfv (And.intro Jew (And.intro Kld (And.intro Kgm (And.intro Kkv (And.intro Jz5 Jw9))))))))))))))))))
def Kgf := And.intro Jfu (And.intro Jev (And.intro Klc (And.intro Kgl (And.intro Kku (And.intro Koz (And.intro Kks (And.intro Kkt (And.intro Kkr (And.intro Kkq (And.intro Kkp (And.intro Kko (And.intro Kkn (And.intro Kkm (And.intro Kkl (And.intro Kkk (And.intro Kkj (And.intro Kki (And.intro Kkh Jkd))))))))))))))))))
def Kge := And.intro Kdq (And.intro Jpa (And.intro Jv9 (And.intro Jwa (And.intro Koh (And.intro Jv6 (And.intro Kgo (And.intro Jv7 (And.intro Kkg (And.intro Jzz (And.intro Kkf (And.intro Jzy (And.intro Kke (And.intro Jwo (And.intro Jv5 (And.intro Jv4 (And.intro Jv3 (And.intro Kgp (And.intro Jv1 Jv2))))))))))))))))))
def Kgd := And.intro Jvz (And.intro Jvy (And.intro Jyz (And.intro Kkd (And.intro Kkc (And.intro Kkb (And.intro Jwt (And.intro Jwr (And.intro Jys (And.intro Kog (And.intro Jwn (And.intro Jpv (And.intro Jo3 (And.intro Jyr (And.intro Jwq (And.intro Kka (And.intro Koj (And.intro Kk8 (And.intro Kk9 Kad))))))))))))))))))
def Kgc := And.intro Kpn (And.intro Jwy (And.intro Jzn (And.intro Jzm (And.intro Kn3 (And.intro Jic (And.intro Jm2 (And.intro Kj9 (And.intro Kpe (And.intro Kj7 (And.intro Kj8 (And.intro Kj5 (And.intro Kj6 (And.intro Kj3 (And.intro Kj4 (And.intro Kj2 (And.intro Kj1 (And.intro Kj0 (And.intro Jwe Kjz))))))))))))))))))
def Kgb := And.intro Kjy (And.intro Jv8 (And.intro Kox (And.intro Jsd (And.intro Jz3 (And.intro Kjx (And.intro Kjw (And.intro Jpu (And.intro Jo2 (And.intro Jvw (And.intro Jvu (And.intro Jvt (And.intro Jvv (And.intro Jvx (And.intro Jv0 (And.intro Jz0 (And.intro Ko6 (And.intro Kjv (And.intro Khy Kju))))))))))))))))))
def Kga := And.intro Kde (And.intro Kjt (And.intro Kdd (And.intro Kjs (And.intro Kjq (And.intro Kjr (And.intro Kjp (And.intro Kjo (And.intro Kjn (And.intro Kjm (And.intro Kji (And.intro Kjh (And.intro Kjg (And.intro Krc (And.intro Kjf (And.intro Kje (And.intro Kdb (And.intro Jw5 (And.intro Jd3 Kda))))))))))))))))))
def Kf9 := And.intro Kdj (And.intro Kjd (And.intro Kjk (And.intro Kjj (And.intro Kjl (And.intro Kjc (And.intro Kjb (And.intro Kdc (And.intro Jw4 (And.intro Kja (And.intro Ki9 (And.intro Ki8 (And.intro Jw7 (And.intro Jqh (And.intro Jhu (And.intro Jgb (And.intro Kdr Kae))))))))))))))))
end Go.Proofs
namespace Go.Ev
open Go
set_option linter.unusedVariables false
set_option linter.unusedSimpArgs false
set_option linter.defProp false
section
variable {id : Nat} {σ : St}
def appG (i : TypeInfo) (A len k id n : Nat) (nc : List Value) (σ : St) (o : Option AObj) : Option ARes := match o with
  | some (.cells true ver F c) => if n ≠ 0 ∧ k = i.size + 1 ∧ c.length = len * i.size ∧ len + n ≤ 9223372036854775807 ∧ (2 * (len + n) + 1000) * i.bytes ≤ 281474976710656 ∧ nc.all (·.oneCell') = true then
      some (.val (.slice (some ⟨id, 0, none⟩) (len + n) (i.size + 1)) (((((σ.set A (.cells false ver F c)).set id (.cells true ver F (c ++ nc))).setFam F id).setHint A (len * i.size)).setHint id (len * i.size + nc.length)))
    else appE i (.slice (some ⟨A, 0, none⟩) len k) id (some (n, nc)) σ
  | _ => appE i (.slice (some ⟨A, 0, none⟩) len k) id (some (n, nc)) σ
theorem Kn2 {i : TypeInfo} {A len k n : Nat} {nc : List Value} : appE i (.slice (some ⟨A, 0, none⟩) len k) id (some (n, nc)) σ = appG i A len k id n nc σ (σ.get A) := by
  unfold appG
  split
  · rename_i ver F c hA
    split
    · rename_i h
      obtain ⟨h0, rfl, h2, h3, h4, h5⟩ := h
      exact Kn1 hA h2 h0 h3 h4 h5
    · rfl
  · rfl
theorem Jkq {i : TypeInfo} {A len k n ver F : Nat} {c nc : List Value} (h0 : n ≠ 0) (hk : k = i.size + 1) (hc : c.length = len * i.size) (h1 : len + n ≤ 9223372036854775807) (h2 : (2 * (len + n) + 1000) * i.bytes ≤ 281474976710656) (h3 : nc.all (·.oneCell') = true) :
    appG i A len k id n nc σ (some (.cells true ver F c)) = some (.val (.slice (some ⟨id, 0, none⟩) (len + n) (i.size + 1)) (((((σ.set A (.cells false ver F c)).set id (.cells true ver F (c ++ nc))).setFam F id).setHint A (len * i.size)).setHint id (len * i.size + nc.length))) := by
  simp only [appG]; rw [if_pos ⟨h0, hk, hc, h1, h2, h3⟩]
theorem Kns {A B : Nat} {o : AObj} : (σ.set A o).get B = if A = B then some o else σ.get B := by simp
theorem Kfq {n A : Nat} : (σ.bump n).get A = σ.get A := nr rfl
theorem Knt {F O A : Nat} : (σ.setFam F O).get A = σ.get A := nr rfl
theorem Kfp {B n A : Nat} : (σ.setHint B n).get A = σ.get A := nr rfl
theorem Ke4 {A : Nat} {o : AObj} : (σ.set A o).next = σ.next := nr rfl
theorem Kcd {n : Nat} : (σ.bump n).next = σ.next + n := nr rfl
theorem Ke5 {F O : Nat} : (σ.setFam F O).next = σ.next := nr rfl
theorem Kcc {B n : Nat} : (σ.setHint B n).next = σ.next := nr rfl
theorem Kfr {A F : Nat} {o : AObj} : (σ.set A o).famO F = σ.famO F := nr rfl
theorem Kcq {n F : Nat} : (σ.bump n).famO F = σ.famO F := nr rfl
theorem Kfs {F O F' : Nat} : (σ.setFam F O).famO F' = if F = F' then some O else σ.famO F' := by simp
theorem Kcp {B n F : Nat} : (σ.setHint B n).famO F = σ.famO F := nr rfl
def stOf (next : Nat) : List (Nat × AObj) → St
  | [] => { heap := .nil, fams := .nil, next := next }
  | (A, o) :: l => (stOf next l).set A o
theorem Jl8 {next A : Nat} : (stOf next []).get A = none := by
  simp only [stOf, St.get]; cases path A <;> rfl
theorem Jhe {next A B : Nat} {o : AObj} {l : List (Nat × AObj)} : (stOf next ((A, o) :: l)).get B = if A = B then some o else (stOf next l).get B := by
  simp [stOf]
theorem Jn7 {next F : Nat} : ∀ {l : List (Nat × AObj)}, (stOf next l).famO F = none
  | [] => by simp only [stOf, St.famO]; cases path F <;> rfl
  | (A, o) :: l => by simp only [stOf, St.famO_set]; exact Jn7
theorem Jnv {next : Nat} : ∀ {l : List (Nat × AObj)}, (stOf next l).next = next
  | [] => rfl
  | (A, o) :: l => by simp only [stOf, St.next_set]; exact Jnv
theorem Kqn {k : IntKind} {n : Int} : (Value.int k n).oneCell' = true := nr rfl
theorem Kna {b : Bool} : (Value.bool b).oneCell' = true := nr rfl
theorem Kb6 {s : ByteArray} : (Value.string s).oneCell' = true := nr rfl
theorem Kqm {a : Option Addr} : (Value.pointer a).oneCell' = true := nr rfl
theorem Kez {a : Option Addr} {n k : Nat} : (Value.slice a n k).oneCell' = true := nr rfl
theorem Km9 {f : Fn} {a b : Array Value} : (Value.func f a b).oneCell' = true := nr rfl
theorem Kfx {k : IntKind} {n : Int} : (Value.int k n).cells = #[.int k n] := nr rfl
theorem Kcz {b : Bool} : (Value.bool b).cells = #[.bool b] := nr rfl
theorem Jul {s : ByteArray} : (Value.string s).cells = #[.string s] := nr rfl
theorem Kfw {a : Option Addr} : (Value.pointer a).cells = #[.pointer a] := nr rfl
theorem Jyf {a : Option Addr} {n k : Nat} : (Value.slice a n k).cells = #[.slice a n k] := nr rfl
theorem cells_func {f : Fn} {a b : Array Value} : (Value.func f a b).cells = #[.func f a b] := nr rfl
theorem toList_mk {l : List Value} : (⟨l⟩ : Array Value).toList = l := nr rfl
theorem Kma {l : List Value} : l.toArray = ⟨l⟩ := nr rfl
end
def bO (v : Value) : Option Bool := match v with
  | .bool b => some b
  | _ => none
theorem Kra {b : Bool} : bO (.bool b) = some b := nr rfl
theorem Kn0 : bO undef = none := nr rfl
def yG (o : Option Oper) (env : Env) : Option Bool := match o with
  | some o => match o.dst with
    | some d => bO (eget env d)
    | none => none
  | none => none
theorem Kp7 {d : Nat} {op : Op} {ty : TypeId} {pos : String} {af : Array Edge} {gd : Option (Nat × Bool)} {env : Env} : yG (some { dst := some d, op := op, type := ty, pos := pos, after := af, guard := gd }) env = bO (eget env d) := nr rfl
theorem Kd6 {l : List Oper} {env : Env} {j : Nat} : Jg5 ⟨l⟩ env j = yG (l[j]?) env := by
  unfold Jg5 yG
  have : (⟨l⟩ : Array Oper)[j]? = l[j]? := by simp
  rw [this]
  cases l[j]? with
  | none => rfl
  | some o =>
    simp only [Option.bind_some]
    cases o.dst with
    | none => rfl
    | some d => simp only; unfold bO; cases eget env d <;> rfl
def gW (y : Option Bool) (w : Bool) : Bool := match y with
  | some b => b == w
  | none => false
theorem Ksn : gW (some true) true = true := nr rfl
theorem Kso : gW (some true) false = false := nr rfl
theorem Ksp : gW (some false) true = false := nr rfl
theorem Ksq : gW (some false) false = true := nr rfl
theorem Kq8 {w : Bool} : gW none w = false := nr rfl
theorem Jxl {d : Option Nat} {op : Op} {ty : TypeId} {pos : String} {af : Array Edge} {j : Nat} {w : Bool} {ops : Array Oper} {env : Env} : Jbg ops env { dst := d, op := op, type := ty, pos := pos, after := af, guard := some (j, w) } = gW (Jg5 ops env j) w := by
  unfold Jbg gW
  simp only
  cases Jg5 ops env j with
  | none => rfl
  | some b => cases b <;> cases w <;> rfl
theorem Ke8 {f : Nat × Operand → Nat × Value} {l : List (Nat × Operand)} : (⟨l⟩ : Array (Nat × Operand)).map f = ⟨l.map f⟩ := by simp
def Ksa (v : Option Value) (r : Option (List Value)) : Option (List Value) := match v, r with
  | some v, some l => some (v :: l)
  | _, _ => none
theorem Kcy {v : Value} {l : List Value} : Ksa (some v) (some l) = some (v :: l) := nr rfl
theorem Jtn {P : Program} {env : Env} {σ : St} {a : Nat} {t : TypeId} {r : List ResultVar} : Ja2 P env σ (.cell a t :: r) = Ksa (Jh1 P t (eget env a) σ) (Ja2 P env σ r) := nr rfl
def symG := And.intro @Kra (And.intro @Kn0 (And.intro @Kp7 (And.intro @Kd6 (And.intro @Ksn (And.intro @Kso (And.intro @Ksp (And.intro @Ksq (And.intro @Kq8 (And.intro @Jxl (And.intro @Ke8 (And.intro @Kcy (@Jtn))))))))))))
def symA := And.intro sy0 (And.intro sy1 (And.intro sy2 (And.intro sy3 (And.intro sy4 (And.intro sy5 (And.intro sy6 (And.intro sy7 (And.intro sy9 (And.intro sy10 sy8)))))))))
def symB := And.intro @Jab (And.intro @Ke0 (And.intro @Kf3 (And.intro @Jrq (And.intro @Jxy (And.intro @Jqn (And.intro @Kmf (And.intro @Kme (And.intro @Kmc (And.intro @Kmd (And.intro @Kcw (And.intro @Kap (And.intro @Kq3 (And.intro @Knl (And.intro @Knk (And.intro @Kew (And.intro @Ker (And.intro @Kbo (And.intro @Kfl @Kcl))))))))))))))))))
def symC := And.intro @Kfm (And.intro @Kf2 (And.intro @Jnc (And.intro @Kn2 (And.intro @Jkq (And.intro @Kby (And.intro @Jnb (And.intro @Jlo (And.intro @Kak (And.intro @Kqq (And.intro @Jtj (And.intro @Kd8 (And.intro @Jmc (And.intro @Ksi (And.intro @Ksj (And.intro @Kqz (And.intro @Kq0 (And.intro @Kqt (And.intro @Kni (And.intro @Ji9 @Jt2)))))))))))))))))))
def symD := And.intro @Kss (And.intro @Ksr (And.intro @Ksm (And.intro @Kq1 (And.intro @Km7 (And.intro @Kns (And.intro @Kfq (And.intro @Knt (And.intro @Kfp (And.intro @Ke4 (And.intro @Kcd (And.intro @Ke5 (And.intro @Kcc (And.intro @Kfr (And.intro @Kcq (And.intro @Kfs (And.intro @Kcp (And.intro @Jl8 (And.intro @Jhe (And.intro @Jn7 @Jnv)))))))))))))))))))
def symE := And.intro @Kqn (And.intro @Kna (And.intro @Kb6 (And.intro @Kqm (And.intro @Kez (And.intro @Km9 (And.intro @Kfx (And.intro @Kcz (And.intro @Jul (And.intro @Kfw (And.intro @Jyf (And.intro @cells_func (And.intro @Jbs (And.intro @toList_mk (And.intro @wrap_i64 (And.intro @wrap_u8 (And.intro @wrap_u32 (And.intro @wrap_u64 @wrap_i32)))))))))))))))))
-- the walk's equations: symG, symA, symB, symC, symD, symE
theorem zl0 {α : Type} {a : α} {l : List α} : (a :: l)[0]? = some a := rfl
theorem zl1 {α : Type} {a : α} {l : List α} {i : Nat} : (a :: l)[i + 1]? = l[i]? := rfl
theorem zl2 {α : Type} {a : α} {l : List α} : (a :: l).length = l.length + 1 := rfl
theorem zl3 {α : Type} : ([] : List α).length = 0 := rfl
theorem zl4 {α β : Type} {f : α → β} {a : α} {l : List α} : (a :: l).map f = f a :: l.map f := rfl
theorem zl5 {α β : Type} {f : α → β} : ([] : List α).map f = [] := rfl
theorem zl6 {α : Type} {l : List α} : [] ++ l = l := rfl
theorem zl7 {α : Type} {a : α} {l k : List α} : (a :: l) ++ k = a :: (l ++ k) := rfl
theorem zl8 {α : Type} {l : List α} : l ++ [] = l := List.append_nil l
theorem zl9 {α β : Type} {f : α → β} {a : α} : (some a).map f = some (f a) := rfl
theorem zl10 {α β : Type} {f : α → β} : (none : Option α).map f = none := rfl
theorem zl11 {n : Nat} : 0 + n = n := Nat.zero_add n
theorem zl12 {n : Nat} : n + 0 = n := rfl
theorem zl13 {n : Nat} : 0 * n = 0 := Nat.zero_mul n
theorem zl14 {n : Nat} : n * 1 = n := Nat.mul_one n
theorem zl15 {n : Nat} : 1 * n = n := Nat.one_mul n
theorem zl16 {n : Nat} : n - 0 = n := rfl
theorem zl17 {n : Nat} : ((n : Nat) : Int).toNat = n := Int.toNat_natCast n
theorem zl18 : (!true) = false := rfl
theorem zl19 : (!false) = true := rfl
theorem zl20 : (false = true) = False := eq_false Bool.false_ne_true
theorem zl21 {α : Type} {h : Decidable True} {a b : α} : (@ite α True h a b) = a := if_pos trivial
theorem zl22 {α : Type} {h : Decidable False} {a b : α} : (@ite α False h a b) = b := if_neg id
theorem zl23 {h : Decidable True} : @decide True h = true := decide_eq_true trivial
theorem zl24 {h : Decidable False} : @decide False h = false := decide_eq_false id
theorem zi0 : (0 : Int).toNat = 0 := rfl
theorem zi1 : (1 : Int).toNat = 1 := rfl
theorem zi2 : (2 : Int).toNat = 2 := rfl
theorem zi3 : (3 : Int).toNat = 3 := rfl
theorem zi4 : (4 : Int).toNat = 4 := rfl
theorem zi5 : (5 : Int).toNat = 5 := rfl
theorem zi6 : (6 : Int).toNat = 6 := rfl
theorem zi7 : (7 : Int).toNat = 7 := rfl
theorem zi8 : (8 : Int).toNat = 8 := rfl
theorem zi9 : (9 : Int).toNat = 9 := rfl
theorem zi10 : (10 : Int).toNat = 10 := rfl
theorem zi11 : (11 : Int).toNat = 11 := rfl
theorem zi12 : (12 : Int).toNat = 12 := rfl
theorem zi13 : (13 : Int).toNat = 13 := rfl
theorem zi14 : (14 : Int).toNat = 14 := rfl
theorem zi15 : (15 : Int).toNat = 15 := rfl
theorem zi16 : (16 : Int).toNat = 16 := rfl
def symI := And.intro zi0 (And.intro zi1 (And.intro zi2 (And.intro zi3 (And.intro zi4 (And.intro zi5 (And.intro zi6 (And.intro zi7 (And.intro zi8 (And.intro zi9 (And.intro zi10 (And.intro zi11 (And.intro zi12 (And.intro zi13 (And.intro zi14 (And.intro zi15 zi16)))))))))))))))
def symL := And.intro symI (And.intro @zl21 (And.intro @zl22 (And.intro @zl23 (And.intro @zl24 (And.intro @zl0 (And.intro @zl1 (And.intro @zl2 (And.intro @zl3 (And.intro @zl4 (And.intro @zl5 (And.intro @zl6 (And.intro @zl7 (And.intro @zl8 (And.intro @zl9 (And.intro @zl10 (And.intro @zl11 (And.intro @zl12 (And.intro @zl13 (And.intro @zl14 (And.intro @zl15 (And.intro @zl16 (And.intro @zl17 (And.intro @zl18 (And.intro @zl19 @zl20))))))))))))))))))))))))
theorem zm0 {α : Type} {p : α → Bool} {a : α} {l : List α} : (a :: l).all p = (p a && l.all p) := rfl
theorem zm1 {α : Type} {p : α → Bool} : ([] : List α).all p = true := rfl
theorem zm2 {b : Bool} : (b && true) = b := Bool.and_true b
theorem zm3 {b : Bool} : (b && b) = b := Bool.and_self b
def symM := And.intro @zm0 (And.intro @zm1 (And.intro @zm2 (And.intro @zm3 (And.intro @zl2 (And.intro @zl3 @zl11)))))
def symN := And.intro symE symM
theorem SimF.of_wf {P : Program} {gl : List Nat} {f : FuncId} {args : Array Value} {σ σ' : St} {v : Value} (h : σ.Wf → SimF P gl f args σ v σ') : SimF P gl f args σ v σ' :=
  fun g w args' hg hr ha => h hr.wf g w args' hg hr ha
theorem SimF.glob {P : Program} {gl : List Nat} {f : FuncId} {args : Array Value} {σ σ' : St} {v : Value} (h : SimF P [] f args σ v σ') : SimF P gl f args σ v σ' :=
  fun g w args' hg hr ha => h g w args' (fun b hb => by cases hb) hr ha
def roL (F : Nat) (l : List (Nat × List Value)) : List (Nat × AObj) := l.map fun x => (x.1, AObj.cells false 0 F x.2)
def roSt (n F : Nat) (l : List (Nat × List Value)) : St := stOf n (roL F l)
theorem Jm3 {n F : Nat} : ∀ {l : List (Nat × List Value)} {A : Nat} {o : AObj}, (roSt n F l).get A = some o → ∃ c, (A, c) ∈ l ∧ o = .cells false 0 F c
  | [], A, o, h => by simp only [roSt, roL, List.map_nil, Jl8] at h; cases h
  | (B, c) :: l, A, o, h => by
    simp only [roSt, roL, List.map_cons, Jhe] at h
    by_cases e : B = A
    · subst e; rw [if_pos rfl] at h; cases h; exact ⟨c, by simp, rfl⟩
    · rw [if_neg e] at h
      obtain ⟨c', h1, h2⟩ := Jm3 (n := n) (F := F) (l := l) h
      exact ⟨c', by simp [h1], h2⟩
theorem Jfh {n F : Nat} : ∀ {l : List (Nat × List Value)} {A : Nat} {c : List Value}, (A, c) ∈ l → (l.map (·.1)).Nodup → (roSt n F l).get A = some (.cells false 0 F c)
  | (B, c') :: l, A, c, h, hn => by
    simp only [roSt, roL, List.map_cons, Jhe]
    simp only [List.map_cons, List.nodup_cons] at hn
    rcases List.mem_cons.1 h with e | h
    · cases e; rw [if_pos rfl]
    · have : B ≠ A := fun e => hn.1 (e ▸ List.mem_map_of_mem h)
      rw [if_neg this]
      exact Jfh (n := n) (F := F) h hn.2
theorem Jdz {n F F' : Nat} {l : List (Nat × List Value)} : (roSt n F l).famO F' = none := Jn7
theorem Jq4 {next A : Nat} : ∀ {l : List (Nat × AObj)}, (stOf next l).hintO A = none
  | [] => by simp only [stOf, St.hintO]; cases path A <;> rfl
  | (B, o) :: l => by simp only [stOf, St.hintO_set]; exact Jq4
theorem Jdy {n F : Nat} {l : List (Nat × List Value)} : (roSt n F l).next = n := Jnv
theorem Kqc {n F : Nat} {l : List (Nat × List Value)} (hn : ∀ x ∈ l, x.1 < n) (hd : (l.map (·.1)).Nodup) (hF : ∃ c, (F, c) ∈ l) : (roSt n F l).Wf := by
  refine ⟨fun A o h => ?_, fun A own v F' c h => ?_, fun A v F' c h => ?_, fun F' O h => ?_, fun F' O X own v c own' v' c' h => ?_, fun A m h => ?_⟩
  · obtain ⟨c, h1, _⟩ := Jm3 h
    rw [Jdy]; exact hn _ h1
  · obtain ⟨c', h1, h2⟩ := Jm3 h
    cases h2
    obtain ⟨c2, h3⟩ := hF
    exact ⟨_, Jfh h3 hd⟩
  · obtain ⟨c', _, h2⟩ := Jm3 h; cases h2
  · rw [Jdz] at h; cases h
  · rw [Jdz] at h; cases h
  · have : (roSt n F l).hintO A = none := Jq4
    rw [this] at h; cases h
theorem Jei {σ : St} {B : Nat} {c : List Value} (h : σ.cells? B = some c) : ∃ own v F, σ.get B = some (.cells own v F c) ∧ σ.rd own v F = true := by
  unfold St.cells? at h
  split at h
  · rename_i own v F c' hg
    split at h
    · rename_i hr; cases h; exact ⟨own, v, F, hg, hr⟩
    · cases h
  · cases h
theorem SimF.ro {P : Program} {gl : List Nat} {f : FuncId} {args0 args : Array Value} {n F : Nat} {l : List (Nat × List Value)} {σs' σ : St} {v0 v : Value} {ρ : Nat → Option (Nat × Nat)}
    (h : SimF P gl f args0 (roSt n F l) v0 σs') (hn : ∀ x ∈ l, x.1 < n) (hd : (l.map (·.1)).Nodup) (hF : ∃ c, (F, c) ∈ l)
    (hρ : ∀ A B d, ρ A = some (B, d) → ∃ c c', (A, c) ∈ l ∧ σ.cells? B = some c' ∧ CRen ρ d c c') (hgl : ∀ b, gl.contains b = true → ρ b = some (b, 0))
    (ha : ARen ρ args0 args) (hv : VRen ρ v0 v) : SimF P gl f args σ v σ := by
  refine SimF.of_wf fun hwf => ?_
  have hro : ∀ A B d, ρ A = some (B, d) → (roSt n F l).ro A := fun A B d hAB => by
    obtain ⟨c, c', h1, _⟩ := hρ A B d hAB
    exact ⟨0, F, c, Jfh h1 hd, Jdz⟩
  have hlt : ∀ A B d, ρ A = some (B, d) → A < n := fun A B d hAB => by
    obtain ⟨c, c', h1, _⟩ := hρ A B d hAB
    exact hn _ h1
  refine h.frame (ρ := ρ) (ρ' := ρ) ?_ hv
  refine
    { view := ⟨Kqc hn hd hF, fun A B d o' hAB hB => ?_, fun A A' B B' d d' hAB hAB' _ _ => ?_, fun X O BX BO dX dO F' v' c own c' _ _ _ hfo => ?_⟩
      argsR := ha
      glob := hgl
      dom := fun A B d hAB => ⟨by rw [Jdy]; exact hlt A B d hAB, ?_⟩
      kinds := fun A B d hAB => .inl (hro A B d hAB)
      named := fun A B d hAB hnr => (hnr (hro A B d hAB)).elim
      wf' := hwf
      old := fun _ _ => rfl
      new := fun A B d hA hAB => ?_
      inj' := fun A A' B d d' hA _ hAB => ?_
      next := Nat.le_refl _
      still := fun _ _ _ => rfl
      calm := fun B own v F' c _ _ _ hrd => ⟨hrd, fun A B0 d hAB hnr => (hnr (hro A B0 d hAB)).elim⟩
      kept := fun A B d hAB hnr => (hnr (hro A B d hAB)).elim
      post := fun A B d o hAB hnr => (hnr (hro A B d hAB)).elim
      famkeep := fun A B d hAB hnr => (hnr (hro A B d hAB)).elim
      share' := fun A A' B B' d d' F' hAB _ hnr => (hnr (hro A B d hAB)).elim
      order' := fun X O F' v c own c' hne hfo hX hO => .inl ⟨hwf.lt X _ hX, hwf.lt O _ hO, hfo, hX, hO⟩
      ro' := fun B hB => hB }
  · obtain ⟨c, c', h1, h2, h3⟩ := hρ A B d hAB
    obtain ⟨own, v', F', g1, g2⟩ := Jei h2
    rw [g1] at hB; cases hB
    exact ⟨_, Jfh h1 hd, ⟨(fun h => by cases h), fun _ => ⟨g2, h3⟩⟩⟩
  · obtain ⟨c, _, h1, _⟩ := hρ A B d hAB
    obtain ⟨c2, _, h2, _⟩ := hρ A' B' d' hAB'
    exact ⟨F, St.fam_eq (Jfh h1 hd), St.fam_eq (Jfh h2 hd)⟩
  · rw [Jdz] at hfo; cases hfo
  · obtain ⟨c, c', _, h2, _⟩ := hρ A B d hAB
    obtain ⟨own, v', F', g1, _⟩ := Jei h2
    exact hwf.lt B _ g1
  · have := hlt A B d hAB
    rw [Jdy] at hA; omega
  · have := hlt A B d hAB
    rw [Jdy] at hA; omega
theorem CRen.flat {ρ : Nat → Option (Nat × Nat)} {d : Nat} {c c' : List Value} (hl : d + c.length ≤ c'.length) (h : (c'.drop d).take c.length = c) (hf : ∀ v ∈ c, Ja5 v = true) : CRen ρ d c c' := by
  refine ⟨hl, fun i h1 h2 => ?_⟩
  have e : c'[d + i] = c[i] := by
    have e1 : ((c'.drop d).take c.length)[i]? = c[i]? := by rw [h]
    rw [List.getElem?_take, if_pos h1, List.getElem?_drop, List.getElem?_eq_getElem h2, List.getElem?_eq_getElem h1] at e1
    exact Option.some.inj e1
  rw [e]
  exact .flat (hf _ (List.getElem_mem h1))
section
variable {P : Program} {gl : List Nat} {C : Jd9} {N : Nat}
theorem Jxi.step (hC : C.ok P gl) (hm : P.follows .mixedOrders = true) {body : Code} (hok : okC P gl N body = true) {Q : Ex → Env → St → Prop} {env : Env} {σ : St}
    (step : wpC P gl N C body env σ fun ex env' σ' => match ex with
      | .normal => Jxi P gl N body env' σ' Q
      | .exit id => Q (.exit id) env' σ'
      | .ret => Q .ret env' σ') : Jxi P gl N body env σ Q := by
  obtain ⟨ex, e1, s1, h1, h2⟩ := Kd7 (N := N) hC hm body env σ _ hok step
  cases ex with
  | normal =>
    obtain ⟨m, ex, e2, s2, h3, h4⟩ := h2
    exact ⟨m + 1, ex, e2, s2, .more h1 h3, h4⟩
  | exit id => exact ⟨1, _, e1, s1, .last h1 (by simp), h2⟩
  | ret => exact ⟨1, _, e1, s1, .last h1 (by simp), h2⟩
end
end Go.Ev
namespace Go.Proofs
open Go Go.Ev
set_option maxRecDepth 100000
set_option linter.unusedSimpArgs false
set_option linter.unusedVariables false
set_option linter.defProp false
theorem Jae : Tryz.prog.follows .mixedOrders = true := by kernel_rfl
def Kgh := And.intro Kod (And.intro Koc (And.intro Kob (And.intro Koa (And.intro Kn9 (And.intro Kn8 (And.intro Kn7 (And.intro Kn6 (And.intro Kn5 (And.intro Kn4 (And.intro Kgg (And.intro Kgf (And.intro Kge (And.intro Kgd (And.intro Kgc (And.intro Kgb (And.intro Kga Kf9))))))))))))))))
def Jda : Jd9 := fun _ _ _ => none
theorem Jaf (gl : List Nat) : Jda.ok Tryz.prog gl := fun f args σ v σ' h => by cases h
theorem Jjm {f : FuncId} {args : Array Value} {σ : St} : Jda f args σ = none := nr rfl
theorem Jrj : Jj7 Tryz.prog 2 5 = .pure := by kernel_rfl
theorem Jiu {A id n ver F : Nat} {c nc : List Value} {σ : St} (h0 : n ≠ 0) (h1 : c.length + n ≤ 1000000000) (h3 : nc.all (·.oneCell') = true) :
    appG Jct A c.length 2 id n nc σ (some (.cells true ver F c)) = some (.val (.slice (some ⟨id, 0, none⟩) (c.length + n) 2) (((((σ.set A (.cells false ver F c)).set id (.cells true ver F (c ++ nc))).setFam F id).setHint A c.length).setHint id (c.length + nc.length))) := by
  have e1 : Jct.size = 1 := rfl
  have e2 : Jct.bytes = 1 := rfl
  rw [Jkq h0 (by rw [e1]) (by rw [e1]; omega) (by omega) (by rw [e2]; omega) h3, e1, Nat.mul_one]
theorem Jgt {id n : Nat} {nc : List Value} {σ : St} (h0 : n ≠ 0) (h1 : n ≤ 1000000000) :
    appE Jct (.slice none 0 0) id (some (n, nc)) σ = some (.val (.slice (some ⟨id, 0, none⟩) n 2) (σ.set id (.cells true 0 id nc))) := by
  have e1 : Jct.size = 1 := rfl
  have e2 : Jct.bytes = 1 := rfl
  rw [Jnc h0 (by omega) (by rw [e2]; omega), e1]
def Jai (f : Nat) (args : List Value) (v : Value) : Prop := ∀ σ, SimF Tryz.prog [] f args.toArray σ v σ
abbrev Jta := List (Nat × (List Value → Option Value))
noncomputable def Jjh : Jta → Jd9
  | [] => fun _ _ _ => none
  | (g, s) :: r => fun f args σ => if g = f then (match s args.toList with | some v => some (v, σ) | none => none) else Jjh r f args σ
def Jxh (l : Jta) : Prop := ∀ f s, (f, s) ∈ l → ∀ args v, s args = some v → Jai f args v
theorem Jdr : ∀ {l : Jta}, Jxh l → (Jjh l).ok Tryz.prog []
  | [], _, f, args, σ, v, σ', h => by cases h
  | (g, s) :: r, hl, f, args, σ, v, σ', h => by
    simp only [Jjh] at h
    by_cases e : g = f
    · subst e
      rw [if_pos rfl] at h
      cases hs : s args.toList with
      | none => rw [hs] at h; cases h
      | some u =>
        rw [hs] at h
        cases h
        have := hl g s (by simp) args.toList v hs σ
        rwa [Array.toArray_toList] at this
    · rw [if_neg e] at h
      exact Jdr (fun f s hm => hl f s (by simp [hm])) f args σ v σ' h
theorem Jel : Jxh [] := fun _ _ h => by cases h
def ftR (r : Option Value) (σ : St) : Option (Value × St) := match r with | some v => some (v, σ) | none => none
theorem Knu {v : Value} {σ : St} : ftR (some v) σ = some (v, σ) := nr rfl
theorem Jvm {f : FuncId} {args : Array Value} {σ : St} : Jjh [] f args σ = none := nr rfl
theorem Js4 {g : Nat} {s : List Value → Option Value} {r : Jta} {f : FuncId} {l : List Value} {σ : St} : Jjh ((g, s) :: r) f ⟨l⟩ σ = if g = f then ftR (s l) σ else Jjh r f ⟨l⟩ σ := nr rfl
theorem Ja6 {f : Nat} {args : List Value} {v : Value} (ha : args.all Ja5 = true) (hv : Ja5 v = true) (h : TF Tryz.prog [] f args.toArray (stOf 1000 []) fun u _ => u = v) : Jai f args v := by
  obtain ⟨u, σ0, hs, rfl⟩ := h
  intro σ
  exact SimF.everywhere (l := []) (next := 1000) hs (fun x hx => by cases hx) (fun x hx => by cases hx) (by simpa using ha) hv (fun A x hx => by cases hx)
set_option linter.defProp false
def Kiz := And.intro @Jjm (And.intro @Knu (And.intro @Jvm (And.intro @Js4 @Kma)))
def Jaa := And.intro Kiz (And.intro symG (And.intro symA (And.intro symB (And.intro symC (And.intro symD (And.intro symE (And.intro Kgh symL)))))))
def Jdj := And.intro Kiz (And.intro symG (And.intro sy0 (And.intro sy1 (And.intro sy3 (And.intro sy4 (And.intro sy5 (And.intro sy6 (And.intro sy7 (And.intro sy8 (And.intro @Jtb (And.intro @Kdv (And.intro @Kpq (And.intro symB (And.intro symC (And.intro symD (And.intro symE (And.intro Kgh symL)))))))))))))))))
def Jh5 (n : Int) (k : Nat) : Value := .int .u8 (IntKind.u8.wrap (n.fdiv (2 ^ (8 * k))))
def Wr (σ : St) (W : Nat) (c : List Value) : Prop := W < σ.next ∧ ∃ v F,
  (c = [] ∧ σ.get W = some (.cells true v F [.slice none 0 0])) ∨
  (∃ A v' F', σ.get W = some (.cells true v F [.slice (some ⟨A, 0, none⟩) c.length 2]) ∧ σ.get A = some (.cells true v' F' c) ∧ A ≠ W ∧ A < σ.next)
noncomputable def pushB (σ : St) (W : Nat) (b : Value) : St := match σ.get W with
  | some (.cells _ v F [.slice (some ⟨A, _, _⟩) len _]) => match σ.get A with
    | some (.cells _ v' F' c) => ((((((((σ.bump 17).set (σ.next + 2 + 10) (.cells true 0 (σ.next + 2 + 10) [b])).set A (.cells false v' F' c)).set (σ.next + 2 + 11) (.cells true v' F' (c ++ [b]))).setFam F' (σ.next + 2 + 11)).setHint A len).setHint (σ.next + 2 + 11) (len + 1)).set
        W (.cells true (v + 1) F [.slice (some ⟨σ.next + 2 + 11, 0, none⟩) (len + 1) 2])).bump 3
    | _ => σ
  | some (.cells _ v F [.slice none _ _]) => ((((σ.bump 17).set (σ.next + 2 + 10) (.cells true 0 (σ.next + 2 + 10) [b])).set (σ.next + 2 + 11) (.cells true 0 (σ.next + 2 + 11) [b])).set
        W (.cells true (v + 1) F [.slice (some ⟨σ.next + 2 + 11, 0, none⟩) 1 2])).bump 3
  | _ => σ
theorem Jtr {σ : St} {W v F : Nat} {b : Value} (h : σ.get W = some (.cells true v F [.slice none 0 0])) : pushB σ W b = ((((σ.bump 17).set (σ.next + 2 + 10) (.cells true 0 (σ.next + 2 + 10) [b])).set (σ.next + 2 + 11) (.cells true 0 (σ.next + 2 + 11) [b])).set
        W (.cells true (v + 1) F [.slice (some ⟨σ.next + 2 + 11, 0, none⟩) 1 2])).bump 3 := by
  unfold pushB; rw [h]
theorem Jtq {σ : St} {W v F A v' F' len : Nat} {c : List Value} {b : Value} (h : σ.get W = some (.cells true v F [.slice (some ⟨A, 0, none⟩) len 2])) (hA : σ.get A = some (.cells true v' F' c)) : pushB σ W b =
    ((((((((σ.bump 17).set (σ.next + 2 + 10) (.cells true 0 (σ.next + 2 + 10) [b])).set A (.cells false v' F' c)).set (σ.next + 2 + 11) (.cells true v' F' (c ++ [b]))).setFam F' (σ.next + 2 + 11)).setHint A len).setHint (σ.next + 2 + 11) (len + 1)).set
        W (.cells true (v + 1) F [.slice (some ⟨σ.next + 2 + 11, 0, none⟩) (len + 1) 2])).bump 3 := by
  unfold pushB; rw [h]; simp only [hA]
theorem Kaq {σ : St} {W : Nat} {c : List Value} {b : Value} (h : Wr σ W c) : Wr (pushB σ W b) W (c ++ [b]) := by
  obtain ⟨hlt, v, F, ⟨rfl, hW⟩ | ⟨A, v', F', hW, hA, hne, hl⟩⟩ := h
  · have e1 : ¬ (W = σ.next + 2 + 11) := by omega
    refine ⟨?_, v + 1, F, .inr ⟨σ.next + 2 + 11, 0, σ.next + 2 + 11, ?_, ?_, by omega, ?_⟩⟩ <;> simp [pushB, hW] <;> omega
  · have e1 : ¬ (W = σ.next + 2 + 11) := by omega
    have e2 : ¬ (σ.next + 2 + 11 = A) := by omega
    refine ⟨?_, v + 1, F, .inr ⟨σ.next + 2 + 11, v', F', ?_, ?_, by omega, ?_⟩⟩ <;> simp [pushB, hW, hA] <;> omega
noncomputable def Jl1 (σ : St) (W : Nat) (l : List Value) : St := l.foldl (fun σ b => pushB σ W b) σ
theorem Jtp {W : Nat} {l : List Value} : ∀ {σ : St} {c : List Value}, Wr σ W c → Wr (Jl1 σ W l) W (c ++ l) := by
  induction l with
  | nil => intro σ c h; simpa [Jl1] using h
  | cons b l ih =>
    intro σ c h
    have := ih (Kaq (b := b) h)
    rwa [List.append_assoc] at this
theorem Wr.bump {σ : St} {W n : Nat} {c : List Value} (h : Wr σ W c) : Wr (σ.bump n) W c := by
  obtain ⟨hlt, v, F, h⟩ := h
  refine ⟨Nat.lt_of_lt_of_le hlt (Nat.le_add_right _ _), v, F, ?_⟩
  rcases h with h | ⟨A, v', F', h1, h2, h3, h4⟩
  · exact .inl h
  · exact .inr ⟨A, v', F', h1, h2, h3, Nat.lt_of_lt_of_le h4 (Nat.le_add_right _ _)⟩
def numL (n : Int) : Nat → List Value
  | 0 => []
  | k + 1 => Jh5 n k :: numL n k
theorem Jap (n : Int) : ∀ k, (numL n k).length = k
  | 0 => rfl
  | k + 1 => by simp [numL, Jap n k]
theorem Jpn {W : Nat} {c : List Value} (n : Int) (many : Nat) (hm : many ≤ 8) (σ : St) (hw : Wr σ W c) (hc : c.length < 500000000) :
    TF Tryz.prog [] 100 #[.pointer (some ⟨W, 0, none⟩), .int .i64 n, .int .i64 (many : Nat)] σ fun v σ' => v = .tuple #[] ∧ σ' = (Jl1 (σ.bump 3) W (numL n many)).bump 2 := by
  refine TF.walk (Jaf []) Jae Tryz.func100 (by kernel_rfl) rfl fun c hc => ?_
  cases hc
  simp (maxSteps := 1000000) (disch := first | omega | decide +kernel | (simp only [symN] <;> omega) | assumption) only [Tryz.f100, Jaa, Jac, reduceIte, Nat.reduceEqDiff, Nat.reduceAdd, Nat.reduceMul]
  refine Jay (Jaf []) Jae (fun k env τ => ∃ done, numL n many = done ++ numL n k ∧ done.length + k = many ∧ τ = Jl1 (σ.bump 3) W done ∧ eget env 0 = .pointer (some ⟨W, 0, none⟩) ∧ eget env 1 = .int .i64 n ∧ eget env 6 = .int .i64 ((k : Int) - 1)) (n := many) (by kernel_rfl)
    ⟨[], rfl, by simp, rfl, by simp [Jab], by simp [Jab], by simp [Jab]⟩ ?_
  rintro k env τ ⟨done, hd, hl, rfl, e0, e1, e6⟩
  have hW := Jtp (l := done) (Wr.bump (n := 3) hw)
  have hlen : (c ++ done).length < 600000000 := by simp; omega
  generalize hτ : Jl1 (σ.bump 3) W done = τ at hW ⊢
  cases k with
  | zero =>
    have hk0 : (((0 : Nat) : Int) - 1 ≥ 0) = False := eq_false (by omega)
    have hdn : numL n many = done := by rw [hd]; simp [numL]
    simp (maxSteps := 1000000) (disch := first | omega | decide +kernel | (simp only [symN] <;> omega) | assumption) only [Jaa, Jac, reduceIte, Nat.reduceEqDiff, Nat.reduceAdd, Nat.reduceMul, Jjm, e0, e1, e6, hk0, decide_false, hdn, hτ, and_self]
  | succ k =>
    have e6' : eget env 6 = .int .i64 (k : Nat) := by rw [e6]; congr 1; omega
    have hk0 : ((k : Int) ≥ 0) = True := eq_true (by omega)
    have ek : (8 * (k : Int)).toNat = 8 * k := by omega
    have hp : Jl1 (σ.bump 3) W (done ++ [Jh5 n k]) = pushB τ W (Jh5 n k) := by rw [← hτ]; simp [Jl1]
    obtain ⟨hlt, v, F, ⟨hnil, hW⟩ | ⟨A, v', F', hW, hA, hne, hl⟩⟩ := hW
    · have q2 : ∀ k, (τ.next + 2 + k = W) = False := fun k => eq_false (by omega)
      have q4 : ∀ k, (W = τ.next + 2 + k) = False := fun k => eq_false (by omega)
      simp (maxSteps := 1000000) (disch := first | omega | decide +kernel | (simp only [symN] <;> omega) | assumption) only [q2, q4, Jgt, Jaa, Jac, reduceIte, Nat.reduceEqDiff, Nat.reduceAdd, Nat.reduceMul, Jjm, e0, e1, e6', hk0, decide_true, hW, Jql, Jrj, ek]
      refine ⟨k, by omega, done ++ [Jh5 n k], by rw [hd]; simp [numL], by simp; omega, ?_, trivial, trivial, rfl⟩
      rw [hp, Jtr hW]; rfl
    · have q1 : ∀ k, (τ.next + 2 + k = A) = False := fun k => eq_false (by omega)
      have q2 : ∀ k, (τ.next + 2 + k = W) = False := fun k => eq_false (by omega)
      have q3 : ∀ k, (A = τ.next + 2 + k) = False := fun k => eq_false (by omega)
      have q4 : ∀ k, (W = τ.next + 2 + k) = False := fun k => eq_false (by omega)
      have q5 : (A = W) = False := eq_false hne
      have q6 : (W = A) = False := eq_false (Ne.symm hne)
      simp (maxSteps := 1000000) (disch := first | omega | decide +kernel | (simp only [symN] <;> omega) | assumption) only [q1, q2, q3, q4, q5, q6, Jiu, Jaa, Jac, reduceIte, Nat.reduceEqDiff, Nat.reduceAdd, Nat.reduceMul, Jjm, e0, e1, e6', hk0, decide_true, hW, hA, Jql, Jrj, ek]
      refine ⟨k, by omega, done ++ [Jh5 n k], by rw [hd]; simp [numL], by simp; omega, ?_, trivial, trivial, rfl⟩
      rw [hp, Jtq hW hA]; rfl
set_option maxHeartbeats 4000000
def OwnB (σ : St) (W B : Nat) : Prop := B = W ∨ ∃ v F l k, σ.get W = some (.cells true v F [.slice (some ⟨B, 0, none⟩) l k])
def OwnF (σ : St) (W F : Nat) : Prop := ∃ A v F0 l k v' c, σ.get W = some (.cells true v F0 [.slice (some ⟨A, 0, none⟩) l k]) ∧ σ.get A = some (.cells true v' F c)
structure Jbm (W : Nat) (σ σ' : St) : Prop where
  next : σ.next ≤ σ'.next
  get : ∀ B, B < σ.next → ¬ OwnB σ W B → σ'.get B = σ.get B ∧ ¬ OwnB σ' W B
  fam : ∀ F, F < σ.next → ¬ OwnF σ W F → σ'.famO F = σ.famO F ∧ ¬ OwnF σ' W F
theorem Jbm.refl (W : Nat) (σ : St) : Jbm W σ σ := ⟨Nat.le_refl _, fun _ _ h => ⟨rfl, h⟩, fun _ _ h => ⟨rfl, h⟩⟩
theorem Jbm.trans {W : Nat} {σ σ1 σ2 : St} (h : Jbm W σ σ1) (k : Jbm W σ1 σ2) : Jbm W σ σ2 := by
  refine ⟨Nat.le_trans h.next k.next, fun B hB hn => ?_, fun F hF hn => ?_⟩
  · obtain ⟨a, b⟩ := h.get B hB hn
    obtain ⟨c, d⟩ := k.get B (Nat.lt_of_lt_of_le hB h.next) b
    exact ⟨c.trans a, d⟩
  · obtain ⟨a, b⟩ := h.fam F hF hn
    obtain ⟨c, d⟩ := k.fam F (Nat.lt_of_lt_of_le hF h.next) b
    exact ⟨c.trans a, d⟩
theorem Jbm.bump (W n : Nat) (σ : St) : Jbm W σ (σ.bump n) := ⟨Nat.le_add_right _ _, fun _ _ h => ⟨rfl, h⟩, fun _ _ h => ⟨rfl, h⟩⟩
theorem Jih {σ : St} {W A v F v' F' l k : Nat} {c : List Value} (hW : σ.get W = some (.cells true v F [.slice (some ⟨A, 0, none⟩) l k])) (hA : σ.get A = some (.cells true v' F' c)) : (∀ B, OwnB σ W B ↔ B = W ∨ B = A) ∧ (∀ G, OwnF σ W G ↔ G = F') := by
  refine ⟨fun B => ⟨fun h => ?_, fun h => ?_⟩, fun G => ⟨fun h => ?_, fun h => ?_⟩⟩
  · rcases h with h | ⟨v1, F1, l1, k1, h1⟩
    · exact .inl h
    · rw [hW] at h1; cases h1; exact .inr rfl
  · rcases h with h | h
    · exact .inl h
    · subst h; exact .inr ⟨_, _, _, _, hW⟩
  · obtain ⟨A1, v1, F1, l1, k1, v2, c2, h1, h2⟩ := h
    rw [hW] at h1; cases h1
    rw [hA] at h2; cases h2; rfl
  · subst h; exact ⟨A, _, _, _, _, _, _, hW, hA⟩
theorem Kqj {σ : St} {W : Nat} {c : List Value} {b : Value} (h : Wr σ W c) : Jbm W σ (pushB σ W b) := by
  obtain ⟨hlt, v, F, ⟨rfl, hW⟩ | ⟨A, v', F', hW, hA, hne, hl⟩⟩ := h
  · rw [Jtr hW]
    have e1 : ¬ (W = σ.next + 2 + 11) := by omega
    have own := Jih (σ := ((((σ.bump 17).set (σ.next + 2 + 10) (.cells true 0 (σ.next + 2 + 10) [b])).set (σ.next + 2 + 11) (.cells true 0 (σ.next + 2 + 11) [b])).set
        W (.cells true (v + 1) F [.slice (some ⟨σ.next + 2 + 11, 0, none⟩) 1 2])).bump 3) (W := W) (A := σ.next + 2 + 11) (v := v + 1) (F := F) (v' := 0) (F' := σ.next + 2 + 11) (l := 1) (k := 2) (c := [b]) (by simp) (by simp [e1])
    refine ⟨by simp; omega, fun B hB hn => ⟨?_, ?_⟩, fun G hG hn => ⟨by simp, ?_⟩⟩
    · have q1 : ¬ (W = B) := fun e => hn (.inl e.symm)
      have q2 : ¬ (σ.next + 2 + 11 = B) := by omega
      have q3 : ¬ (σ.next + 2 + 10 = B) := by omega
      simp [q1, q2, q3]
    · rw [own.1]
      intro h
      rcases h with h | h
      · exact hn (.inl h)
      · omega
    · rw [own.2]; omega
  · rw [Jtq hW hA]
    have e1 : ¬ (W = σ.next + 2 + 11) := by omega
    have e2 : ¬ (σ.next + 2 + 11 = A) := by omega
    obtain ⟨o1, o2⟩ := Jih hW hA
    have own := Jih (σ := ((((((((σ.bump 17).set (σ.next + 2 + 10) (.cells true 0 (σ.next + 2 + 10) [b])).set A (.cells false v' F' c)).set (σ.next + 2 + 11) (.cells true v' F' (c ++ [b]))).setFam F' (σ.next + 2 + 11)).setHint A c.length).setHint (σ.next + 2 + 11) (c.length + 1)).set
        W (.cells true (v + 1) F [.slice (some ⟨σ.next + 2 + 11, 0, none⟩) (c.length + 1) 2])).bump 3) (W := W) (A := σ.next + 2 + 11) (v := v + 1) (F := F) (v' := v') (F' := F') (l := c.length + 1) (k := 2) (c := c ++ [b]) (by simp) (by simp [e1])
    refine ⟨by simp; omega, fun B hB hn => ⟨?_, ?_⟩, fun G hG hn => ⟨?_, ?_⟩⟩
    · rw [o1] at hn
      have q1 : ¬ (W = B) := fun e => hn (.inl e.symm)
      have q2 : ¬ (σ.next + 2 + 11 = B) := by omega
      have q3 : ¬ (σ.next + 2 + 10 = B) := by omega
      have q4 : ¬ (A = B) := fun e => hn (.inr e.symm)
      simp [q1, q2, q3, q4]
    · rw [own.1]
      rw [o1] at hn
      intro h
      rcases h with h | h
      · exact hn (.inl h)
      · omega
    · rw [o2] at hn
      have q : ¬ (F' = G) := fun e => hn e.symm
      simp [q]
    · rw [own.2]; rw [o2] at hn; exact hn
theorem Km3 {W : Nat} {l : List Value} : ∀ {σ : St} {c : List Value}, Wr σ W c → Jbm W σ (Jl1 σ W l) := by
  induction l with
  | nil => intro σ c h; exact Jbm.refl _ _
  | cons b l ih =>
    intro σ c h
    exact (Kqj (b := b) h).trans (ih (Kaq (b := b) h))
theorem Jbj {W : Nat} {c : List Value} (n : Int) (many : Nat) (hm : many ≤ 8) (σ : St) (hw : Wr σ W c) (hc : c.length < 500000000) :
    TF Tryz.prog [] 100 #[.pointer (some ⟨W, 0, none⟩), .int .i64 n, .int .i64 (many : Nat)] σ fun v σ' => v = .tuple #[] ∧ Wr σ' W (c ++ numL n many) ∧ Jbm W σ σ' := by
  refine (Jpn n many hm σ hw hc).mono ?_
  rintro _ _ ⟨rfl, rfl⟩
  exact ⟨rfl, (Jtp (hw.bump (n := 3))).bump, ((Jbm.bump W 3 σ).trans (Km3 (hw.bump (n := 3)))).trans (Jbm.bump W 2 _)⟩
def Jbe (s : ByteArray) : List Value := numL (s.size : Nat) 2 ++ bytesOf s
theorem Ja4 (s : ByteArray) : (Jbe s).length = s.size + 2 := by simp [Jbe, Jap, bytesOf]; omega
theorem Jdq {W : Nat} {c : List Value} (s : ByteArray) (hs : s.size < 65536) (σ : St) (hw : Wr σ W c) (hc : c.length < 400000000) :
    TF Tryz.prog [] 110 #[.pointer (some ⟨W, 0, none⟩), .string s] σ fun v σ' => v = .tuple #[] ∧ Wr σ' W (c ++ Jbe s) ∧ Jbm W σ σ' := by
  refine TF.walk (Jaf []) Jae Tryz.func110 (by kernel_rfl) rfl fun c hc => ?_
  cases hc
  simp (maxSteps := 1000000) (disch := first | omega | decide +kernel | (simp only [symN] <;> omega) | assumption) only [Tryz.f110, Jaa, Jac, reduceIte, Nat.reduceEqDiff, Nat.reduceAdd, Nat.reduceMul]
  rw [Jak]
  refine (Jbj (s.size : Nat) 2 (by decide) (σ.bump 4) hw.bump (by omega)).mono ?_
  rintro _ τ ⟨rfl, hW, hK⟩
  have hlen : (c ++ numL (s.size : Nat) 2).length = c.length + 2 := by simp [Jap]
  have hK := (Jbm.bump W 4 σ).trans hK
  unfold Jbe
  rw [← List.append_assoc]
  generalize c ++ numL (s.size : Nat) 2 = c2 at hW hlen ⊢
  have hone : (bytesOf s).all (·.oneCell') = true := by rw [List.all_eq_true]; intro v hv; obtain ⟨b, _, rfl⟩ := List.mem_map.1 hv; rfl
  have hbl : (bytesOf s).length = s.size := by simp [bytesOf]
  obtain ⟨hlt, v, F, ⟨hnil, _⟩ | ⟨A, v', F', hW, hA, hne, hl⟩⟩ := hW
  · rw [hnil] at hlen; simp at hlen
  have q1 : ∀ k, (τ.next + k = A) = False := fun k => eq_false (by omega)
  have q2 : ∀ k, (τ.next + k = W) = False := fun k => eq_false (by omega)
  have q3 : ∀ k, (A = τ.next + k) = False := fun k => eq_false (by omega)
  have q4 : ∀ k, (W = τ.next + k) = False := fun k => eq_false (by omega)
  have q5 : (A = W) = False := eq_false hne
  have q6 : (W = A) = False := eq_false (Ne.symm hne)
  by_cases h0 : s.size = 0
  · have hb : bytesOf s = [] := List.eq_nil_of_length_eq_zero (by rw [hbl, h0])
    simp (maxSteps := 1000000) (disch := first | omega | decide +kernel | (simp only [symN] <;> omega) | assumption) only [Jaa, Jac, reduceIte, Nat.reduceEqDiff, Nat.reduceAdd, Nat.reduceMul, Nat.add_assoc, q1, q2, q3, q4, q5, q6, hW, hA, h0, hb, Jof, Jb1, Jdd]
    obtain ⟨o1, o2⟩ := Jih hW hA
    have own := Jih (σ := (τ.bump 10).set W (.cells true (v + 1) F [.slice (some ⟨A, 0, none⟩) c2.length 2])) (W := W) (A := A) (v := v + 1) (F := F) (v' := v') (F' := F') (l := c2.length) (k := 2) (c := c2) (by simp) (by simp [q6, hA])
    refine ⟨trivial, ⟨Nat.lt_of_lt_of_le hlt (Nat.le_add_right _ _), v + 1, F, .inr ⟨A, v', F', by simp, by simp [q6, hA], hne, Nat.lt_of_lt_of_le hl (Nat.le_add_right _ _)⟩⟩, hK.trans ⟨Nat.le_add_right _ _, fun B hB hn => ⟨?_, ?_⟩, fun G hG hn => ⟨?_, ?_⟩⟩⟩
    · rw [o1] at hn
      have w1 : ¬ (W = B) := fun e => hn (.inl e.symm)
      simp [w1]
    · rw [own.1, ← o1]; exact hn
    · simp
    · rw [own.2, ← o2]; exact hn
  · simp (maxSteps := 1000000) (disch := first | omega | decide +kernel | (simp only [symN] <;> omega) | assumption) only [Jaa, Jac, reduceIte, Nat.reduceEqDiff, Nat.reduceAdd, Nat.reduceMul, Nat.add_assoc, q1, q2, q3, q4, q5, q6, hW, hA, Jiu, Jof, Jb1, Jdd]
    have e6 : ¬ (τ.next + 6 = W) := by omega
    have e7 : ¬ (W = τ.next + 6) := fun e => e6 e.symm
    obtain ⟨o1, o2⟩ := Jih hW hA
    have own := Jih (σ := ((((((τ.bump 10).set A (.cells false v' F' c2)).set (τ.next + 6) (.cells true v' F' (c2 ++ bytesOf s))).setFam F' (τ.next + 6)).setHint A c2.length).setHint (τ.next + 6) (c2.length + (bytesOf s).length)).set W (.cells true (v + 1) F [.slice (some ⟨τ.next + 6, 0, none⟩) (c2.length + s.size) 2]))
      (W := W) (A := τ.next + 6) (v := v + 1) (F := F) (v' := v') (F' := F') (l := c2.length + s.size) (k := 2) (c := c2 ++ bytesOf s) (by simp) (by simp [e7])
    refine ⟨trivial, ⟨Nat.lt_of_lt_of_le hlt (Nat.le_add_right _ _), v + 1, F, .inr ⟨τ.next + 6, v', F', ?_, ?_, e6, ?_⟩⟩, hK.trans ⟨Nat.le_add_right _ _, fun B hB hn => ⟨?_, ?_⟩, fun G hG hn => ⟨?_, ?_⟩⟩⟩
    · simp [hbl]
    · simp [e7]
    · simp
    · rw [o1] at hn
      have w1 : ¬ (W = B) := fun e => hn (.inl e.symm)
      have w2 : ¬ (A = B) := fun e => hn (.inr e.symm)
      have w3 : ¬ (τ.next + 6 = B) := by omega
      simp [w1, w2, w3]
    · rw [own.1]; rw [o1] at hn
      intro h
      rcases h with h | h
      · exact hn (.inl h)
      · omega
    · rw [o2] at hn
      have q : ¬ (F' = G) := fun e => hn e.symm
      simp [q]
    · rw [own.2]; rw [o2] at hn; exact hn
def SlR (σ : St) (s : Value) (n : Nat) (rows : List (List Value)) : Prop := (rows = [] ∧ s = .slice none 0 0) ∨ ∃ A o k c, s = .slice (some ⟨A, o, none⟩) rows.length k ∧ σ.cells? A = some c ∧ ∀ i (h : i < rows.length), sub? c (o + i * n) n = some rows[i]
theorem SlR.bump {σ : St} {s : Value} {n : Nat} {rows : List (List Value)} (h : SlR σ s n rows) (m : Nat) : SlR (σ.bump m) s n rows := h
theorem SlR.shape {σ : St} {s : Value} {n : Nat} {rows : List (List Value)} (h : SlR σ s n rows) : ∃ b k, s = .slice b rows.length k := by
  rcases h with ⟨rfl, rfl⟩ | ⟨A, o, k, c, rfl, _⟩
  · exact ⟨_, _, rfl⟩
  · exact ⟨_, _, rfl⟩
theorem SlR.rd {σ : St} {A o k n : Nat} {rows : List (List Value)} {c : List Value} (hc : σ.cells? A = some c) (hr : ∀ i (h : i < rows.length), sub? c (o + i * n) n = some rows[i]) {i : Nat} (h : i < rows.length) (m : Nat) : rdG (σ.bump m) (σ.get A) (o + i * n) n = some rows[i] := by
  refine (Jrq (σ := σ.bump m) A (o + i * n) n).symm.trans ?_
  have : (σ.bump m).read? A (o + i * n) n = (σ.cells? A).bind fun c => sub? c (o + i * n) n := rfl
  rw [this, hc]
  exact hr i h
def idxI {α : Type} (p : α → Bool) (l : List α) : Int := if l.any p then (l.findIdx p : Nat) else -1
theorem Jim {α : Type} {p : α → Bool} {l : List α} {i : Nat} (h : i < l.length) (hz : ∀ e ∈ l.take i, p e = false) (hp : p l[i] = true) : idxI p l = (i : Nat) := by
  have hany : l.any p = true := List.any_eq_true.2 ⟨l[i], List.getElem_mem h, hp⟩
  have hidx : l.findIdx p = i := by
    rw [List.findIdx_eq h]
    exact ⟨hp, fun j hj => hz l[j] (List.mem_take_iff_getElem.2 ⟨j, by omega, rfl⟩)⟩
  unfold idxI; rw [hany, hidx]; rfl
theorem Jil {α : Type} {p : α → Bool} {l : List α} (hz : ∀ e ∈ l, p e = false) : idxI p l = -1 := by
  have hany : l.any p = false := by rw [List.any_eq_false]; intro e he; rw [hz e he]; simp
  unfold idxI; rw [hany]; rfl
theorem Jfm {α : Type} {p : α → Bool} {l : List α} : decide (0 ≤ idxI p l) = l.any p := by
  unfold idxI
  cases l.any p with
  | true => simp
  | false => rfl
theorem Jid {α : Type} {p : α → Bool} {l : List α} {i : Nat} (h : i < l.length) (hz : ∀ e ∈ l.take i, p e = false) (hp : p l[i] = false) : ∀ e ∈ l.take (i + 1), p e = false := by
  intro e he
  rw [List.take_succ_eq_append_getElem h] at he
  rcases List.mem_append.1 he with he | he
  · exact hz e he
  · simp at he; subst he; exact hp
theorem Jp0 {gl : List Nat} {g : Nat} {caps : List Value} (rows : List (List Value)) (p : List Value → Bool) (s : Value) (σ : St) (hs : SlR σ s 2 rows) (hl : rows.length < 1000000000) (hg : ∀ args σ, Jb6 Tryz.prog g args σ = some (.enter g args))
    (hcall : ∀ i (h : i < rows.length) m, SimF Tryz.prog gl g ⟨(.agg ⟨rows[i]⟩) :: caps⟩ (σ.bump m) (.bool (p rows[i])) (σ.bump m)) :
    TF Tryz.prog gl 232 #[s, .func (.func g) #[] ⟨caps⟩] σ fun v σ' => ∃ m, v = .int .i64 (idxI p rows) ∧ σ' = σ.bump m := by
  refine TF.walk (Jaf gl) Jae Tryz.func232 (by kernel_rfl) rfl fun c hc => ?_
  cases hc
  obtain ⟨b0, k0, e0⟩ := hs.shape
  rw [e0]
  simp (maxSteps := 1000000) (disch := first | omega | decide +kernel | (simp only [symN] <;> omega) | assumption) only [Tryz.f232, Jaa, Jac, reduceIte, Nat.reduceEqDiff, Nat.reduceAdd, Nat.reduceMul]
  rw [← e0]
  refine Jay (Jaf gl) Jae (fun kk env τ => ∃ i m, i + kk = rows.length ∧ τ = σ.bump m ∧ (∀ e ∈ rows.take i, p e = false) ∧ eget env 0 = s ∧ eget env 1 = .func (.func g) #[] ⟨caps⟩ ∧ eget env 7 = .int .i64 (rows.length : Nat) ∧ eget env 8 = .int .i64 (i : Nat)) (n := rows.length) (by kernel_rfl) ?_ ?_
  · exact ⟨0, _, by omega, rfl, by simp, by simp [Jab], by simp [Jab], by simp [Jab], by simp [Jab]⟩
  rintro kk env τ ⟨i, m, hi, rfl, hz, e0', e1, e7, e8⟩
  cases kk with
  | zero =>
    have hlt : ((i : Int) < (rows.length : Int)) = False := eq_false (by omega)
    rw [List.take_of_length_le (by omega)] at hz
    simp (maxSteps := 1000000) (disch := first | omega | decide +kernel | (simp only [symN] <;> omega) | assumption) only [Jaa, Jac, reduceIte, Nat.reduceEqDiff, Nat.reduceAdd, Nat.reduceMul, e0', e1, e7, e8, hlt, decide_false, Jil hz]
    exact ⟨_, trivial, rfl⟩
  | succ kk =>
    have hil : i < rows.length := by omega
    have hlt : ((i : Int) < (rows.length : Int)) = True := eq_true (by omega)
    rcases hs with ⟨hnil, _⟩ | ⟨A, o, k, c, rfl, hc, hr⟩
    · have e : rows.length = 0 := by simpa using congrArg List.length hnil
      omega
    have hrd : ∀ m, rdG (σ.bump m) (σ.get A) (o + i * 2) 2 = some rows[i] := fun m => SlR.rd (k := k) hc hr hil m
    simp (maxSteps := 1000000) (disch := first | omega | decide +kernel | (simp only [symN] <;> omega) | assumption) only [Jaa, Jac, reduceIte, Nat.reduceEqDiff, Nat.reduceAdd, Nat.reduceMul, e0', e1, e7, e8, hlt, decide_true, hrd, hg]
    rw [Jak]
    refine TF.of (hcall i hil _) ?_
    cases hp : p rows[i] with
    | true =>
      have hidx := Jim hil hz hp
      simp (maxSteps := 1000000) (disch := first | omega | decide +kernel | (simp only [symN] <;> omega) | assumption) only [Jaa, Jac, reduceIte, Nat.reduceEqDiff, Nat.reduceAdd, Nat.reduceMul, e0', e1, e7, e8, hidx]
      exact ⟨_, trivial, rfl⟩
    | false =>
      simp (maxSteps := 1000000) (disch := first | omega | decide +kernel | (simp only [symN] <;> omega) | assumption) only [Jaa, Jac, reduceIte, Nat.reduceEqDiff, Nat.reduceAdd, Nat.reduceMul, e0', e1, e7, e8]
      exact ⟨kk, by omega, i + 1, _, by omega, rfl, Jid hil hz hp, trivial, trivial, trivial, by simp⟩
theorem Jp8 {gl : List Nat} {g : Nat} {caps : List Value} (rows : List (List Value)) (p : List Value → Bool) (s : Value) (σ : St) (hs : SlR σ s 2 rows) (hl : rows.length < 1000000000) (hg : ∀ args σ, Jb6 Tryz.prog g args σ = some (.enter g args))
    (hcall : ∀ i (h : i < rows.length) m, SimF Tryz.prog gl g ⟨(.agg ⟨rows[i]⟩) :: caps⟩ (σ.bump m) (.bool (p rows[i])) (σ.bump m)) :
    TF Tryz.prog gl 191 #[s, .func (.func g) #[] ⟨caps⟩] σ fun v σ' => ∃ m, v = .bool (rows.any p) ∧ σ' = σ.bump m := by
  refine TF.walk (Jaf gl) Jae Tryz.func191 (by kernel_rfl) rfl fun c hc => ?_
  cases hc
  simp (maxSteps := 1000000) (disch := first | omega | decide +kernel | (simp only [symN] <;> omega) | assumption) only [Tryz.f191, Jaa, Jac, reduceIte, Nat.reduceEqDiff, Nat.reduceAdd, Nat.reduceMul]
  rw [Jak]
  refine (Jp0 rows p s _ (hs.bump _) hl hg fun i h m => by rw [Jgr]; exact hcall i h (6 + m)).mono ?_
  rintro _ _ ⟨m, rfl, rfl⟩
  simp (maxSteps := 1000000) (disch := first | omega | decide +kernel | (simp only [symN] <;> omega) | assumption) only [Jaa, Jac, reduceIte, Nat.reduceEqDiff, Nat.reduceAdd, Nat.reduceMul, Jfm]
  exact ⟨_, trivial, rfl⟩
theorem Jpz {gl : List Nat} {g : Nat} {caps : List Value} (rows : List (List Value)) (p : List Value → Bool) (s : Value) (σ : St) (hs : SlR σ s 9 rows) (hl : rows.length < 1000000000) (hg : ∀ args σ, Jb6 Tryz.prog g args σ = some (.enter g args))
    (hcall : ∀ i (h : i < rows.length) m, SimF Tryz.prog gl g ⟨(.agg ⟨rows[i]⟩) :: caps⟩ (σ.bump m) (.bool (p rows[i])) (σ.bump m)) :
    TF Tryz.prog gl 233 #[s, .func (.func g) #[] ⟨caps⟩] σ fun v σ' => ∃ m, v = .int .i64 (idxI p rows) ∧ σ' = σ.bump m := by
  refine TF.walk (Jaf gl) Jae Tryz.func233 (by kernel_rfl) rfl fun c hc => ?_
  cases hc
  obtain ⟨b0, k0, e0⟩ := hs.shape
  rw [e0]
  simp (maxSteps := 1000000) (disch := first | omega | decide +kernel | (simp only [symN] <;> omega) | assumption) only [Tryz.f233, Jaa, Jac, reduceIte, Nat.reduceEqDiff, Nat.reduceAdd, Nat.reduceMul]
  rw [← e0]
  refine Jay (Jaf gl) Jae (fun kk env τ => ∃ i m, i + kk = rows.length ∧ τ = σ.bump m ∧ (∀ e ∈ rows.take i, p e = false) ∧ eget env 0 = s ∧ eget env 1 = .func (.func g) #[] ⟨caps⟩ ∧ eget env 7 = .int .i64 (rows.length : Nat) ∧ eget env 8 = .int .i64 (i : Nat)) (n := rows.length) (by kernel_rfl) ?_ ?_
  · exact ⟨0, _, by omega, rfl, by simp, by simp [Jab], by simp [Jab], by simp [Jab], by simp [Jab]⟩
  rintro kk env τ ⟨i, m, hi, rfl, hz, e0', e1, e7, e8⟩
  cases kk with
  | zero =>
    have hlt : ((i : Int) < (rows.length : Int)) = False := eq_false (by omega)
    rw [List.take_of_length_le (by omega)] at hz
    simp (maxSteps := 1000000) (disch := first | omega | decide +kernel | (simp only [symN] <;> omega) | assumption) only [Jaa, Jac, reduceIte, Nat.reduceEqDiff, Nat.reduceAdd, Nat.reduceMul, e0', e1, e7, e8, hlt, decide_false, Jil hz]
    exact ⟨_, trivial, rfl⟩
  | succ kk =>
    have hil : i < rows.length := by omega
    have hlt : ((i : Int) < (rows.length : Int)) = True := eq_true (by omega)
    rcases hs with ⟨hnil, _⟩ | ⟨A, o, k, c, rfl, hc, hr⟩
    · have e : rows.length = 0 := by simpa using congrArg List.length hnil
      omega
    have hrd : ∀ m, rdG (σ.bump m) (σ.get A) (o + i * 9) 9 = some rows[i] := fun m => SlR.rd (k := k) hc hr hil m
    simp (maxSteps := 1000000) (disch := first | omega | decide +kernel | (simp only [symN] <;> omega) | assumption) only [Jaa, Jac, reduceIte, Nat.reduceEqDiff, Nat.reduceAdd, Nat.reduceMul, e0', e1, e7, e8, hlt, decide_true, hrd, hg]
    rw [Jak]
    refine TF.of (hcall i hil _) ?_
    cases hp : p rows[i] with
    | true =>
      have hidx := Jim hil hz hp
      simp (maxSteps := 1000000) (disch := first | omega | decide +kernel | (simp only [symN] <;> omega) | assumption) only [Jaa, Jac, reduceIte, Nat.reduceEqDiff, Nat.reduceAdd, Nat.reduceMul, e0', e1, e7, e8, hidx]
      exact ⟨_, trivial, rfl⟩
    | false =>
      simp (maxSteps := 1000000) (disch := first | omega | decide +kernel | (simp only [symN] <;> omega) | assumption) only [Jaa, Jac, reduceIte, Nat.reduceEqDiff, Nat.reduceAdd, Nat.reduceMul, e0', e1, e7, e8]
      exact ⟨kk, by omega, i + 1, _, by omega, rfl, Jid hil hz hp, trivial, trivial, trivial, by simp⟩
theorem Jp7 {gl : List Nat} {g : Nat} {caps : List Value} (rows : List (List Value)) (p : List Value → Bool) (s : Value) (σ : St) (hs : SlR σ s 9 rows) (hl : rows.length < 1000000000) (hg : ∀ args σ, Jb6 Tryz.prog g args σ = some (.enter g args))
    (hcall : ∀ i (h : i < rows.length) m, SimF Tryz.prog gl g ⟨(.agg ⟨rows[i]⟩) :: caps⟩ (σ.bump m) (.bool (p rows[i])) (σ.bump m)) :
    TF Tryz.prog gl 193 #[s, .func (.func g) #[] ⟨caps⟩] σ fun v σ' => ∃ m, v = .bool (rows.any p) ∧ σ' = σ.bump m := by
  refine TF.walk (Jaf gl) Jae Tryz.func193 (by kernel_rfl) rfl fun c hc => ?_
  cases hc
  simp (maxSteps := 1000000) (disch := first | omega | decide +kernel | (simp only [symN] <;> omega) | assumption) only [Tryz.f193, Jaa, Jac, reduceIte, Nat.reduceEqDiff, Nat.reduceAdd, Nat.reduceMul]
  rw [Jak]
  refine (Jpz rows p s _ (hs.bump _) hl hg fun i h m => by rw [Jgr]; exact hcall i h (6 + m)).mono ?_
  rintro _ _ ⟨m, rfl, rfl⟩
  simp (maxSteps := 1000000) (disch := first | omega | decide +kernel | (simp only [symN] <;> omega) | assumption) only [Jaa, Jac, reduceIte, Nat.reduceEqDiff, Nat.reduceAdd, Nat.reduceMul, Jfm]
  exact ⟨_, trivial, rfl⟩
theorem Jpy {gl : List Nat} {g : Nat} {caps : List Value} (rows : List (List Value)) (p : List Value → Bool) (s : Value) (σ : St) (hs : SlR σ s 4 rows) (hl : rows.length < 1000000000) (hg : ∀ args σ, Jb6 Tryz.prog g args σ = some (.enter g args))
    (hcall : ∀ i (h : i < rows.length) m, SimF Tryz.prog gl g ⟨(.agg ⟨rows[i]⟩) :: caps⟩ (σ.bump m) (.bool (p rows[i])) (σ.bump m)) :
    TF Tryz.prog gl 234 #[s, .func (.func g) #[] ⟨caps⟩] σ fun v σ' => ∃ m, v = .int .i64 (idxI p rows) ∧ σ' = σ.bump m := by
  refine TF.walk (Jaf gl) Jae Tryz.func234 (by kernel_rfl) rfl fun c hc => ?_
  cases hc
  obtain ⟨b0, k0, e0⟩ := hs.shape
  rw [e0]
  simp (maxSteps := 1000000) (disch := first | omega | decide +kernel | (simp only [symN] <;> omega) | assumption) only [Tryz.f234, Jaa, Jac, reduceIte, Nat.reduceEqDiff, Nat.reduceAdd, Nat.reduceMul]
  rw [← e0]
  refine Jay (Jaf gl) Jae (fun kk env τ => ∃ i m, i + kk = rows.length ∧ τ = σ.bump m ∧ (∀ e ∈ rows.take i, p e = false) ∧ eget env 0 = s ∧ eget env 1 = .func (.func g) #[] ⟨caps⟩ ∧ eget env 7 = .int .i64 (rows.length : Nat) ∧ eget env 8 = .int .i64 (i : Nat)) (n := rows.length) (by kernel_rfl) ?_ ?_
  · exact ⟨0, _, by omega, rfl, by simp, by simp [Jab], by simp [Jab], by simp [Jab], by simp [Jab]⟩
  rintro kk env τ ⟨i, m, hi, rfl, hz, e0', e1, e7, e8⟩
  cases kk with
  | zero =>
    have hlt : ((i : Int) < (rows.length : Int)) = False := eq_false (by omega)
    rw [List.take_of_length_le (by omega)] at hz
    simp (maxSteps := 1000000) (disch := first | omega | decide +kernel | (simp only [symN] <;> omega) | assumption) only [Jaa, Jac, reduceIte, Nat.reduceEqDiff, Nat.reduceAdd, Nat.reduceMul, e0', e1, e7, e8, hlt, decide_false, Jil hz]
    exact ⟨_, trivial, rfl⟩
  | succ kk =>
    have hil : i < rows.length := by omega
    have hlt : ((i : Int) < (rows.length : Int)) = True := eq_true (by omega)
    rcases hs with ⟨hnil, _⟩ | ⟨A, o, k, c, rfl, hc, hr⟩
    · have e : rows.length = 0 := by simpa using congrArg List.length hnil
      omega
    have hrd : ∀ m, rdG (σ.bump m) (σ.get A) (o + i * 4) 4 = some rows[i] := fun m => SlR.rd (k := k) hc hr hil m
    simp (maxSteps := 1000000) (disch := first | omega | decide +kernel | (simp only [symN] <;> omega) | assumption) only [Jaa, Jac, reduceIte, Nat.reduceEqDiff, Nat.reduceAdd, Nat.reduceMul, e0', e1, e7, e8, hlt, decide_true, hrd, hg]
    rw [Jak]
    refine TF.of (hcall i hil _) ?_
    cases hp : p rows[i] with
    | true =>
      have hidx := Jim hil hz hp
      simp (maxSteps := 1000000) (disch := first | omega | decide +kernel | (simp only [symN] <;> omega) | assumption) only [Jaa, Jac, reduceIte, Nat.reduceEqDiff, Nat.reduceAdd, Nat.reduceMul, e0', e1, e7, e8, hidx]
      exact ⟨_, trivial, rfl⟩
    | false =>
      simp (maxSteps := 1000000) (disch := first | omega | decide +kernel | (simp only [symN] <;> omega) | assumption) only [Jaa, Jac, reduceIte, Nat.reduceEqDiff, Nat.reduceAdd, Nat.reduceMul, e0', e1, e7, e8]
      exact ⟨kk, by omega, i + 1, _, by omega, rfl, Jid hil hz hp, trivial, trivial, trivial, by simp⟩
theorem Jp6 {gl : List Nat} {g : Nat} {caps : List Value} (rows : List (List Value)) (p : List Value → Bool) (s : Value) (σ : St) (hs : SlR σ s 4 rows) (hl : rows.length < 1000000000) (hg : ∀ args σ, Jb6 Tryz.prog g args σ = some (.enter g args))
    (hcall : ∀ i (h : i < rows.length) m, SimF Tryz.prog gl g ⟨(.agg ⟨rows[i]⟩) :: caps⟩ (σ.bump m) (.bool (p rows[i])) (σ.bump m)) :
    TF Tryz.prog gl 195 #[s, .func (.func g) #[] ⟨caps⟩] σ fun v σ' => ∃ m, v = .bool (rows.any p) ∧ σ' = σ.bump m := by
  refine TF.walk (Jaf gl) Jae Tryz.func195 (by kernel_rfl) rfl fun c hc => ?_
  cases hc
  simp (maxSteps := 1000000) (disch := first | omega | decide +kernel | (simp only [symN] <;> omega) | assumption) only [Tryz.f195, Jaa, Jac, reduceIte, Nat.reduceEqDiff, Nat.reduceAdd, Nat.reduceMul]
  rw [Jak]
  refine (Jpy rows p s _ (hs.bump _) hl hg fun i h m => by rw [Jgr]; exact hcall i h (6 + m)).mono ?_
  rintro _ _ ⟨m, rfl, rfl⟩
  simp (maxSteps := 1000000) (disch := first | omega | decide +kernel | (simp only [symN] <;> omega) | assumption) only [Jaa, Jac, reduceIte, Nat.reduceEqDiff, Nat.reduceAdd, Nat.reduceMul, Jfm]
  exact ⟨_, trivial, rfl⟩
theorem Jpx {gl : List Nat} {g : Nat} {caps : List Value} (rows : List Value) (p : Value → Bool) (s : Value) (σ : St) (hs : SlR σ s 1 (rows.map fun v => [v])) (hl : rows.length < 1000000000) (hg : ∀ args σ, Jb6 Tryz.prog g args σ = some (.enter g args))
    (hcall : ∀ i (h : i < rows.length) m, SimF Tryz.prog gl g ⟨rows[i] :: caps⟩ (σ.bump m) (.bool (p rows[i])) (σ.bump m)) :
    TF Tryz.prog gl 280 #[s, .func (.func g) #[] ⟨caps⟩] σ fun v σ' => ∃ m, v = .int .i64 (idxI p rows) ∧ σ' = σ.bump m := by
  refine TF.walk (Jaf gl) Jae Tryz.func280 (by kernel_rfl) rfl fun c hc => ?_
  cases hc
  obtain ⟨b0, k0, e0⟩ := hs.shape; rw [List.length_map] at e0
  rw [e0]
  simp (maxSteps := 1000000) (disch := first | omega | decide +kernel | (simp only [symN] <;> omega) | assumption) only [Tryz.f280, Jaa, Jac, reduceIte, Nat.reduceEqDiff, Nat.reduceAdd, Nat.reduceMul]
  rw [← e0]
  refine Jay (Jaf gl) Jae (fun kk env τ => ∃ i m, i + kk = rows.length ∧ τ = σ.bump m ∧ (∀ e ∈ rows.take i, p e = false) ∧ eget env 0 = s ∧ eget env 1 = .func (.func g) #[] ⟨caps⟩ ∧ eget env 7 = .int .i64 (rows.length : Nat) ∧ eget env 8 = .int .i64 (i : Nat)) (n := rows.length) (by kernel_rfl) ?_ ?_
  · exact ⟨0, _, by omega, rfl, by simp, by simp [Jab], by simp [Jab], by simp [Jab], by simp [Jab]⟩
  rintro kk env τ ⟨i, m, hi, rfl, hz, e0', e1, e7, e8⟩
  cases kk with
  | zero =>
    have hlt : ((i : Int) < (rows.length : Int)) = False := eq_false (by omega)
    rw [List.take_of_length_le (by omega)] at hz
    simp (maxSteps := 1000000) (disch := first | omega | decide +kernel | (simp only [symN] <;> omega) | assumption) only [Jaa, Jac, reduceIte, Nat.reduceEqDiff, Nat.reduceAdd, Nat.reduceMul, e0', e1, e7, e8, hlt, decide_false, Jil hz]
    exact ⟨_, trivial, rfl⟩
  | succ kk =>
    have hil : i < rows.length := by omega
    have hlt : ((i : Int) < (rows.length : Int)) = True := eq_true (by omega)
    rcases hs with ⟨hnil, _⟩ | ⟨A, o, k, c, rfl, hc, hr⟩
    · have e : rows.length = 0 := by simpa using congrArg List.length hnil
      omega
    have hrd : ∀ m, rdG (σ.bump m) (σ.get A) (o + i) 1 = some [rows[i]] := fun m => by
      have := SlR.rd (k := k) hc hr (i := i) (by simpa using hil) m
      simpa using this
    simp (maxSteps := 1000000) (disch := first | omega | decide +kernel | (simp only [symN] <;> omega) | assumption) only [Jaa, Jac, reduceIte, Nat.reduceEqDiff, Nat.reduceAdd, Nat.reduceMul, e0', e1, e7, e8, hlt, decide_true, hrd, hg, List.length_map]
    rw [Jak]
    refine TF.of (hcall i hil _) ?_
    cases hp : p rows[i] with
    | true =>
      have hidx := Jim hil hz hp
      simp (maxSteps := 1000000) (disch := first | omega | decide +kernel | (simp only [symN] <;> omega) | assumption) only [Jaa, Jac, reduceIte, Nat.reduceEqDiff, Nat.reduceAdd, Nat.reduceMul, e0', e1, e7, e8, hidx]
      exact ⟨_, trivial, rfl⟩
    | false =>
      simp (maxSteps := 1000000) (disch := first | omega | decide +kernel | (simp only [symN] <;> omega) | assumption) only [Jaa, Jac, reduceIte, Nat.reduceEqDiff, Nat.reduceAdd, Nat.reduceMul, e0', e1, e7, e8]
      exact ⟨kk, by omega, i + 1, _, by omega, rfl, Jid hil hz hp, trivial, trivial, trivial, by simp⟩
theorem Jp5 {gl : List Nat} {g : Nat} {caps : List Value} (rows : List Value) (p : Value → Bool) (s : Value) (σ : St) (hs : SlR σ s 1 (rows.map fun v => [v])) (hl : rows.length < 1000000000) (hg : ∀ args σ, Jb6 Tryz.prog g args σ = some (.enter g args))
    (hcall : ∀ i (h : i < rows.length) m, SimF Tryz.prog gl g ⟨rows[i] :: caps⟩ (σ.bump m) (.bool (p rows[i])) (σ.bump m)) :
    TF Tryz.prog gl 236 #[s, .func (.func g) #[] ⟨caps⟩] σ fun v σ' => ∃ m, v = .bool (rows.any p) ∧ σ' = σ.bump m := by
  refine TF.walk (Jaf gl) Jae Tryz.func236 (by kernel_rfl) rfl fun c hc => ?_
  cases hc
  simp (maxSteps := 1000000) (disch := first | omega | decide +kernel | (simp only [symN] <;> omega) | assumption) only [Tryz.f236, Jaa, Jac, reduceIte, Nat.reduceEqDiff, Nat.reduceAdd, Nat.reduceMul]
  rw [Jak]
  refine (Jpx rows p s _ (hs.bump _) hl hg fun i h m => by rw [Jgr]; exact hcall i h (6 + m)).mono ?_
  rintro _ _ ⟨m, rfl, rfl⟩
  simp (maxSteps := 1000000) (disch := first | omega | decide +kernel | (simp only [symN] <;> omega) | assumption) only [Jaa, Jac, reduceIte, Nat.reduceEqDiff, Nat.reduceAdd, Nat.reduceMul, Jfm]
  exact ⟨_, trivial, rfl⟩
theorem Jpw {gl : List Nat} {g : Nat} {caps : List Value} (rows : List Value) (p : Value → Bool) (s : Value) (σ : St) (hs : SlR σ s 1 (rows.map fun v => [v])) (hl : rows.length < 1000000000) (hg : ∀ args σ, Jb6 Tryz.prog g args σ = some (.enter g args))
    (hcall : ∀ i (h : i < rows.length) m, SimF Tryz.prog gl g ⟨rows[i] :: caps⟩ (σ.bump m) (.bool (p rows[i])) (σ.bump m)) :
    TF Tryz.prog gl 283 #[s, .func (.func g) #[] ⟨caps⟩] σ fun v σ' => ∃ m, v = .int .i64 (idxI p rows) ∧ σ' = σ.bump m := by
  refine TF.walk (Jaf gl) Jae Tryz.func283 (by kernel_rfl) rfl fun c hc => ?_
  cases hc
  obtain ⟨b0, k0, e0⟩ := hs.shape; rw [List.length_map] at e0
  rw [e0]
  simp (maxSteps := 1000000) (disch := first | omega | decide +kernel | (simp only [symN] <;> omega) | assumption) only [Tryz.f283, Jaa, Jac, reduceIte, Nat.reduceEqDiff, Nat.reduceAdd, Nat.reduceMul]
  rw [← e0]
  refine Jay (Jaf gl) Jae (fun kk env τ => ∃ i m, i + kk = rows.length ∧ τ = σ.bump m ∧ (∀ e ∈ rows.take i, p e = false) ∧ eget env 0 = s ∧ eget env 1 = .func (.func g) #[] ⟨caps⟩ ∧ eget env 7 = .int .i64 (rows.length : Nat) ∧ eget env 8 = .int .i64 (i : Nat)) (n := rows.length) (by kernel_rfl) ?_ ?_
  · exact ⟨0, _, by omega, rfl, by simp, by simp [Jab], by simp [Jab], by simp [Jab], by simp [Jab]⟩
  rintro kk env τ ⟨i, m, hi, rfl, hz, e0', e1, e7, e8⟩
  cases kk with
  | zero =>
    have hlt : ((i : Int) < (rows.length : Int)) = False := eq_false (by omega)
    rw [List.take_of_length_le (by omega)] at hz
    simp (maxSteps := 1000000) (disch := first | omega | decide +kernel | (simp only [symN] <;> omega) | assumption) only [Jaa, Jac, reduceIte, Nat.reduceEqDiff, Nat.reduceAdd, Nat.reduceMul, e0', e1, e7, e8, hlt, decide_false, Jil hz]
    exact ⟨_, trivial, rfl⟩
  | succ kk =>
    have hil : i < rows.length := by omega
    have hlt : ((i : Int) < (rows.length : Int)) = True := eq_true (by omega)
    rcases hs with ⟨hnil, _⟩ | ⟨A, o, k, c, rfl, hc, hr⟩
    · have e : rows.length = 0 := by simpa using congrArg List.length hnil
      omega
    have hrd : ∀ m, rdG (σ.bump m) (σ.get A) (o + i) 1 = some [rows[i]] := fun m => by
      have := SlR.rd (k := k) hc hr (i := i) (by simpa using hil) m
      simpa using this
    simp (maxSteps := 1000000) (disch := first | omega | decide +kernel | (simp only [symN] <;> omega) | assumption) only [Jaa, Jac, reduceIte, Nat.reduceEqDiff, Nat.reduceAdd, Nat.reduceMul, e0', e1, e7, e8, hlt, decide_true, hrd, hg, List.length_map]
    rw [Jak]
    refine TF.of (hcall i hil _) ?_
    cases hp : p rows[i] with
    | true =>
      have hidx := Jim hil hz hp
      simp (maxSteps := 1000000) (disch := first | omega | decide +kernel | (simp only [symN] <;> omega) | assumption) only [Jaa, Jac, reduceIte, Nat.reduceEqDiff, Nat.reduceAdd, Nat.reduceMul, e0', e1, e7, e8, hidx]
      exact ⟨_, trivial, rfl⟩
    | false =>
      simp (maxSteps := 1000000) (disch := first | omega | decide +kernel | (simp only [symN] <;> omega) | assumption) only [Jaa, Jac, reduceIte, Nat.reduceEqDiff, Nat.reduceAdd, Nat.reduceMul, e0', e1, e7, e8]
      exact ⟨kk, by omega, i + 1, _, by omega, rfl, Jid hil hz hp, trivial, trivial, trivial, by simp⟩
theorem Jp4 {gl : List Nat} {g : Nat} {caps : List Value} (rows : List Value) (p : Value → Bool) (s : Value) (σ : St) (hs : SlR σ s 1 (rows.map fun v => [v])) (hl : rows.length < 1000000000) (hg : ∀ args σ, Jb6 Tryz.prog g args σ = some (.enter g args))
    (hcall : ∀ i (h : i < rows.length) m, SimF Tryz.prog gl g ⟨rows[i] :: caps⟩ (σ.bump m) (.bool (p rows[i])) (σ.bump m)) :
    TF Tryz.prog gl 244 #[s, .func (.func g) #[] ⟨caps⟩] σ fun v σ' => ∃ m, v = .bool (rows.any p) ∧ σ' = σ.bump m := by
  refine TF.walk (Jaf gl) Jae Tryz.func244 (by kernel_rfl) rfl fun c hc => ?_
  cases hc
  simp (maxSteps := 1000000) (disch := first | omega | decide +kernel | (simp only [symN] <;> omega) | assumption) only [Tryz.f244, Jaa, Jac, reduceIte, Nat.reduceEqDiff, Nat.reduceAdd, Nat.reduceMul]
  rw [Jak]
  refine (Jpw rows p s _ (hs.bump _) hl hg fun i h m => by rw [Jgr]; exact hcall i h (6 + m)).mono ?_
  rintro _ _ ⟨m, rfl, rfl⟩
  simp (maxSteps := 1000000) (disch := first | omega | decide +kernel | (simp only [symN] <;> omega) | assumption) only [Jaa, Jac, reduceIte, Nat.reduceEqDiff, Nat.reduceAdd, Nat.reduceMul, Jfm]
  exact ⟨_, trivial, rfl⟩
theorem Jme (n : Int) : Jai 117 [.int .i64 n] (.bool (decide (0 ≤ n) && decide (n ≤ 1099511627776))) := by
  refine Ja6 rfl rfl (TF.walk (Jdr Jel) Jae Tryz.func117 (by kernel_rfl) rfl fun c hc => ?_)
  cases hc
  by_cases h : 0 ≤ n
  · simp (maxSteps := 1000000) (disch := first | omega | decide +kernel | (simp only [symN] <;> omega) | assumption) only [Tryz.f117, Jaa, Jac, reduceIte, Nat.reduceEqDiff, Nat.reduceAdd, Nat.reduceMul, h, Bool.true_and, Bool.false_and]
  · simp (maxSteps := 1000000) (disch := first | omega | decide +kernel | (simp only [symN] <;> omega) | assumption) only [Tryz.f117, Jaa, Jac, reduceIte, Nat.reduceEqDiff, Nat.reduceAdd, Nat.reduceMul, h, Bool.true_and, Bool.false_and]
theorem Jyq (a b : ByteArray) : Jai 97 [.agg #[.string a, .string b]] (.agg #[.string (a.extract 0 (min a.size 80)), .string (b.extract 0 (min b.size 300))]) := by
  refine Ja6 rfl rfl (TF.walk (Jdr Jel) Jae Tryz.func97 (by kernel_rfl) rfl fun c hc => ?_)
  cases hc
  have e1 : (min (a.size : Int) 80).toNat = min a.size 80 := by omega
  have e2 : (min (b.size : Int) 300).toNat = min b.size 300 := by omega
  simp (maxSteps := 1000000) (disch := first | omega | decide +kernel | (simp only [symN] <;> omega) | assumption) only [Tryz.f97, Jaa, Jac, reduceIte, Nat.reduceEqDiff, Nat.reduceAdd, Nat.reduceMul, e1, e2]
theorem eqS {a b : ByteArray} : (a.toList == b.toList) = decide (a = b) := by
  rw [ByteArray.toList_eq, ByteArray.toList_eq, Bool.eq_iff_iff, beq_iff_eq, decide_eq_true_eq]
  constructor
  · intro h; cases a; cases b; congr 1; exact Array.toList_inj.1 h
  · intro h; rw [h]
def Jea (c : Nat) : Bool := decide (32 ≤ c) && decide (c ≤ 126)
def Jfi (s : ByteArray) : Bool := s.data.toList.all fun c => Jea c.toNat
def Jet (l d : ByteArray) : Bool := decide (l = ByteArray.mk #[]) && decide (d = ByteArray.mk #[])
theorem Jch (l d : ByteArray) : Jai 127 [.agg #[.string l, .string d]] (.bool (Jet l d)) := by
  refine Ja6 rfl rfl (TF.walk (Jdr Jel) Jae Tryz.func127 (by kernel_rfl) rfl fun c hc => ?_)
  cases hc
  by_cases h : l = ⟨#[]⟩
  · simp (maxSteps := 1000000) (disch := first | omega | decide +kernel | (simp only [symN] <;> omega) | assumption) only [Tryz.f127, Jaa, Jac, reduceIte, Nat.reduceEqDiff, Nat.reduceAdd, Nat.reduceMul, eqS, h, decide_true, Jet, Bool.true_and]
  · simp (maxSteps := 1000000) (disch := first | omega | decide +kernel | (simp only [symN] <;> omega) | assumption) only [Tryz.f127, Jaa, Jac, reduceIte, Nat.reduceEqDiff, Nat.reduceAdd, Nat.reduceMul, eqS, h, decide_false, Jet, Bool.false_and]
theorem Jsr (c : Nat) : Jai 209 [.int .u8 (c : Nat)] (.bool (Jea c)) := by
  refine Ja6 rfl rfl (TF.walk (Jdr Jel) Jae Tryz.func209 (by kernel_rfl) rfl fun c hc => ?_)
  cases hc
  have e1 : decide ((32 : Int) ≤ (c : Int)) = decide (32 ≤ c) := by congr 1; exact propext (by omega)
  have e2 : decide ((c : Int) ≤ 126) = decide (c ≤ 126) := by congr 1; exact propext (by omega)
  by_cases h : 32 ≤ c
  · simp (maxSteps := 1000000) (disch := first | omega | decide +kernel | (simp only [symN] <;> omega) | assumption) only [Tryz.f209, Jaa, Jac, reduceIte, Nat.reduceEqDiff, Nat.reduceAdd, Nat.reduceMul, e1, e2, h, decide_true, Jea, Bool.true_and]
  · simp (maxSteps := 1000000) (disch := first | omega | decide +kernel | (simp only [symN] <;> omega) | assumption) only [Tryz.f209, Jaa, Jac, reduceIte, Nat.reduceEqDiff, Nat.reduceAdd, Nat.reduceMul, e1, e2, h, decide_false, Jea, Bool.false_and]
theorem Jpm (c : Nat) : Jai 240 [.int .u8 (c : Nat)] (.bool (Jea c)) := by
  refine Ja6 rfl rfl (TF.walk (Jdr Jel) Jae Tryz.func240 (by kernel_rfl) rfl fun c hc => ?_)
  cases hc
  have e1 : decide ((32 : Int) ≤ (c : Int)) = decide (32 ≤ c) := by congr 1; exact propext (by omega)
  have e2 : decide ((c : Int) ≤ 126) = decide (c ≤ 126) := by congr 1; exact propext (by omega)
  by_cases h : 32 ≤ c
  · simp (maxSteps := 1000000) (disch := first | omega | decide +kernel | (simp only [symN] <;> omega) | assumption) only [Tryz.f240, Jaa, Jac, reduceIte, Nat.reduceEqDiff, Nat.reduceAdd, Nat.reduceMul, e1, e2, h, decide_true, Jea, Bool.true_and]
  · simp (maxSteps := 1000000) (disch := first | omega | decide +kernel | (simp only [symN] <;> omega) | assumption) only [Tryz.f240, Jaa, Jac, reduceIte, Nat.reduceEqDiff, Nat.reduceAdd, Nat.reduceMul, e1, e2, h, decide_false, Jea, Bool.false_and]
theorem Jgg (s : ByteArray) (hs : s.size < 9223372036854775807) : Jai 202 [.string s] (.bool (Jfi s)) := by
  refine Ja6 rfl rfl (TF.walk (Jaf _) Jae Tryz.func202 (by kernel_rfl) rfl fun c hc => ?_)
  cases hc
  simp (maxSteps := 1000000) (disch := first | omega | decide +kernel | (simp only [symN] <;> omega) | assumption) only [Tryz.f202, Jaa, Jac, reduceIte, Nat.reduceEqDiff, Nat.reduceAdd, Nat.reduceMul]
  have hsz : s.data.toList.length = s.size := by simp
  refine Jay (Jaf _) Jae (fun kk env τ => ∃ i, i + kk = s.size ∧ ((s.data.toList.take i).all fun c => Jea c.toNat) = true ∧ eget env 0 = .string s ∧ eget env 3 = .int .i64 (i : Nat)) (n := s.size) (by kernel_rfl) ?_ ?_
  · exact ⟨0, by omega, by simp, by simp [Jab], by simp [Jab]⟩
  rintro kk env τ ⟨i, hi, hz, e0, e3⟩
  cases kk with
  | zero =>
    have hlt : ((i : Int) < (s.size : Int)) = False := eq_false (by omega)
    have hall : Jfi s = true := by
      rw [List.take_of_length_le (by omega)] at hz; exact hz
    simp (maxSteps := 1000000) (disch := first | omega | decide +kernel | (simp only [symN] <;> omega) | assumption) only [Jaa, Jac, reduceIte, Nat.reduceEqDiff, Nat.reduceAdd, Nat.reduceMul, e0, e3, hlt, decide_false, hall]
  | succ kk =>
    have hil : i < s.size := by omega
    have hlt : ((i : Int) < (s.size : Int)) = True := eq_true (by omega)
    simp (maxSteps := 1000000) (disch := first | omega | decide +kernel | (simp only [symN] <;> omega) | assumption) only [Jaa, Jac, reduceIte, Nat.reduceEqDiff, Nat.reduceAdd, Nat.reduceMul, e0, e3, hlt]
    rw [Jak]
    refine TF.of (Jpm _ _) ?_
    have htk : ((s.data.toList.take (i + 1)).all fun c => Jea c.toNat) = Jea (s.data.toList.getD i 0).toNat := by
      rw [List.take_succ_eq_append_getElem (by omega), List.all_append, hz, List.getD_eq_getElem?_getD, List.getElem?_eq_getElem (by omega)]
      simp
    cases hp : Jea (s.data.toList.getD i 0).toNat with
    | true =>
      rw [hp] at htk
      simp (maxSteps := 1000000) (disch := first | omega | decide +kernel | (simp only [symN] <;> omega) | assumption) only [Jaa, Jac, reduceIte, Nat.reduceEqDiff, Nat.reduceAdd, Nat.reduceMul, e0, e3]
      exact ⟨kk, by omega, i + 1, by omega, htk, trivial, by simp⟩
    | false =>
      have hall : Jfi s = false := by
        unfold Jfi
        rw [List.all_eq_false]
        refine ⟨s.data.toList[i]'(by omega), List.getElem_mem _, ?_⟩
        rw [List.getD_eq_getElem?_getD, List.getElem?_eq_getElem (by omega)] at hp
        simpa using hp
      simp (maxSteps := 1000000) (disch := first | omega | decide +kernel | (simp only [symN] <;> omega) | assumption) only [Jaa, Jac, reduceIte, Nat.reduceEqDiff, Nat.reduceAdd, Nat.reduceMul, e0, e3, hall]
theorem Jhy (s : ByteArray) (hs : s.size < 9223372036854775807) : Jai 160 [.string s] (.bool (Jfi s)) := by
  refine Ja6 rfl rfl (TF.walk (Jaf _) Jae Tryz.func160 (by kernel_rfl) rfl fun c hc => ?_)
  cases hc
  simp (maxSteps := 1000000) (disch := first | omega | decide +kernel | (simp only [symN] <;> omega) | assumption) only [Tryz.f160, Jaa, Jac, reduceIte, Nat.reduceEqDiff, Nat.reduceAdd, Nat.reduceMul]
  have hsz : s.data.toList.length = s.size := by simp
  refine Jay (Jaf _) Jae (fun kk env τ => ∃ i, i + kk = s.size ∧ ((s.data.toList.take i).all fun c => Jea c.toNat) = true ∧ eget env 6 = .pointer (some ⟨1002, 0, none⟩) ∧ τ.get 1002 = some (.iter s i)) (n := s.size) (by kernel_rfl) ?_ ?_
  · exact ⟨0, by omega, by simp, by simp [Jab], by simp⟩
  rintro kk env τ ⟨i, hi, hz, e6, hg⟩
  cases kk with
  | zero =>
    have hlt : ¬ (i < s.size) := by omega
    have hall : Jfi s = true := by
      rw [List.take_of_length_le (by omega)] at hz; exact hz
    simp (maxSteps := 1000000) (disch := first | omega | decide +kernel | (simp only [symN] <;> omega) | assumption) only [Jaa, Jac, reduceIte, Nat.reduceEqDiff, Nat.reduceAdd, Nat.reduceMul, e6, hg, Jt2, hall]
  | succ kk =>
    have hil : i < s.size := by omega
    have hget : s.data.toList.getD i 0 = s[i] := by
      rw [List.getD_eq_getElem?_getD, List.getElem?_eq_getElem (by omega)]; rfl
    have htk : ((s.data.toList.take (i + 1)).all fun c => Jea c.toNat) = Jea s[i].toNat := by
      rw [List.take_succ_eq_append_getElem (by omega), List.all_append, hz]
      simp; rfl
    have hbad : Jea s[i].toNat = false → Jfi s = false := fun hp => by
      unfold Jfi
      rw [List.all_eq_false]
      refine ⟨s.data.toList[i]'(by omega), List.getElem_mem _, ?_⟩
      have e : s.data.toList[i]'(by omega) = s[i] := rfl
      rw [e, hp]; simp
    by_cases h128 : s[i].toNat < 128
    · have hd := decode_ascii s i hil h128
      by_cases h126 : 126 < s[i].toNat
      · have hgt : ((126 : Int) < (s[i].toNat : Int)) = True := eq_true (by omega)
        have hall := hbad (by simp [Jea]; omega)
        simp (maxSteps := 1000000) (disch := first | omega | decide +kernel | (simp only [symN] <;> omega) | assumption) only [Jaa, Jac, reduceIte, Nat.reduceEqDiff, Nat.reduceAdd, Nat.reduceMul, e6, hg, Ji9, hd, hgt, decide_true, hall]
      · have hgt : ((126 : Int) < (s[i].toNat : Int)) = False := eq_false (by omega)
        simp (maxSteps := 1000000) (disch := first | omega | decide +kernel | (simp only [symN] <;> omega) | assumption) only [Jaa, Jac, reduceIte, Nat.reduceEqDiff, Nat.reduceAdd, Nat.reduceMul, e6, hg, Ji9, hd, hgt, decide_false]
        rw [Jak]
        refine TF.of (Jsr _ _) ?_
        cases hp : Jea s[i].toNat with
        | true =>
          rw [hp] at htk
          simp (maxSteps := 1000000) (disch := first | omega | decide +kernel | (simp only [symN] <;> omega) | assumption) only [Jaa, Jac, reduceIte, Nat.reduceEqDiff, Nat.reduceAdd, Nat.reduceMul, e6]
          exact ⟨kk, by omega, i + 1, by omega, htk, trivial, by simp⟩
        | false =>
          have hall := hbad hp
          simp (maxSteps := 1000000) (disch := first | omega | decide +kernel | (simp only [symN] <;> omega) | assumption) only [Jaa, Jac, reduceIte, Nat.reduceEqDiff, Nat.reduceAdd, Nat.reduceMul, hall]
    · obtain ⟨h1, h2⟩ := decode_high s i hil (by omega)
      have hgt : ((126 : Int) < ((Utf8.decode s i).1 : Int)) = True := eq_true (by omega)
      have hall := hbad (by simp [Jea]; omega)
      simp (maxSteps := 1000000) (disch := first | omega | decide +kernel | (simp only [symN] <;> omega) | assumption) only [Jaa, Jac, reduceIte, Nat.reduceEqDiff, Nat.reduceAdd, Nat.reduceMul, e6, hg, Ji9, hgt, decide_true, hall]
end Go.Proofs
namespace Go.Ev
open Go
set_option linter.unusedVariables false
set_option linter.unusedSimpArgs false
def eqFields (P : Program) (d : Nat) (xs ys : Array Value) : List Field → Option Bool
  | [] => some true
  | f :: r => if f.name ≠ "_" then (Jar P (part f.type xs f.offset)).bind fun a => (Jar P (part f.type ys f.offset)).bind fun b => (Jar P (Op.equalIn d f.type a b)).bind fun e => if e then eqFields P d xs ys r else some false
    else eqFields P d xs ys r
theorem Jf9 {P : Program} {t : TypeId} {fields : Array Field} {d : Nat} {xs ys : Array Value} (hu : P.underlying t = some (.struct fields)) (hs : P.stoodInHeld t = false) :
    Jar P (Op.equalIn (d + 1) t (.agg xs) (.agg ys)) = eqFields P d xs ys fields.toList := by
  rw [Op.equalIn, Jao, Jaz hu, Option.bind_some]
  simp only
  rw [Jao]
  have hp : Jar P program = some P := rfl
  rw [hp, Option.bind_some]
  have e : ∀ {α : Type} (a b : Sem α), (if P.stoodInHeld t = true then a else b) = b := fun a b => by rw [hs]; rfl
  rw [e]
  rw [← Array.forIn_toList]
  generalize fields.toList = l
  induction l with
  | nil => rfl
  | cons f r ih =>
    rw [Jao] at ih
    rw [Jao, List.forIn_cons, Jao]
    unfold eqFields
    by_cases h : f.name ≠ "_"
    · rw [if_pos h, if_pos h, Jao]
      cases Jar P (part f.type xs f.offset) with
      | none => rfl
      | some a =>
        simp only [Option.bind_some]
        rw [Jao]
        cases Jar P (part f.type ys f.offset) with
        | none => rfl
        | some b =>
          simp only [Option.bind_some]
          rw [Jao]
          cases Jar P (Op.equalIn d f.type a b) with
          | none => rfl
          | some e =>
            cases e with
            | true => simp only [Option.bind_some, Bool.not_true, Bool.false_eq_true, if_false, Jcn, if_true]; exact ih
            | false => rfl
    · rw [if_neg h, if_neg h]
      simp only [Jcn, Option.bind_some]; exact ih
section
variable {P : Program} {t : TypeId} {x y : Operand} {σ : St}
theorem Jua {op : BinOp} {a b : Array Value} (h : P.eqGuardType P.depth t = false) : Jar P (eqGuard op t x y (.agg a) (.agg b)) = some () := by
  have hp : Jar P program = some P := rfl
  cases op <;> first | rfl | (unfold eqGuard; simp [Jao, hp, h])
theorem Jnk {xs ys : Array Value} {fields : Array Field} {e : Bool} (hf : Ja5 (.agg xs) = true) (hf2 : Ja5 (.agg ys) = true) (hu : P.underlying t = some (.struct fields)) (hs : P.stoodInHeld t = false) (hg : P.eqGuardType P.depth t = false) (he : eqFields P 9999 xs ys fields.toList = some e) :
    sBin P .neq t x y (.agg xs) (.agg ys) σ = some (.val (.bool (!e)) σ) := Jcy hf hf2 (Jua hg) (by
  have h1 : binOp .neq t (.agg xs) (.agg ys) = (do pure (.bool (!(← Op.equal t (.agg xs) (.agg ys))))) := rfl
  have h2 : Op.equal t (.agg xs) (.agg ys) = Op.equalIn (9999 + 1) t (.agg xs) (.agg ys) := rfl
  rw [h1, Jao, h2, Jf9 hu hs, he]; rfl) rfl
theorem Kel {xs ys : Array Value} {fields : Array Field} {e : Bool} (hf : Ja5 (.agg xs) = true) (hf2 : Ja5 (.agg ys) = true) (hu : P.underlying t = some (.struct fields)) (hs : P.stoodInHeld t = false) (hg : P.eqGuardType P.depth t = false) (he : eqFields P 9999 xs ys fields.toList = some e) :
    sBin P .eql t x y (.agg xs) (.agg ys) σ = some (.val (.bool e) σ) := Jcy hf hf2 (Jua hg) (by
  have h1 : binOp .eql t (.agg xs) (.agg ys) = (do pure (.bool (← Op.equal t (.agg xs) (.agg ys)))) := rfl
  have h2 : Op.equal t (.agg xs) (.agg ys) = Op.equalIn (9999 + 1) t (.agg xs) (.agg ys) := rfl
  rw [h1, Jao, h2, Jf9 hu hs, he]; rfl) rfl
theorem Ji5 {cs : Array Value} {off : Nat} {v : Value} (ha : Jar P (isAgg t) = some false) (h : cs[off]? = some v) : Jar P (part t cs off) = some v := by
  unfold part
  rw [Jao, ha, Option.bind_some]
  simp only [Bool.false_eq_true, if_false, h]; rfl
theorem Km4 {cs : Array Value} {off n : Nat} (ha : Jar P (isAgg t) = some true) (hs : Jar P (sizeOf t) = some n) : Jar P (part t cs off) = some (.agg (cs.extract off (off + n))) := by
  unfold part
  rw [Jao, ha, Option.bind_some]
  simp only [if_true, Jao, hs, Option.bind_some]; rfl
theorem Jph {d : Nat} {a b : ByteArray} (h : P.underlying t = some .string) : Jar P (Op.equalIn (d + 1) t (.string a) (.string b)) = some (a == b) := by
  rw [Op.equalIn, Jao, Jaz h]; rfl
theorem Jyd {d : Nat} {k k' : IntKind} {a b : Int} (h : P.underlying t = some (.int k')) : Jar P (Op.equalIn (d + 1) t (.int k a) (.int k b)) = some (a == b) := by
  rw [Op.equalIn, Jao, Jaz h]
  simp
theorem Juh {d : Nat} {a b : Bool} (h : P.underlying t = some .bool) : Jar P (Op.equalIn (d + 1) t (.bool a) (.bool b)) = some (a == b) := by
  rw [Op.equalIn, Jao, Jaz h]; rfl
end
theorem TF.walkC {P : Program} {gl : List Nat} {C : Jd9} (hC : C.ok P gl) (hm : P.follows .mixedOrders = true) {f : FuncId} {fn : Func} {args : Array Value} {σ : St} {Q : Value → St → Prop} (hf : P.funcs[f]? = some fn)
    (hok : (match fn.body with | some c => okC P gl fn.ntmps c | none => false) = true) (hsz : args.size ≤ fn.ntmps)
    (h : ∀ c, fn.body = some c → zC P gl C fn.ntmps c (Jfl args.toList 0 .nil) σ (fun ex env' σ' => zX ex (zRes (Ja2 P env' σ' fn.results.toList) (fun l => Q (packed l) σ') .mk) (fun _ => False) (zRes (Ja2 P env' σ' fn.results.toList) (fun l => Q (packed l) σ') .mk) .mk) .mk) : TF P gl f args σ Q := by
  cases hb : fn.body with
  | none => rw [hb] at hok; cases hok
  | some c =>
    rw [hb] at hok
    simp only at hok
    refine TF.body hC hm hf hb hok hsz ?_
    have h := h c hb
    unfold zC at h
    have e : (fun ex env' σ' => zX ex (zRes (Ja2 P env' σ' fn.results.toList) (fun l => Q (packed l) σ') .mk) (fun _ => False) (zRes (Ja2 P env' σ' fn.results.toList) (fun l => Q (packed l) σ') .mk) .mk) =
        (fun (ex : Ex) (env' : Env) (σ' : St) => match ex with
      | .exit _ => False
      | _ => match Ja2 P env' σ' fn.results.toList with
        | some l => Q (packed l) σ'
        | none => False) := by
      funext ex env' σ'
      cases ex <;> simp only [zX] <;> (try (unfold zRes; cases Ja2 P env' σ' fn.results.toList <;> rfl))
    rw [e] at h
    exact h
end Go.Ev
namespace Go.Proofs
open Go Go.Ev
set_option maxRecDepth 100000
set_option linter.unusedSimpArgs false
set_option linter.unusedVariables false
def eqL (P : Program) (d : Nat) (xs ys : Array Value) : List (Bool × Nat × Nat) → Option Bool
  | [] => some true
  | (true, t, o) :: r => (Jar P (part t xs o)).bind fun a => (Jar P (part t ys o)).bind fun b => (Jar P (Op.equalIn d t a b)).bind fun e => if e then eqL P d xs ys r else some false
  | (false, _, _) :: r => eqL P d xs ys r
def Kes (f : Field) : Bool × Nat × Nat := (decide (f.name ≠ "_"), f.type, f.offset)
theorem Jf3 {P : Program} {d : Nat} {xs ys : Array Value} : ∀ l : List Field, eqFields P d xs ys l = eqL P d xs ys (l.map Kes)
  | [] => rfl
  | f :: r => by
    have ih := Jf3 (P := P) (d := d) (xs := xs) (ys := ys) r
    simp only [eqFields, List.map_cons, Kes]
    by_cases h : f.name ≠ "_"
    · rw [if_pos h]; simp only [h, ne_eq, not_false_eq_true, decide_true, eqL, ih]
    · rw [if_neg h]; simp only [h, decide_false, eqL, ih]
def fieldsOf (P : Program) (t : TypeId) : Array Field := match P.underlying t with
  | some (.struct f) => f
  | _ => #[]
theorem Kfh {P : Program} {t : TypeId} (h : P.underlying t = some .string) : Jar P (isAgg t) = some false := by
  unfold isAgg; rw [Jao, Jaz h]; rfl
theorem Kfi {P : Program} {t : TypeId} {k : IntKind} (h : P.underlying t = some (.int k)) : Jar P (isAgg t) = some false := by
  unfold isAgg; rw [Jao, Jaz h]; rfl
theorem Kfj {P : Program} {t : TypeId} (h : P.underlying t = some .bool) : Jar P (isAgg t) = some false := by
  unfold isAgg; rw [Jao, Jaz h]; rfl
theorem Kq7 {P : Program} {t : TypeId} {f : Array Field} (h : P.underlying t = some (.struct f)) : Jar P (isAgg t) = some true := by
  unfold isAgg; rw [Jao, Jaz h]; rfl
theorem Kft {P : Program} {d t o : Nat} {xs ys : Array Value} {a b : ByteArray} {r : List (Bool × Nat × Nat)} (hu : P.underlying t = some .string) (h1 : xs[o]? = some (.string a)) (h2 : ys[o]? = some (.string b)) : eqL P (d + 1) xs ys ((true, t, o) :: r) = if a == b then eqL P (d + 1) xs ys r else some false := by
  simp only [eqL, Ji5 (Kfh hu) h1, Ji5 (Kfh hu) h2, Option.bind_some, Jph hu]
theorem Kst {P : Program} {d t o : Nat} {k k' : IntKind} {xs ys : Array Value} {a b : Int} {r : List (Bool × Nat × Nat)} (hu : P.underlying t = some (.int k')) (h1 : xs[o]? = some (.int k a)) (h2 : ys[o]? = some (.int k b)) : eqL P (d + 1) xs ys ((true, t, o) :: r) = if a == b then eqL P (d + 1) xs ys r else some false := by
  simp only [eqL, Ji5 (Kfi hu) h1, Ji5 (Kfi hu) h2, Option.bind_some, Jyd hu]
theorem Ksu {P : Program} {d t o : Nat} {xs ys : Array Value} {a b : Bool} {r : List (Bool × Nat × Nat)} (hu : P.underlying t = some .bool) (h1 : xs[o]? = some (.bool a)) (h2 : ys[o]? = some (.bool b)) : eqL P (d + 1) xs ys ((true, t, o) :: r) = if a == b then eqL P (d + 1) xs ys r else some false := by
  simp only [eqL, Ji5 (Kfj hu) h1, Ji5 (Kfj hu) h2, Option.bind_some, Juh hu]
theorem Jks : Tryz.prog.underlying 24 = some (.struct (fieldsOf Tryz.prog 24)) := by kernel_rfl
theorem Jov : Tryz.prog.stoodInHeld 24 = false := by kernel_rfl
theorem Juz : Tryz.prog.eqGuardType Tryz.prog.depth 24 = false := by kernel_rfl
theorem Khk : (fieldsOf Tryz.prog 24).toList.map Kes = [(true, 9, 0), (true, 9, 1)] := by kernel_rfl
theorem Khd : Jar Tryz.prog (sizeOf 24) = some 2 := by kernel_rfl
theorem bAnd {a b : Bool} : (if a then (if b then some true else some false) else some false) = some (a && b) := by cases a <;> cases b <;> rfl
theorem Jlx (d : Nat) (a b a' b' : ByteArray) : eqFields Tryz.prog (d + 1) #[.string a, .string b] #[.string a', .string b'] (fieldsOf Tryz.prog 24).toList = some (a == a' && b == b') := by
  rw [Jf3, Khk, Kft (o := 0) Jb1 rfl rfl, Kft (o := 1) Jb1 rfl rfl]
  exact bAnd
theorem Ki0 (d : Nat) (a b a' b' : ByteArray) : Jar Tryz.prog (Op.equalIn (d + 2) 24 (.agg #[.string a, .string b]) (.agg #[.string a', .string b'])) = some (a == a' && b == b') := by
  rw [Jf9 Jks Jov, Jlx]
theorem Jam {x y : Operand} {σ : St} {a b a' b' : ByteArray} : sBin Tryz.prog .eql 24 x y (.agg ⟨[.string a, .string b]⟩) (.agg ⟨[.string a', .string b']⟩) σ = some (.val (.bool (a == a' && b == b')) σ) :=
  Kel rfl rfl Jks Jov Juz (Jlx _ _ _ _ _)
theorem Jkb {x y : Operand} {σ : St} {a b a' b' : ByteArray} : sBin Tryz.prog .neq 24 x y (.agg ⟨[.string a, .string b]⟩) (.agg ⟨[.string a', .string b']⟩) σ = some (.val (.bool (!(a == a' && b == b'))) σ) :=
  Jnk rfl rfl Jks Jov Juz (Jlx _ _ _ _ _)
theorem Jji {d o : Nat} {xs ys : Array Value} {a b a' b' : ByteArray} {r : List (Bool × Nat × Nat)} (h1 : xs.extract o (o + 2) = #[.string a, .string b]) (h2 : ys.extract o (o + 2) = #[.string a', .string b']) : eqL Tryz.prog (d + 2) xs ys ((true, 24, o) :: r) = if (a == a' && b == b') then eqL Tryz.prog (d + 2) xs ys r else some false := by
  simp only [eqL, Km4 (Kq7 Jks) Khd, h1, h2, Option.bind_some, Ki0]
set_option maxHeartbeats 4000000
def Jbv {α : Type} (e : α → α → Bool) : List α → List α → Bool
  | [], [] => true
  | a :: l, b :: m => e a b && Jbv e l m
  | _, _ => false
theorem Jgo {α : Type} {e : α → α → Bool} : ∀ {l m : List α}, l.length ≠ m.length → Jbv e l m = false
  | [], [], h => (h rfl).elim
  | [], _ :: _, _ => rfl
  | _ :: _, [], _ => rfl
  | a :: l, b :: m, h => by
    have := Jgo (e := e) (l := l) (m := m) (fun h2 => h (by simp [h2]))
    simp [Jbv, this]
theorem Jgp {α : Type} {e : α → α → Bool} : ∀ {l m : List α}, l.length = m.length → (∀ i (h : i < l.length) (h' : i < m.length), e l[i] m[i] = true) → Jbv e l m = true
  | [], [], _, _ => rfl
  | a :: l, b :: m, h, k => by
    have h0 := k 0 (by simp) (by simp)
    have := Jgp (e := e) (l := l) (m := m) (by simpa using h) (fun i h1 h2 => k (i + 1) (by simpa using h1) (by simpa using h2))
    simp only [List.getElem_cons_zero] at h0
    simp [Jbv, h0, this]
  | [], _ :: _, h, _ => by simp at h
  | _ :: _, [], h, _ => by simp at h
theorem Jgn {α : Type} {e : α → α → Bool} : ∀ {l m : List α} {i : Nat} (h : i < l.length) (h' : i < m.length), e l[i] m[i] = false → Jbv e l m = false
  | a :: l, b :: m, 0, _, _, k => by simp only [List.getElem_cons_zero] at k; simp [Jbv, k]
  | a :: l, b :: m, i + 1, h, h', k => by
    have := Jgn (e := e) (l := l) (m := m) (i := i) (by simpa using h) (by simpa using h') (by simpa using k)
    simp [Jbv, this]
theorem Jm0 {gl : List Nat} (e : List Value → List Value → Bool) (ra rb : List (List Value)) (s t : Value) (σ : St) (hs : SlR σ s 2 ra) (ht : SlR σ t 2 rb) (hl : ra.length < 1000000000) (hl2 : rb.length < 1000000000) (hneq : ∀ a ∈ ra, ∀ b ∈ rb, ∀ x y σ, sBin Tryz.prog .neq 24 x y (.agg ⟨a⟩) (.agg ⟨b⟩) σ = some (.val (.bool (!e a b)) σ)) :
    TF Tryz.prog gl 176 #[s, t] σ fun v σ' => ∃ m, v = .bool (Jbv e ra rb) ∧ σ' = σ.bump m := by
  refine TF.walk (Jaf gl) Jae Tryz.func176 (by kernel_rfl) rfl fun c hc => ?_
  cases hc
  obtain ⟨b0, k0, ea⟩ := hs.shape
  obtain ⟨b1, k1, eb⟩ := ht.shape
  rw [ea, eb]
  by_cases hlen : ra.length = rb.length
  case neg =>
    have hne : (((ra.length : Nat) : Int) = ((rb.length : Nat) : Int)) = False := eq_false (by omega)
    simp (maxSteps := 1000000) (disch := first | omega | decide +kernel | (simp only [symN] <;> omega) | assumption) only [Tryz.f176, Jaa, Jac, reduceIte, Nat.reduceEqDiff, Nat.reduceAdd, Nat.reduceMul, hne, decide_false, Jgo hlen]
    exact ⟨_, trivial, rfl⟩
  have heq : (((ra.length : Nat) : Int) = ((rb.length : Nat) : Int)) = True := eq_true (by omega)
  simp (maxSteps := 1000000) (disch := first | omega | decide +kernel | (simp only [symN] <;> omega) | assumption) only [Tryz.f176, Jaa, Jac, reduceIte, Nat.reduceEqDiff, Nat.reduceAdd, Nat.reduceMul, heq]
  rw [← ea, ← eb]
  refine Jay (Jaf gl) Jae (fun kk env τ => ∃ i m, i + kk = ra.length ∧ τ = σ.bump m ∧ (∀ j (h : j < ra.length) (h' : j < rb.length), j < i → e ra[j] rb[j] = true) ∧ eget env 0 = s ∧ eget env 1 = t ∧ eget env 12 = .int .i64 (ra.length : Nat) ∧ eget env 13 = .int .i64 (i : Nat)) (n := ra.length) (by kernel_rfl) ?_ ?_
  · exact ⟨0, _, by omega, rfl, fun j _ _ h => by omega, by simp [Jab], by simp [Jab], by simp [Jab], by simp [Jab]⟩
  rintro kk env τ ⟨i, m, hi, rfl, hz, e0, e1, e12, e13⟩
  cases kk with
  | zero =>
    have hlt : ((i : Int) < (ra.length : Int)) = False := eq_false (by omega)
    have hall : Jbv e ra rb = true := Jgp hlen fun j h1 h2 => hz j h1 h2 (by omega)
    simp (maxSteps := 1000000) (disch := first | omega | decide +kernel | (simp only [symN] <;> omega) | assumption) only [Jaa, Jac, reduceIte, Nat.reduceEqDiff, Nat.reduceAdd, Nat.reduceMul, e0, e1, e12, e13, hlt, decide_false, hall]
    exact ⟨_, trivial, rfl⟩
  | succ kk =>
    have hil : i < ra.length := by omega
    have hil2 : i < rb.length := by omega
    have hlt : ((i : Int) < (ra.length : Int)) = True := eq_true (by omega)
    have hltb : (i : Int) < (rb.length : Int) := by omega
    rcases hs with ⟨hnil, _⟩ | ⟨A, o, k, c, rfl, hc, hr⟩
    · have e : ra.length = 0 := by simpa using congrArg List.length hnil
      omega
    rcases ht with ⟨hnil, _⟩ | ⟨A2, o2, k2, c2, rfl, hc2, hr2⟩
    · have e : rb.length = 0 := by simpa using congrArg List.length hnil
      omega
    have hrd : ∀ m, rdG (σ.bump m) (σ.get A) (o + i * 2) 2 = some ra[i] := fun m => SlR.rd (k := k) hc hr hil m
    have hrd2 : ∀ m, rdG (σ.bump m) (σ.get A2) (o2 + i * 2) 2 = some rb[i] := fun m => SlR.rd (k := k2) hc2 hr2 hil2 m
    have hnq := hneq ra[i] (List.getElem_mem hil) rb[i] (List.getElem_mem hil2)
    cases he : e ra[i] rb[i] with
    | true =>
      rw [he] at hnq
      simp (maxSteps := 1000000) (disch := first | omega | decide +kernel | (simp only [symN] <;> omega) | assumption) only [Jaa, Jac, reduceIte, Nat.reduceEqDiff, Nat.reduceAdd, Nat.reduceMul, e0, e1, e12, e13, hlt, hltb, decide_true, hrd, hrd2, hnq]
      refine ⟨kk, by omega, i + 1, _, by omega, rfl, fun j h1 h2 h3 => ?_, trivial, trivial, trivial, by simp⟩
      by_cases hj : j = i
      · subst hj; exact he
      · exact hz j h1 h2 (by omega)
    | false =>
      rw [he] at hnq
      simp (maxSteps := 1000000) (disch := first | omega | decide +kernel | (simp only [symN] <;> omega) | assumption) only [Jaa, Jac, reduceIte, Nat.reduceEqDiff, Nat.reduceAdd, Nat.reduceMul, e0, e1, e12, e13, hlt, hltb, decide_true, hrd, hrd2, hnq, Jgn hil hil2 he]
      exact ⟨_, trivial, rfl⟩
theorem Jmz {gl : List Nat} (e : List Value → List Value → Bool) (ra rb : List (List Value)) (s t : Value) (σ : St) (hs : SlR σ s 9 ra) (ht : SlR σ t 9 rb) (hl : ra.length < 1000000000) (hl2 : rb.length < 1000000000) (hneq : ∀ a ∈ ra, ∀ b ∈ rb, ∀ x y σ, sBin Tryz.prog .neq 56 x y (.agg ⟨a⟩) (.agg ⟨b⟩) σ = some (.val (.bool (!e a b)) σ)) :
    TF Tryz.prog gl 177 #[s, t] σ fun v σ' => ∃ m, v = .bool (Jbv e ra rb) ∧ σ' = σ.bump m := by
  refine TF.walk (Jaf gl) Jae Tryz.func177 (by kernel_rfl) rfl fun c hc => ?_
  cases hc
  obtain ⟨b0, k0, ea⟩ := hs.shape
  obtain ⟨b1, k1, eb⟩ := ht.shape
  rw [ea, eb]
  by_cases hlen : ra.length = rb.length
  case neg =>
    have hne : (((ra.length : Nat) : Int) = ((rb.length : Nat) : Int)) = False := eq_false (by omega)
    simp (maxSteps := 1000000) (disch := first | omega | decide +kernel | (simp only [symN] <;> omega) | assumption) only [Tryz.f177, Jaa, Jac, reduceIte, Nat.reduceEqDiff, Nat.reduceAdd, Nat.reduceMul, hne, decide_false, Jgo hlen]
    exact ⟨_, trivial, rfl⟩
  have heq : (((ra.length : Nat) : Int) = ((rb.length : Nat) : Int)) = True := eq_true (by omega)
  simp (maxSteps := 1000000) (disch := first | omega | decide +kernel | (simp only [symN] <;> omega) | assumption) only [Tryz.f177, Jaa, Jac, reduceIte, Nat.reduceEqDiff, Nat.reduceAdd, Nat.reduceMul, heq]
  rw [← ea, ← eb]
  refine Jay (Jaf gl) Jae (fun kk env τ => ∃ i m, i + kk = ra.length ∧ τ = σ.bump m ∧ (∀ j (h : j < ra.length) (h' : j < rb.length), j < i → e ra[j] rb[j] = true) ∧ eget env 0 = s ∧ eget env 1 = t ∧ eget env 12 = .int .i64 (ra.length : Nat) ∧ eget env 13 = .int .i64 (i : Nat)) (n := ra.length) (by kernel_rfl) ?_ ?_
  · exact ⟨0, _, by omega, rfl, fun j _ _ h => by omega, by simp [Jab], by simp [Jab], by simp [Jab], by simp [Jab]⟩
  rintro kk env τ ⟨i, m, hi, rfl, hz, e0, e1, e12, e13⟩
  cases kk with
  | zero =>
    have hlt : ((i : Int) < (ra.length : Int)) = False := eq_false (by omega)
    have hall : Jbv e ra rb = true := Jgp hlen fun j h1 h2 => hz j h1 h2 (by omega)
    simp (maxSteps := 1000000) (disch := first | omega | decide +kernel | (simp only [symN] <;> omega) | assumption) only [Jaa, Jac, reduceIte, Nat.reduceEqDiff, Nat.reduceAdd, Nat.reduceMul, e0, e1, e12, e13, hlt, decide_false, hall]
    exact ⟨_, trivial, rfl⟩
  | succ kk =>
    have hil : i < ra.length := by omega
    have hil2 : i < rb.length := by omega
    have hlt : ((i : Int) < (ra.length : Int)) = True := eq_true (by omega)
    have hltb : (i : Int) < (rb.length : Int) := by omega
    rcases hs with ⟨hnil, _⟩ | ⟨A, o, k, c, rfl, hc, hr⟩
    · have e : ra.length = 0 := by simpa using congrArg List.length hnil
      omega
    rcases ht with ⟨hnil, _⟩ | ⟨A2, o2, k2, c2, rfl, hc2, hr2⟩
    · have e : rb.length = 0 := by simpa using congrArg List.length hnil
      omega
    have hrd : ∀ m, rdG (σ.bump m) (σ.get A) (o + i * 9) 9 = some ra[i] := fun m => SlR.rd (k := k) hc hr hil m
    have hrd2 : ∀ m, rdG (σ.bump m) (σ.get A2) (o2 + i * 9) 9 = some rb[i] := fun m => SlR.rd (k := k2) hc2 hr2 hil2 m
    have hnq := hneq ra[i] (List.getElem_mem hil) rb[i] (List.getElem_mem hil2)
    cases he : e ra[i] rb[i] with
    | true =>
      rw [he] at hnq
      simp (maxSteps := 1000000) (disch := first | omega | decide +kernel | (simp only [symN] <;> omega) | assumption) only [Jaa, Jac, reduceIte, Nat.reduceEqDiff, Nat.reduceAdd, Nat.reduceMul, e0, e1, e12, e13, hlt, hltb, decide_true, hrd, hrd2, hnq]
      refine ⟨kk, by omega, i + 1, _, by omega, rfl, fun j h1 h2 h3 => ?_, trivial, trivial, trivial, by simp⟩
      by_cases hj : j = i
      · subst hj; exact he
      · exact hz j h1 h2 (by omega)
    | false =>
      rw [he] at hnq
      simp (maxSteps := 1000000) (disch := first | omega | decide +kernel | (simp only [symN] <;> omega) | assumption) only [Jaa, Jac, reduceIte, Nat.reduceEqDiff, Nat.reduceAdd, Nat.reduceMul, e0, e1, e12, e13, hlt, hltb, decide_true, hrd, hrd2, hnq, Jgn hil hil2 he]
      exact ⟨_, trivial, rfl⟩
theorem Jmy {gl : List Nat} (e : List Value → List Value → Bool) (ra rb : List (List Value)) (s t : Value) (σ : St) (hs : SlR σ s 4 ra) (ht : SlR σ t 4 rb) (hl : ra.length < 1000000000) (hl2 : rb.length < 1000000000) (hneq : ∀ a ∈ ra, ∀ b ∈ rb, ∀ x y σ, sBin Tryz.prog .neq 58 x y (.agg ⟨a⟩) (.agg ⟨b⟩) σ = some (.val (.bool (!e a b)) σ)) :
    TF Tryz.prog gl 178 #[s, t] σ fun v σ' => ∃ m, v = .bool (Jbv e ra rb) ∧ σ' = σ.bump m := by
  refine TF.walk (Jaf gl) Jae Tryz.func178 (by kernel_rfl) rfl fun c hc => ?_
  cases hc
  obtain ⟨b0, k0, ea⟩ := hs.shape
  obtain ⟨b1, k1, eb⟩ := ht.shape
  rw [ea, eb]
  by_cases hlen : ra.length = rb.length
  case neg =>
    have hne : (((ra.length : Nat) : Int) = ((rb.length : Nat) : Int)) = False := eq_false (by omega)
    simp (maxSteps := 1000000) (disch := first | omega | decide +kernel | (simp only [symN] <;> omega) | assumption) only [Tryz.f178, Jaa, Jac, reduceIte, Nat.reduceEqDiff, Nat.reduceAdd, Nat.reduceMul, hne, decide_false, Jgo hlen]
    exact ⟨_, trivial, rfl⟩
  have heq : (((ra.length : Nat) : Int) = ((rb.length : Nat) : Int)) = True := eq_true (by omega)
  simp (maxSteps := 1000000) (disch := first | omega | decide +kernel | (simp only [symN] <;> omega) | assumption) only [Tryz.f178, Jaa, Jac, reduceIte, Nat.reduceEqDiff, Nat.reduceAdd, Nat.reduceMul, heq]
  rw [← ea, ← eb]
  refine Jay (Jaf gl) Jae (fun kk env τ => ∃ i m, i + kk = ra.length ∧ τ = σ.bump m ∧ (∀ j (h : j < ra.length) (h' : j < rb.length), j < i → e ra[j] rb[j] = true) ∧ eget env 0 = s ∧ eget env 1 = t ∧ eget env 12 = .int .i64 (ra.length : Nat) ∧ eget env 13 = .int .i64 (i : Nat)) (n := ra.length) (by kernel_rfl) ?_ ?_
  · exact ⟨0, _, by omega, rfl, fun j _ _ h => by omega, by simp [Jab], by simp [Jab], by simp [Jab], by simp [Jab]⟩
  rintro kk env τ ⟨i, m, hi, rfl, hz, e0, e1, e12, e13⟩
  cases kk with
  | zero =>
    have hlt : ((i : Int) < (ra.length : Int)) = False := eq_false (by omega)
    have hall : Jbv e ra rb = true := Jgp hlen fun j h1 h2 => hz j h1 h2 (by omega)
    simp (maxSteps := 1000000) (disch := first | omega | decide +kernel | (simp only [symN] <;> omega) | assumption) only [Jaa, Jac, reduceIte, Nat.reduceEqDiff, Nat.reduceAdd, Nat.reduceMul, e0, e1, e12, e13, hlt, decide_false, hall]
    exact ⟨_, trivial, rfl⟩
  | succ kk =>
    have hil : i < ra.length := by omega
    have hil2 : i < rb.length := by omega
    have hlt : ((i : Int) < (ra.length : Int)) = True := eq_true (by omega)
    have hltb : (i : Int) < (rb.length : Int) := by omega
    rcases hs with ⟨hnil, _⟩ | ⟨A, o, k, c, rfl, hc, hr⟩
    · have e : ra.length = 0 := by simpa using congrArg List.length hnil
      omega
    rcases ht with ⟨hnil, _⟩ | ⟨A2, o2, k2, c2, rfl, hc2, hr2⟩
    · have e : rb.length = 0 := by simpa using congrArg List.length hnil
      omega
    have hrd : ∀ m, rdG (σ.bump m) (σ.get A) (o + i * 4) 4 = some ra[i] := fun m => SlR.rd (k := k) hc hr hil m
    have hrd2 : ∀ m, rdG (σ.bump m) (σ.get A2) (o2 + i * 4) 4 = some rb[i] := fun m => SlR.rd (k := k2) hc2 hr2 hil2 m
    have hnq := hneq ra[i] (List.getElem_mem hil) rb[i] (List.getElem_mem hil2)
    cases he : e ra[i] rb[i] with
    | true =>
      rw [he] at hnq
      simp (maxSteps := 1000000) (disch := first | omega | decide +kernel | (simp only [symN] <;> omega) | assumption) only [Jaa, Jac, reduceIte, Nat.reduceEqDiff, Nat.reduceAdd, Nat.reduceMul, e0, e1, e12, e13, hlt, hltb, decide_true, hrd, hrd2, hnq]
      refine ⟨kk, by omega, i + 1, _, by omega, rfl, fun j h1 h2 h3 => ?_, trivial, trivial, trivial, by simp⟩
      by_cases hj : j = i
      · subst hj; exact he
      · exact hz j h1 h2 (by omega)
    | false =>
      rw [he] at hnq
      simp (maxSteps := 1000000) (disch := first | omega | decide +kernel | (simp only [symN] <;> omega) | assumption) only [Jaa, Jac, reduceIte, Nat.reduceEqDiff, Nat.reduceAdd, Nat.reduceMul, e0, e1, e12, e13, hlt, hltb, decide_true, hrd, hrd2, hnq, Jgn hil hil2 he]
      exact ⟨_, trivial, rfl⟩
theorem Jm1 {gl : List Nat} (ra rb : List Int) (s t : Value) (σ : St) (hs : SlR σ s 1 (ra.map fun z => [.int .i64 z])) (ht : SlR σ t 1 (rb.map fun z => [.int .i64 z])) (hl : ra.length < 1000000000) (hl2 : rb.length < 1000000000) :
    TF Tryz.prog gl 153 #[s, t] σ fun v σ' => ∃ m, v = .bool (Jbv (fun a b => decide (a = b)) ra rb) ∧ σ' = σ.bump m := by
  refine TF.walk (Jaf gl) Jae Tryz.func153 (by kernel_rfl) rfl fun c hc => ?_
  cases hc
  obtain ⟨b0, k0, ea⟩ := hs.shape
  obtain ⟨b1, k1, eb⟩ := ht.shape; rw [List.length_map] at ea eb
  rw [ea, eb]
  by_cases hlen : ra.length = rb.length
  case neg =>
    have hne : (((ra.length : Nat) : Int) = ((rb.length : Nat) : Int)) = False := eq_false (by omega)
    simp (maxSteps := 1000000) (disch := first | omega | decide +kernel | (simp only [symN] <;> omega) | assumption) only [Tryz.f153, Jaa, Jac, reduceIte, Nat.reduceEqDiff, Nat.reduceAdd, Nat.reduceMul, hne, decide_false, Jgo hlen]
    exact ⟨_, trivial, rfl⟩
  have heq : (((ra.length : Nat) : Int) = ((rb.length : Nat) : Int)) = True := eq_true (by omega)
  simp (maxSteps := 1000000) (disch := first | omega | decide +kernel | (simp only [symN] <;> omega) | assumption) only [Tryz.f153, Jaa, Jac, reduceIte, Nat.reduceEqDiff, Nat.reduceAdd, Nat.reduceMul, heq]
  rw [← ea, ← eb]
  refine Jay (Jaf gl) Jae (fun kk env τ => ∃ i m, i + kk = ra.length ∧ τ = σ.bump m ∧ (∀ j (h : j < ra.length) (h' : j < rb.length), j < i → (fun a b => decide (a = b)) ra[j] rb[j] = true) ∧ eget env 0 = s ∧ eget env 1 = t ∧ eget env 12 = .int .i64 (ra.length : Nat) ∧ eget env 13 = .int .i64 (i : Nat)) (n := ra.length) (by kernel_rfl) ?_ ?_
  · exact ⟨0, _, by omega, rfl, fun j _ _ h => by omega, by simp [Jab], by simp [Jab], by simp [Jab], by simp [Jab]⟩
  rintro kk env τ ⟨i, m, hi, rfl, hz, e0, e1, e12, e13⟩
  cases kk with
  | zero =>
    have hlt : ((i : Int) < (ra.length : Int)) = False := eq_false (by omega)
    have hall : Jbv (fun a b => decide (a = b)) ra rb = true := Jgp hlen fun j h1 h2 => hz j h1 h2 (by omega)
    simp (maxSteps := 1000000) (disch := first | omega | decide +kernel | (simp only [symN] <;> omega) | assumption) only [Jaa, Jac, reduceIte, Nat.reduceEqDiff, Nat.reduceAdd, Nat.reduceMul, e0, e1, e12, e13, hlt, decide_false, hall]
    exact ⟨_, trivial, rfl⟩
  | succ kk =>
    have hil : i < ra.length := by omega
    have hil2 : i < rb.length := by omega
    have hlt : ((i : Int) < (ra.length : Int)) = True := eq_true (by omega)
    have hltb : (i : Int) < (rb.length : Int) := by omega
    rcases hs with ⟨hnil, _⟩ | ⟨A, o, k, c, rfl, hc, hr⟩
    · have e : ra.length = 0 := by simpa using congrArg List.length hnil
      omega
    rcases ht with ⟨hnil, _⟩ | ⟨A2, o2, k2, c2, rfl, hc2, hr2⟩
    · have e : rb.length = 0 := by simpa using congrArg List.length hnil
      omega
    have hrd : ∀ m, rdG (σ.bump m) (σ.get A) (o + i) 1 = some [.int .i64 ra[i]] := fun m => by
      have := SlR.rd (k := k) hc hr (i := i) (by simpa using hil) m
      simpa using this
    have hrd2 : ∀ m, rdG (σ.bump m) (σ.get A2) (o2 + i) 1 = some [.int .i64 rb[i]] := fun m => by
      have := SlR.rd (k := k2) hc2 hr2 (i := i) (by simpa using hil2) m
      simpa using this
    by_cases he : ra[i] = rb[i]
    · have he' : (ra[i] = rb[i]) = True := eq_true he
      simp (maxSteps := 1000000) (disch := first | omega | decide +kernel | (simp only [symN] <;> omega) | assumption) only [Jaa, Jac, reduceIte, Nat.reduceEqDiff, Nat.reduceAdd, Nat.reduceMul, e0, e1, e12, e13, hlt, hltb, decide_true, hrd, hrd2, he', List.length_map]
      refine ⟨kk, by omega, i + 1, _, by omega, rfl, fun j h1 h2 h3 => ?_, trivial, trivial, trivial, by simp⟩
      by_cases hj : j = i
      · subst hj; exact decide_eq_true he
      · exact hz j h1 h2 (by omega)
    · have he' : (ra[i] = rb[i]) = False := eq_false he
      have hnot : Jbv (fun a b => decide (a = b)) ra rb = false := Jgn hil hil2 (decide_eq_false he)
      simp (maxSteps := 1000000) (disch := first | omega | decide +kernel | (simp only [symN] <;> omega) | assumption) only [Jaa, Jac, reduceIte, Nat.reduceEqDiff, Nat.reduceAdd, Nat.reduceMul, e0, e1, e12, e13, hlt, hltb, hrd, hrd2, he', hnot, List.length_map]
      exact ⟨_, trivial, rfl⟩
def Jn9 : Value → Value → Bool
  | .string a, .string b => a == b
  | .int _ a, .int _ b => a == b
  | .bool a, .bool b => a == b
  | _, _ => false
def Jbr : List Value → List Value → Bool := Jbv Jn9
def Jbb (a b : ByteArray) : List Value := [.string a, .string b]
structure Jan where
  l : ByteArray
  d : ByteArray
  box : ByteArray
  host : ByteArray
  sl : ByteArray
  sd : ByteArray
  vl : ByteArray
  vd : ByteArray
  owner : Bool
def Jan.cells (f : Jan) : List Value := [.string f.l, .string f.d, .string f.box, .string f.host, .string f.sl, .string f.sd, .string f.vl, .string f.vd, .bool f.owner]
structure Jaw where
  l : ByteArray
  d : ByteArray
  code : Int
  text : ByteArray
def Jaw.cells (f : Jaw) : List Value := [.string f.l, .string f.d, .int .i64 f.code, .string f.text]
theorem Ka5 {a b : Bool} : (if a = true then some b else some false) = some (a && b) := by cases a <;> rfl
theorem Kg3 : Tryz.prog.underlying 56 = some (.struct (fieldsOf Tryz.prog 56)) := by kernel_rfl
theorem Khm : Tryz.prog.stoodInHeld 56 = false := by kernel_rfl
theorem Kho : Tryz.prog.eqGuardType Tryz.prog.depth 56 = false := by kernel_rfl
theorem Khj : (fieldsOf Tryz.prog 56).toList.map Kes = [(true, 24, 0), (true, 9, 2), (true, 9, 3), (true, 24, 4), (true, 24, 6), (true, 4, 8)] := by kernel_rfl
theorem Kdm (d : Nat) (f g : Jan) : eqFields Tryz.prog (d + 2) f.cells.toArray g.cells.toArray (fieldsOf Tryz.prog 56).toList = some (Jbr f.cells g.cells) := by
  rw [Jf3, Khj, Jji (o := 0) (a := f.l) (b := f.d) (a' := g.l) (b' := g.d) rfl rfl, Kft (o := 2) (a := f.box) (b := g.box) Jb1 rfl rfl, Kft (o := 3) (a := f.host) (b := g.host) Jb1 rfl rfl,
    Jji (o := 4) (a := f.sl) (b := f.sd) (a' := g.sl) (b' := g.sd) rfl rfl, Jji (o := 6) (a := f.vl) (b := f.vd) (a' := g.vl) (b' := g.vd) rfl rfl, Ksu (o := 8) (a := f.owner) (b := g.owner) Jsc rfl rfl]
  have e : eqL Tryz.prog (d + 2) f.cells.toArray g.cells.toArray [] = some true := rfl
  rw [e]
  simp only [Ka5, Jbr, Jan.cells, Jbv, Jn9, Bool.and_true, Bool.and_assoc]
theorem Jyk {x y : Operand} {σ : St} (f g : Jan) : sBin Tryz.prog .neq 56 x y (.agg ⟨f.cells⟩) (.agg ⟨g.cells⟩) σ = some (.val (.bool (!(Jbr f.cells g.cells))) σ) :=
  Jnk rfl rfl Kg3 Khm Kho (Kdm _ f g)
theorem Kg2 : Tryz.prog.underlying 58 = some (.struct (fieldsOf Tryz.prog 58)) := by kernel_rfl
theorem Khl : Tryz.prog.stoodInHeld 58 = false := by kernel_rfl
theorem Khn : Tryz.prog.eqGuardType Tryz.prog.depth 58 = false := by kernel_rfl
theorem Khi : (fieldsOf Tryz.prog 58).toList.map Kes = [(true, 24, 0), (true, 3, 2), (true, 9, 3)] := by kernel_rfl
theorem Kdl (d : Nat) (f g : Jaw) : eqFields Tryz.prog (d + 2) f.cells.toArray g.cells.toArray (fieldsOf Tryz.prog 58).toList = some (Jbr f.cells g.cells) := by
  rw [Jf3, Khi, Jji (o := 0) (a := f.l) (b := f.d) (a' := g.l) (b' := g.d) rfl rfl, Kst (o := 2) (k := .i64) (a := f.code) (b := g.code) Jhn rfl rfl, Kft (o := 3) (a := f.text) (b := g.text) Jb1 rfl rfl]
  have e : eqL Tryz.prog (d + 2) f.cells.toArray g.cells.toArray [] = some true := rfl
  rw [e]
  simp only [Ka5, Jbr, Jaw.cells, Jbv, Jn9, Bool.and_true, Bool.and_assoc]
theorem Jyj {x y : Operand} {σ : St} (f g : Jaw) : sBin Tryz.prog .neq 58 x y (.agg ⟨f.cells⟩) (.agg ⟨g.cells⟩) σ = some (.val (.bool (!(Jbr f.cells g.cells))) σ) :=
  Jnk rfl rfl Kg2 Khl Khn (Kdl _ f g)
theorem Jyi {x y : Operand} {σ : St} (a b a' b' : ByteArray) : sBin Tryz.prog .neq 24 x y (.agg ⟨Jbb a b⟩) (.agg ⟨Jbb a' b'⟩) σ = some (.val (.bool (!(Jbr (Jbb a b) (Jbb a' b')))) σ) := by
  have := Jkb (x := x) (y := y) (σ := σ) (a := a) (b := b) (a' := a') (b' := b')
  simp only [Jbr, Jbb, Jbv, Jn9, Bool.and_true]
  exact this
theorem Wr.fresh {σ : St} {W B n : Nat} {c : List Value} {o : AObj} (h : Wr σ W c) (hB : σ.next ≤ B) : Wr ((σ.bump n).set B o) W c ∧ Jbm W σ ((σ.bump n).set B o) ∧ (¬ OwnB ((σ.bump n).set B o) W B) := by
  obtain ⟨hlt, v, F, ⟨rfl, hW⟩ | ⟨A, v', F', hW, hA, hne, hl⟩⟩ := h
  · have e1 : ¬ (B = W) := by omega
    have hget : ((σ.bump n).set B o).get W = some (.cells true v F [.slice none 0 0]) := by simp [e1, hW]
    have own : ∀ D, OwnB ((σ.bump n).set B o) W D → D = W := fun D h => by
      rcases h with h | ⟨v1, F1, l1, k1, h1⟩
      · exact h
      · rw [hget] at h1; cases h1
    have ownF : ∀ D, ¬ OwnF ((σ.bump n).set B o) W D := fun D h => by
      obtain ⟨A1, v1, F1, l1, k1, v2, c2, h1, h2⟩ := h
      rw [hget] at h1; cases h1
    refine ⟨⟨Nat.lt_of_lt_of_le hlt (Nat.le_add_right _ _), v, F, .inl ⟨rfl, hget⟩⟩, ⟨Nat.le_add_right _ _, fun D hD hn => ⟨?_, fun h => hn (.inl (own D h))⟩, fun G hG hn => ⟨by simp, ownF G⟩⟩, fun h => e1 (own B h)⟩
    have q : ¬ (B = D) := by omega
    simp [q]
  · have e1 : ¬ (B = W) := by omega
    have e2 : ¬ (B = A) := by omega
    have hgW : ((σ.bump n).set B o).get W = some (.cells true v F [.slice (some ⟨A, 0, none⟩) c.length 2]) := by simp [e1, hW]
    have hgA : ((σ.bump n).set B o).get A = some (.cells true v' F' c) := by simp [e2, hA]
    obtain ⟨o1, o2⟩ := Jih hW hA
    obtain ⟨p1, p2⟩ := Jih hgW hgA
    refine ⟨⟨Nat.lt_of_lt_of_le hlt (Nat.le_add_right _ _), v, F, .inr ⟨A, v', F', hgW, hgA, hne, Nat.lt_of_lt_of_le hl (Nat.le_add_right _ _)⟩⟩, ⟨Nat.le_add_right _ _, fun D hD hn => ⟨?_, ?_⟩, fun G hG hn => ⟨by simp, ?_⟩⟩, ?_⟩
    · have q : ¬ (B = D) := by omega
      simp [q]
    · rw [p1, ← o1]; exact hn
    · rw [p2, ← o2]; exact hn
    · rw [p1]; omega
def Jbd (a b : ByteArray) : List Value := Jbe a ++ Jbe b
theorem Jbw (a b : ByteArray) : (Jbd a b).length = a.size + b.size + 4 := by simp [Jbd, Ja4]; omega
theorem Jem {W : Nat} {c : List Value} (a b : ByteArray) (ha : a.size < 65536) (hb : b.size < 65536) (σ : St) (hw : Wr σ W c) (hc : c.length < 300000000) :
    TF Tryz.prog [] 108 #[.pointer (some ⟨W, 0, none⟩), .agg ⟨Jbb a b⟩] σ fun v σ' => v = .tuple #[] ∧ Wr σ' W (c ++ Jbd a b) ∧ Jbm W σ σ' := by
  refine TF.walk (Jaf []) Jae Tryz.func108 (by kernel_rfl) rfl fun c hc => ?_
  cases hc
  unfold Jbb
  simp (maxSteps := 1000000) (disch := first | omega | decide +kernel | (simp only [symN] <;> omega) | assumption) only [Tryz.f108, Jaa, Jac, reduceIte, Nat.reduceEqDiff, Nat.reduceAdd, Nat.reduceMul]
  obtain ⟨w1, k1, n1⟩ := hw.fresh (n := 1) (o := .cells true 0 σ.next [.string a, .string b]) (Nat.le_refl _)
  rw [Jak]
  refine (Jdq a ha _ (w1.bump (n := 4)) (by omega)).mono ?_
  rintro _ τ ⟨rfl, w2, k2⟩
  have hbox := k2.get σ.next (by simp; omega) n1
  have hb1 : τ.get σ.next = some (.cells true 0 σ.next [.string a, .string b]) := by rw [hbox.1]; simp
  simp (maxSteps := 1000000) (disch := first | omega | decide +kernel | (simp only [symN] <;> omega) | assumption) only [Jaa, Jac, reduceIte, Nat.reduceEqDiff, Nat.reduceAdd, Nat.reduceMul, hb1]
  rw [Jak]
  refine (Jdq b hb _ (w2.bump (n := 4)) (by simp [Ja4]; omega)).mono ?_
  rintro _ τ2 ⟨rfl, w3, k3⟩
  simp (maxSteps := 1000000) (disch := first | omega | decide +kernel | (simp only [symN] <;> omega) | assumption) only [Jaa, Jac, reduceIte, Nat.reduceEqDiff, Nat.reduceAdd, Nat.reduceMul]
  refine ⟨trivial, ?_, ((k1.trans (Jbm.bump W 4 _)).trans k2).trans ((Jbm.bump W 4 _).trans k3)⟩
  unfold Jbd
  rw [← List.append_assoc]; exact w3
def Jan.bytes (f : Jan) : List Value := Jbd f.l f.d ++ Jbe f.box ++ Jbe f.host ++ Jbd f.sl f.sd ++ Jbd f.vl f.vd
structure Jan.Small (f : Jan) : Prop where
  l : f.l.size < 65536
  d : f.d.size < 65536
  box : f.box.size < 65536
  host : f.host.size < 65536
  sl : f.sl.size < 65536
  sd : f.sd.size < 65536
  vl : f.vl.size < 65536
  vd : f.vd.size < 65536
theorem Jvn {W : Nat} {c : List Value} (f : Jan) (hf : f.Small) (σ : St) (hw : Wr σ W c) (hc : c.length < 200000000) :
    TF Tryz.prog [] 105 #[.pointer (some ⟨W, 0, none⟩), .agg ⟨f.cells⟩] σ fun v σ' => v = .tuple #[] ∧ Wr σ' W (c ++ f.bytes) ∧ Jbm W σ σ' := by
  refine TF.walk (Jaf []) Jae Tryz.func105 (by kernel_rfl) rfl fun c hc => ?_
  cases hc
  obtain ⟨h1, h2, h3, h4, h5, h6, h7, h8⟩ := hf
  unfold Jan.bytes Jan.cells
  simp (maxSteps := 1000000) (disch := first | omega | decide +kernel | (simp only [symN] <;> omega) | assumption) only [Tryz.f105, Jaa, Jac, reduceIte, Nat.reduceEqDiff, Nat.reduceAdd, Nat.reduceMul]
  obtain ⟨w1, k1, n1⟩ := hw.fresh (n := 1) (o := .cells true 0 σ.next [.string f.l, .string f.d, .string f.box, .string f.host, .string f.sl, .string f.sd, .string f.vl, .string f.vd, .bool f.owner]) (Nat.le_refl _)
  rw [Jak]
  refine (Jem f.l f.d h1 h2 _ (w1.bump (n := 4)) (by omega)).mono ?_
  rintro _ τ ⟨rfl, w2, k2⟩
  have hx := k2.get σ.next (by simp; omega) n1
  have hb : τ.get σ.next = some (.cells true 0 σ.next [.string f.l, .string f.d, .string f.box, .string f.host, .string f.sl, .string f.sd, .string f.vl, .string f.vd, .bool f.owner]) := by rw [hx.1]; simp
  have K := (k1.trans (Jbm.bump W 4 _)).trans k2
  have hlt : σ.next < τ.next := Nat.lt_of_lt_of_le (by simp; omega) k2.next
  simp (maxSteps := 1000000) (disch := first | omega | decide +kernel | (simp only [symN] <;> omega) | assumption) only [Jaa, Jac, reduceIte, Nat.reduceEqDiff, Nat.reduceAdd, Nat.reduceMul, hb]
  rw [Jak]
  refine (Jdq f.box h3 _ (w2.bump (n := 4)) (by simp [Jbw]; omega)).mono ?_
  rintro _ τ2 ⟨rfl, w3, k3⟩
  have k3 := (Jbm.bump W 4 _).trans k3
  have hx2 := k3.get σ.next hlt hx.2
  have hb2 := hx2.1.trans hb
  have hlt2 := Nat.lt_of_lt_of_le hlt k3.next
  have K := K.trans k3
  simp (maxSteps := 1000000) (disch := first | omega | decide +kernel | (simp only [symN] <;> omega) | assumption) only [Jaa, Jac, reduceIte, Nat.reduceEqDiff, Nat.reduceAdd, Nat.reduceMul, hb2]
  rw [Jak]
  refine (Jdq f.host h4 _ (w3.bump (n := 4)) (by simp [Jbw, Ja4]; omega)).mono ?_
  rintro _ τ3 ⟨rfl, w4, k4⟩
  have k4 := (Jbm.bump W 4 _).trans k4
  have hx3 := k4.get σ.next hlt2 hx2.2
  have hb3 := hx3.1.trans hb2
  have hlt3 := Nat.lt_of_lt_of_le hlt2 k4.next
  have K := K.trans k4
  simp (maxSteps := 1000000) (disch := first | omega | decide +kernel | (simp only [symN] <;> omega) | assumption) only [Jaa, Jac, reduceIte, Nat.reduceEqDiff, Nat.reduceAdd, Nat.reduceMul, hb3]
  rw [Jak]
  refine (Jem f.sl f.sd h5 h6 _ (w4.bump (n := 4)) (by simp [Jbw, Ja4]; omega)).mono ?_
  rintro _ τ4 ⟨rfl, w5, k5⟩
  have k5 := (Jbm.bump W 4 _).trans k5
  have hx4 := k5.get σ.next hlt3 hx3.2
  have hb4 := hx4.1.trans hb3
  have K := K.trans k5
  simp (maxSteps := 1000000) (disch := first | omega | decide +kernel | (simp only [symN] <;> omega) | assumption) only [Jaa, Jac, reduceIte, Nat.reduceEqDiff, Nat.reduceAdd, Nat.reduceMul, hb4]
  rw [Jak]
  refine (Jem f.vl f.vd h7 h8 _ (w5.bump (n := 4)) (by simp [Jbw, Ja4]; omega)).mono ?_
  rintro _ τ5 ⟨rfl, w6, k6⟩
  have k6 := (Jbm.bump W 4 _).trans k6
  have K := K.trans k6
  simp (maxSteps := 1000000) (disch := first | omega | decide +kernel | (simp only [symN] <;> omega) | assumption) only [Jaa, Jac, reduceIte, Nat.reduceEqDiff, Nat.reduceAdd, Nat.reduceMul]
  refine ⟨trivial, ?_, K⟩
  simp only [← List.append_assoc] at w6 ⊢
  exact w6
def Jaw.bytes (f : Jaw) : List Value := Jbd f.l f.d ++ numL f.code 2 ++ Jbe f.text
theorem Jp2 {W : Nat} {c : List Value} (f : Jaw) (h1 : f.l.size < 65536) (h2 : f.d.size < 65536) (h3 : f.text.size < 65536) (h4 : -9223372036854775808 ≤ f.code ∧ f.code < 9223372036854775808) (σ : St) (hw : Wr σ W c) (hc : c.length < 200000000) :
    TF Tryz.prog [] 107 #[.pointer (some ⟨W, 0, none⟩), .agg ⟨f.cells⟩] σ fun v σ' => v = .tuple #[] ∧ Wr σ' W (c ++ f.bytes) ∧ Jbm W σ σ' := by
  refine TF.walk (Jaf []) Jae Tryz.func107 (by kernel_rfl) rfl fun c hc => ?_
  cases hc
  obtain ⟨h4, h5⟩ := h4
  unfold Jaw.bytes Jaw.cells
  simp (maxSteps := 1000000) (disch := first | omega | decide +kernel | (simp only [symN] <;> omega) | assumption) only [Tryz.f107, Jaa, Jac, reduceIte, Nat.reduceEqDiff, Nat.reduceAdd, Nat.reduceMul]
  obtain ⟨w1, k1, n1⟩ := hw.fresh (n := 1) (o := .cells true 0 σ.next [.string f.l, .string f.d, .int .i64 f.code, .string f.text]) (Nat.le_refl _)
  rw [Jak]
  refine (Jem f.l f.d h1 h2 _ (w1.bump (n := 4)) (by omega)).mono ?_
  rintro _ τ ⟨rfl, w2, k2⟩
  have hx := k2.get σ.next (by simp; omega) n1
  have hb : τ.get σ.next = some (.cells true 0 σ.next [.string f.l, .string f.d, .int .i64 f.code, .string f.text]) := by rw [hx.1]; simp
  have K := (k1.trans (Jbm.bump W 4 _)).trans k2
  have hlt : σ.next < τ.next := Nat.lt_of_lt_of_le (by simp; omega) k2.next
  simp (maxSteps := 1000000) (disch := first | omega | decide +kernel | (simp only [symN] <;> omega) | assumption) only [Jaa, Jac, reduceIte, Nat.reduceEqDiff, Nat.reduceAdd, Nat.reduceMul, hb]
  rw [Jak]
  refine (Jbj f.code 2 (by decide) _ (w2.bump (n := 4)) (by simp [Jbw]; omega)).mono ?_
  rintro _ τ2 ⟨rfl, w3, k3⟩
  have k3 := (Jbm.bump W 4 _).trans k3
  have hx2 := k3.get σ.next hlt hx.2
  have hb2 := hx2.1.trans hb
  have K := K.trans k3
  simp (maxSteps := 1000000) (disch := first | omega | decide +kernel | (simp only [symN] <;> omega) | assumption) only [Jaa, Jac, reduceIte, Nat.reduceEqDiff, Nat.reduceAdd, Nat.reduceMul, hb2]
  rw [Jak]
  refine (Jdq f.text h3 _ (w3.bump (n := 4)) (by simp [Jbw, Jap]; omega)).mono ?_
  rintro _ τ3 ⟨rfl, w4, k4⟩
  have K := K.trans ((Jbm.bump W 4 _).trans k4)
  simp (maxSteps := 1000000) (disch := first | omega | decide +kernel | (simp only [symN] <;> omega) | assumption) only [Jaa, Jac, reduceIte, Nat.reduceEqDiff, Nat.reduceAdd, Nat.reduceMul]
  refine ⟨trivial, ?_, K⟩
  simp only [← List.append_assoc] at w4 ⊢
  exact w4
theorem Jmu {σ : St} {B F g : Nat} {x y : Value} {b : Bool} (hB : σ.get B = some (.cells false 0 F [.func (.func g) #[] #[]])) (hF : σ.famO F = none) (hlt : B < σ.next) (hg : ∀ args σ, Jb6 Tryz.prog g args σ = some (.enter g args))
    (hcall : Jai g [.agg ⟨[x, y]⟩] (.bool b)) :
    TF Tryz.prog [] 192 #[.agg ⟨[x, y]⟩, .pointer (some ⟨B, 0, none⟩)] σ fun v σ' => v = .bool (!b) := by
  refine TF.walkC (Jaf _) Jae Tryz.func192 (by kernel_rfl) (by show 2 ≤ 8; decide) fun c hc => ?_
  cases hc
  have q1 : (σ.next = B) = False := eq_false (by omega)
  have hrd : ∀ τ : St, τ.famO F = none → rdG τ (some (.cells false 0 F [.func (.func g) #[] #[]])) 0 1 = some [.func (.func g) #[] #[]] := fun τ h => by rw [Jqn h]; simp [sub?]
  have hrd' : ∀ (o : AObj) n m, rdG (((σ.bump n).set σ.next o).bump m) (some (.cells false 0 F [.func (.func g) #[] #[]])) 0 1 = some [.func (.func g) #[] #[]] := fun o n m => hrd _ (by simpa using hF)
  simp (maxSteps := 1000000) (disch := first | omega | decide +kernel | (simp only [symN] <;> omega) | assumption) only [Tryz.f192, Jaa, Jac, reduceIte, Nat.reduceEqDiff, Nat.reduceAdd, Nat.reduceMul, q1, hB, hrd', hg]
  rw [Jak]
  refine TF.of (hcall _) ?_
  simp (maxSteps := 1000000) (disch := first | omega | decide +kernel | (simp only [symN] <;> omega) | assumption) only [Jaa, Jac, reduceIte, Nat.reduceEqDiff, Nat.reduceAdd, Nat.reduceMul]
theorem Jlw {σ : St} {B g : Nat} {x y : Value} {b : Bool} (hB : σ.cells? B = some [.func (.func g) #[] #[]]) (hx : Ja5 (.agg ⟨[x, y]⟩) = true) (hg : ∀ args σ, Jb6 Tryz.prog g args σ = some (.enter g args))
    (hcall : Jai g [.agg ⟨[x, y]⟩] (.bool b)) : SimF Tryz.prog [] 192 #[.agg ⟨[x, y]⟩, .pointer (some ⟨B, 0, none⟩)] σ (.bool (!b)) σ := by
  obtain ⟨v, σ', hs, rfl⟩ := Jmu (σ := roSt 1000 0 [(0, [.func (.func g) #[] #[]])]) (B := 0) (F := 0) (Jfh (by simp) (by simp)) Jdz (by rw [Jdy]; decide) hg hcall
  refine hs.ro (ρ := fun A => if A = 0 then some (B, 0) else none) (by simp) (by simp) ⟨[.func (.func g) #[] #[]], by simp⟩ (fun A B' d h => ?_) (fun b hb => by simp at hb) ?_ (.flat rfl)
  · split at h
    · rename_i e; subst e; cases h
      exact ⟨[.func (.func g) #[] #[]], [.func (.func g) #[] #[]], by simp, hB, .flat (by simp) (by simp) (by simp [Ja5, flat0])⟩
    · cases h
  · refine ⟨rfl, fun i h h' => ?_⟩
    have hi : i = 0 ∨ i = 1 := by simp at h; omega
    rcases hi with rfl | rfl
    · exact .flat hx
    · exact .ptr 0 B 0 0 (by simp)
end Go.Proofs
namespace Go.Ev
open Go
set_option linter.unusedVariables false
set_option linter.unusedSimpArgs false
theorem VRel.backs {g g' : Gam} (hg : Gam.le g g') {v v0 : Value} (h : VRel g v v0) : ∀ {v1 : Value}, VRel g' v v1 → VRel g v v1 := by
  induction h with
  | bool b => intro v1 k; cases k; exact .bool b
  | int k n => intro v1 k; cases k; exact .int _ _
  | float k b => intro v1 k; cases k; exact .float _ _
  | complex k a b => intro v1 k; cases k; exact .complex _ _ _
  | string s => intro v1 k; cases k; exact .string _
  | nilPtr => intro v1 k; cases k; exact .nilPtr
  | ptr A o x h =>
    intro v1 k
    cases k with
    | ptr _ _ y h' =>
      have := hg A x h
      rw [h'] at this; cases this
      exact .ptr A o _ h
  | nilSlice => intro v1 k; cases k; exact .nilSlice
  | slice A o len kk x o' c h hl ho h0 hk =>
    intro v1 k
    cases k with
    | slice _ _ _ _ y o2 c2 h' hl' ho' h0' hk' =>
      have := hg A x h
      rw [h'] at this; cases this
      exact .slice A o len kk _ o2 c2 h hl' ho' h0' hk'
  | nilMap => intro v1 k; cases k; exact .nilMap
  | map A x h =>
    intro v1 k
    cases k with
    | map _ y h' =>
      have := hg A x h
      rw [h'] at this; cases this
      exact .map A _ h
  | nilFunc => intro v1 k; cases k; exact .nilFunc
  | func fn a b c d h1 h2 h3 h4 ih2 ih4 =>
    intro v1 k
    cases k with
    | func _ _ b' _ d' k1 k2 k3 k4 => exact .func fn a b' c d' k1 (fun i p p' => ih2 i p (by rw [← h1]; exact p) (k2 i p p')) k3 (fun i p p' => ih4 i p (by rw [← h3]; exact p) (k4 i p p'))
    | yield l l' => exact .yield _ _
  | yield l l' =>
    intro v1 k
    cases k with
    | func _ _ b' _ d' k1 k2 k3 k4 => exact .func _ _ _ _ _ k1 (fun i p p' => absurd p (by simp)) k3 (fun i p p' => absurd p (by simp))
    | yield l l' => exact .yield _ _
  | iface t v v' h ih =>
    intro v1 k
    cases k with
    | iface _ _ v2 k => exact .iface t _ _ (ih k)
  | nilIface => intro v1 k; cases k; exact .nilIface
  | agg a b h1 h2 ih =>
    intro v1 k
    cases k with
    | agg _ b' k1 k2 => exact .agg a b' k1 fun i p p' => ih i p (by rw [← h1]; exact p) (k2 i p p')
  | tuple a b h1 h2 ih =>
    intro v1 k
    cases k with
    | tuple _ b' k1 k2 => exact .tuple a b' k1 fun i p p' => ih i p (by rw [← h1]; exact p) (k2 i p p')
structure Jad (σ σ' : St) : Prop where
  next : σ.next ≤ σ'.next
  get : ∀ B, B < σ.next → σ'.get B = σ.get B
  fam : ∀ F, F < σ.next → σ'.famO F = σ.famO F
theorem Jad.refl (σ : St) : Jad σ σ := ⟨Nat.le_refl _, fun _ _ => rfl, fun _ _ => rfl⟩
theorem Jad.trans {a b c : St} (h : Jad a b) (k : Jad b c) : Jad a c :=
  ⟨Nat.le_trans h.next k.next, fun B e => (k.get B (Nat.lt_of_lt_of_le e h.next)).trans (h.get B e), fun F e => (k.fam F (Nat.lt_of_lt_of_le e h.next)).trans (h.fam F e)⟩
theorem Jad.bump {σ : St} {n : Nat} : Jad σ (σ.bump n) := ⟨Nat.le_add_right _ _, fun _ _ => rfl, fun _ _ => rfl⟩
theorem St.Wf.none_ge {σ : St} (h : σ.Wf) {A : Nat} (hA : σ.next ≤ A) : σ.get A = none := by
  cases e : σ.get A with
  | none => rfl
  | some o => exact absurd (h.lt _ _ e) (by omega)
theorem Jad.set {σ τ : St} {B : Nat} {o : AObj} (h : Jad σ τ) (hB : σ.next ≤ B) : Jad σ (τ.set B o) :=
  ⟨h.next, fun A e => by simp [show ¬ (B = A) by omega, h.get A e], fun F e => by simp [h.fam F e]⟩
theorem Jad.setFam {σ τ : St} {B O : Nat} (h : Jad σ τ) (hB : σ.next ≤ B) : Jad σ (τ.setFam B O) :=
  ⟨h.next, fun A e => by simp [h.get A e], fun F e => by simp [show ¬ (B = F) by omega, h.fam F e]⟩
theorem Jad.setHint {σ τ : St} {B O : Nat} (h : Jad σ τ) : Jad σ (τ.setHint B O) :=
  ⟨h.next, fun A e => by simp [h.get A e], fun F e => by simp [h.fam F e]⟩
theorem Jad.bump' {σ τ : St} {n : Nat} (h : Jad σ τ) : Jad σ (τ.bump n) := h.trans .bump
theorem Jad.old {σ σ' : St} (h : Jad σ σ') (hw : σ.Wf) {A : Nat} {o : AObj} (e : σ.get A = some o) : σ'.get A = some o := (h.get A (hw.lt _ _ e)).trans e
theorem Jad.rd {σ σ' : St} (h : Jad σ σ') (hw : σ.Wf) {A : Nat} {own : Bool} {v F : Nat} {c : List Value} (e : σ.get A = some (.cells own v F c)) : σ'.rd own v F = σ.rd own v F := by
  obtain ⟨o, ho⟩ := hw.founder A own v F c e
  unfold St.rd
  rw [h.fam F (hw.lt _ _ ho)]
  cases hf : σ.famO F with
  | none => rfl
  | some O =>
    obtain ⟨own', v', c', hO⟩ := hw.named F O hf
    simp only [h.get O (hw.lt _ _ hO)]
theorem Jad.cells {σ σ' : St} (h : Jad σ σ') (hw : σ.Wf) {A : Nat} {c : List Value} (e : σ.cells? A = some c) : σ'.cells? A = some c := by
  obtain ⟨own, v, F, h1, h2⟩ := Jei e
  have g1 := h.old hw h1
  have g2 := (h.rd hw h1).trans h2
  unfold St.cells?
  rw [g1]; simp only [g2, if_true]
theorem SimF.forget {P : Program} {gl : List Nat} {f : FuncId} {args : Array Value} {σ σ' : St} {v : Value} (h : SimF P gl f args σ v σ') (hk : Jad σ σ') (hv : ∀ g args', ARel g args args' → ∃ v0, VRel g v v0) : SimF P gl f args σ v σ := by
  intro g w args' hg hr ha
  obtain ⟨v0, hv0⟩ := hv g args' ha
  refine (h g w args' hg hr ha).mono ?_
  rintro e w' ⟨v', g', rfl, hv', hr', hx⟩
  refine ⟨v', g, rfl, hv0.backs hx.le hv', ⟨hr.wf, fun A x hA => Nat.lt_of_lt_of_le (hr.blk A x hA) hx.size, fun A x hA => ?_, hr.share, hr.order, (hr.tab.ext hx).sub fun A y h => ⟨A, y, hx.le A y h, rfl⟩⟩,
    ⟨Gam.le_refl g, fun A x h1 h2 => (by rw [h1] at h2; cases h2), fun A x h1 h2 => (by rw [h1] at h2; cases h2), hx.size, hx.keep, fun _ _ _ => rfl, fun _ q => ⟨rfl, q⟩, Nat.le_refl _, hx.os, hx.out, hx.tape⟩⟩
  obtain ⟨o, ho, hs⟩ := hr.obj A x hA
  obtain ⟨o', ho', hs'⟩ := hr'.obj A x (hx.le A x hA)
  rw [hk.old hr.wf ho] at ho'; cases ho'
  refine ⟨o, ho, ?_⟩
  cases o with
  | cells own ver fam c =>
    obtain ⟨cs, el, fr, h1, h2, h3, h4⟩ := hs
    obtain ⟨cs', el', fr', k1, k2, k3, k4⟩ := hs'
    refine ⟨cs', el', fr', k1, k2, fun hrd i hi => ?_, k4⟩
    obtain ⟨a, _, a2⟩ := h3 hrd i hi
    obtain ⟨b, b1, b2⟩ := k3 ((hk.rd hr.wf ho).trans hrd) i hi
    exact ⟨b, b1, a2.backs hx.le b2⟩
  | iter s pos => exact hs'
  | map es clock =>
    obtain ⟨es1, h1, h2⟩ := hs
    obtain ⟨es2, k1, k2⟩ := hs'
    refine ⟨es2, k1, k2.1, fun i p p' => ?_⟩
    obtain ⟨m1, m2, m3⟩ := k2.2 i p p'
    obtain ⟨n1, n2, n3⟩ := h2.2 i p (by rw [← h2.1]; exact p)
    exact ⟨n1.backs hx.le m1, n2.backs hx.le m2, m3⟩
theorem Je4 {v : Value} (h : Ja5 v = true) : ∀ (args : Array Value) (g : Gam) (args' : Array Value), ARel g args args' → ∃ v0, VRel g v v0 := fun _ g _ _ => ⟨v, Jb4 h⟩
theorem TF.forget {P : Program} {gl : List Nat} {f : FuncId} {args : Array Value} {σ : St} {Q : Value → St → Prop} {R : Value → Prop} (h : TF P gl f args σ Q) (hq : ∀ v σ', Q v σ' → Jad σ σ' ∧ R v ∧ ∀ g args', ARel g args args' → ∃ v0, VRel g v v0) : TF P gl f args σ fun v σ' => σ' = σ ∧ R v := by
  obtain ⟨v, σ', hs, hQ⟩ := h
  obtain ⟨h1, h2, h3⟩ := hq v σ' hQ
  exact ⟨v, σ, hs.forget h1 h3, rfl, h2⟩
theorem TF.sim {P : Program} {gl : List Nat} {f : FuncId} {args : Array Value} {σ : St} {v : Value} (h : TF P gl f args σ fun v' σ' => σ' = σ ∧ v' = v) : SimF P gl f args σ v σ := by
  obtain ⟨_, _, hs, rfl, rfl⟩ := h
  exact hs
theorem TF.of_wf {P : Program} {gl : List Nat} {f : FuncId} {args : Array Value} {σ : St} {v : Value} (h : σ.Wf → TF P gl f args σ fun v' σ' => σ' = σ ∧ v' = v) : SimF P gl f args σ v σ := SimF.of_wf fun hw => (h hw).sim
end Go.Ev
namespace Go.Proofs
open Go Go.Ev
set_option maxRecDepth 100000
set_option linter.unusedSimpArgs false
set_option linter.unusedVariables false
set_option maxHeartbeats 4000000
set_option linter.defProp false
def Kio := Jas (P := Tryz.prog) Tryz.func192 (by kernel_rfl) (by kernel_rfl)
theorem SlR.new {σ : St} {s : Value} {n k m : Nat} {rows : List (List Value)} {o : AObj} (hw : σ.Wf) (h : SlR σ s n rows) : SlR (((σ.bump k).set σ.next o).bump m) s n rows := by
  rcases h with h | ⟨A, o1, k1, c, h1, h2, h3⟩
  · exact .inl h
  · refine .inr ⟨A, o1, k1, c, h1, ?_, h3⟩
    obtain ⟨own, v, F, g1, g2⟩ := Jei h2
    have hid : σ.get σ.next = none := by
      cases e : σ.get σ.next with
      | none => rfl
      | some o => exact absurd (hw.lt _ _ e) (Nat.lt_irrefl _)
    have hne : ¬ (σ.next = A) := by have := hw.lt _ _ g1; omega
    have hr := St.rd_new hw hid o own v F
    have hg : (((σ.bump k).set σ.next o).bump m).get A = some (.cells own v F c) := by simp [hne, g1]
    have hrd : (((σ.bump k).set σ.next o).bump m).rd own v F = true := hr.trans g2
    unfold St.cells?
    rw [hg]; simp only [hrd, if_true]
theorem Jmx {g : Nat} (rows : List (List Value)) (p : List Value → Bool) (s : Value) (least most : Nat) (σ : St) (hwf : σ.Wf) (hs : SlR σ s 2 rows) (hl : rows.length < 1000000000) (hg : ∀ args σ, Jb6 Tryz.prog g args σ = some (.enter g args))
    (hflat : ∀ i (h : i < rows.length), ∃ x y, rows[i] = [x, y] ∧ Ja5 (.agg ⟨[x, y]⟩) = true) (hcall : ∀ i (h : i < rows.length), Jai g [.agg ⟨rows[i]⟩] (.bool (p rows[i]))) :
    TF Tryz.prog [] 121 #[s, .int .i64 (least : Nat), .int .i64 (most : Nat), .func (.func g) #[] #[]] σ fun v σ' => v = .bool (decide (least ≤ rows.length) && decide (rows.length ≤ most) && rows.all p) ∧ Jad σ σ' := by
  refine TF.walk (Jaf _) Jae Tryz.func121 (by kernel_rfl) rfl fun c hc => ?_
  cases hc
  obtain ⟨b0, k0, e0⟩ := hs.shape
  have e1 : decide (((least : Nat) : Int) ≤ ((rows.length : Nat) : Int)) = decide (least ≤ rows.length) := by congr 1; exact propext (by omega)
  have e2 : decide (((rows.length : Nat) : Int) ≤ ((most : Nat) : Int)) = decide (rows.length ≤ most) := by congr 1; exact propext (by omega)
  by_cases h1 : least ≤ rows.length
  · by_cases h2 : rows.length ≤ most
    · rw [e0]
      simp (maxSteps := 1000000) (disch := first | omega | decide +kernel | (simp only [symN] <;> omega) | assumption) only [Tryz.f121, Jaa, Jac, reduceIte, Nat.reduceEqDiff, Nat.reduceAdd, Nat.reduceMul, e1, e2, h1, h2, decide_true, Bool.true_and]
      rw [← e0, Jak]
      refine (Jp8 (g := 192) (caps := [.pointer (some ⟨σ.next, 0, none⟩)]) rows (fun r => !p r) s _ (hs.new hwf) hl (fun args σ => Kio args σ) fun i hi m => ?_).mono ?_
      · obtain ⟨x, y, hxy, hf⟩ := hflat i hi
        have hb := hcall i hi
        rw [hxy] at hb ⊢
        exact Jlw (g := g) (by simp [St.cells?, St.rd]) hf hg hb
      · rintro _ _ ⟨m, rfl, rfl⟩
        have hall : rows.all p = !rows.any (fun r => !p r) := by rw [Bool.eq_iff_iff]; simp
        simp (maxSteps := 1000000) (disch := first | omega | decide +kernel | (simp only [symN] <;> omega) | assumption) only [Jaa, Jac, reduceIte, Nat.reduceEqDiff, Nat.reduceAdd, Nat.reduceMul, hall]
        first | exact ⟨by simp [h1, h2], by (repeat (first | exact Jad.refl _ | apply Jad.bump' | apply Jad.setHint | refine Jad.setFam ?_ (by first | omega | (simp <;> omega)) | refine Jad.set ?_ (by first | omega | (simp <;> omega))))⟩ | exact by (repeat (first | exact Jad.refl _ | apply Jad.bump' | apply Jad.setHint | refine Jad.setFam ?_ (by first | omega | (simp <;> omega)) | refine Jad.set ?_ (by first | omega | (simp <;> omega))))
    · rw [e0]
      simp (maxSteps := 1000000) (disch := first | omega | decide +kernel | (simp only [symN] <;> omega) | assumption) only [Tryz.f121, Jaa, Jac, reduceIte, Nat.reduceEqDiff, Nat.reduceAdd, Nat.reduceMul, e1, e2, h1, h2, Bool.true_and, Bool.false_and]
      first | exact ⟨by simp [h1, h2], by (repeat (first | exact Jad.refl _ | apply Jad.bump' | apply Jad.setHint | refine Jad.setFam ?_ (by first | omega | (simp <;> omega)) | refine Jad.set ?_ (by first | omega | (simp <;> omega))))⟩ | exact by (repeat (first | exact Jad.refl _ | apply Jad.bump' | apply Jad.setHint | refine Jad.setFam ?_ (by first | omega | (simp <;> omega)) | refine Jad.set ?_ (by first | omega | (simp <;> omega))))
  · rw [e0]
    simp (maxSteps := 1000000) (disch := first | omega | decide +kernel | (simp only [symN] <;> omega) | assumption) only [Tryz.f121, Jaa, Jac, reduceIte, Nat.reduceEqDiff, Nat.reduceAdd, Nat.reduceMul, e1, e2, h1, decide_false, Bool.false_and]
    first | exact ⟨by simp [h1], by (repeat (first | exact Jad.refl _ | apply Jad.bump' | apply Jad.setHint | refine Jad.setFam ?_ (by first | omega | (simp <;> omega)) | refine Jad.set ?_ (by first | omega | (simp <;> omega))))⟩ | exact by (repeat (first | exact Jad.refl _ | apply Jad.bump' | apply Jad.setHint | refine Jad.setFam ?_ (by first | omega | (simp <;> omega)) | refine Jad.set ?_ (by first | omega | (simp <;> omega))))
theorem Jmt {σ : St} {B F g : Nat} {x0 x1 x2 x3 x4 x5 x6 x7 x8 : Value} {b : Bool} (hB : σ.get B = some (.cells false 0 F [.func (.func g) #[] #[]])) (hF : σ.famO F = none) (hlt : B < σ.next) (hg : ∀ args σ, Jb6 Tryz.prog g args σ = some (.enter g args))
    (hcall : Jai g [.agg ⟨[x0, x1, x2, x3, x4, x5, x6, x7, x8]⟩] (.bool b)) :
    TF Tryz.prog [] 194 #[.agg ⟨[x0, x1, x2, x3, x4, x5, x6, x7, x8]⟩, .pointer (some ⟨B, 0, none⟩)] σ fun v σ' => v = .bool (!b) := by
  refine TF.walkC (Jaf _) Jae Tryz.func194 (by kernel_rfl) (by show 2 ≤ 8; decide) fun c hc => ?_
  cases hc
  have q1 : (σ.next = B) = False := eq_false (by omega)
  have hrd : ∀ τ : St, τ.famO F = none → rdG τ (some (.cells false 0 F [.func (.func g) #[] #[]])) 0 1 = some [.func (.func g) #[] #[]] := fun τ h => by rw [Jqn h]; simp [sub?]
  have hrd' : ∀ (o : AObj) n m, rdG (((σ.bump n).set σ.next o).bump m) (some (.cells false 0 F [.func (.func g) #[] #[]])) 0 1 = some [.func (.func g) #[] #[]] := fun o n m => hrd _ (by simpa using hF)
  simp (maxSteps := 1000000) (disch := first | omega | decide +kernel | (simp only [symN] <;> omega) | assumption) only [Tryz.f194, Jaa, Jac, reduceIte, Nat.reduceEqDiff, Nat.reduceAdd, Nat.reduceMul, q1, hB, hrd', hg]
  rw [Jak]
  refine TF.of (hcall _) ?_
  simp (maxSteps := 1000000) (disch := first | omega | decide +kernel | (simp only [symN] <;> omega) | assumption) only [Jaa, Jac, reduceIte, Nat.reduceEqDiff, Nat.reduceAdd, Nat.reduceMul]
theorem Jlv {σ : St} {B g : Nat} {x0 x1 x2 x3 x4 x5 x6 x7 x8 : Value} {b : Bool} (hB : σ.cells? B = some [.func (.func g) #[] #[]]) (hx : Ja5 (.agg ⟨[x0, x1, x2, x3, x4, x5, x6, x7, x8]⟩) = true) (hg : ∀ args σ, Jb6 Tryz.prog g args σ = some (.enter g args))
    (hcall : Jai g [.agg ⟨[x0, x1, x2, x3, x4, x5, x6, x7, x8]⟩] (.bool b)) : SimF Tryz.prog [] 194 #[.agg ⟨[x0, x1, x2, x3, x4, x5, x6, x7, x8]⟩, .pointer (some ⟨B, 0, none⟩)] σ (.bool (!b)) σ := by
  obtain ⟨v, σ', hs, rfl⟩ := Jmt (σ := roSt 1000 0 [(0, [.func (.func g) #[] #[]])]) (B := 0) (F := 0) (Jfh (by simp) (by simp)) Jdz (by rw [Jdy]; decide) hg hcall
  refine hs.ro (ρ := fun A => if A = 0 then some (B, 0) else none) (by simp) (by simp) ⟨[.func (.func g) #[] #[]], by simp⟩ (fun A B' d h => ?_) (fun b hb => by simp at hb) ?_ (.flat rfl)
  · split at h
    · rename_i e; subst e; cases h
      exact ⟨[.func (.func g) #[] #[]], [.func (.func g) #[] #[]], by simp, hB, .flat (by simp) (by simp) (by simp [Ja5, flat0])⟩
    · cases h
  · refine ⟨rfl, fun i h h' => ?_⟩
    have hi : i = 0 ∨ i = 1 := by simp at h; omega
    rcases hi with rfl | rfl
    · exact .flat hx
    · exact .ptr 0 B 0 0 (by simp)
def Kin := Jas (P := Tryz.prog) Tryz.func194 (by kernel_rfl) (by kernel_rfl)
theorem Jmw {g : Nat} (rows : List (List Value)) (p : List Value → Bool) (s : Value) (least most : Nat) (σ : St) (hwf : σ.Wf) (hs : SlR σ s 9 rows) (hl : rows.length < 1000000000) (hg : ∀ args σ, Jb6 Tryz.prog g args σ = some (.enter g args))
    (hflat : ∀ i (h : i < rows.length), ∃ x0 x1 x2 x3 x4 x5 x6 x7 x8, rows[i] = [x0, x1, x2, x3, x4, x5, x6, x7, x8] ∧ Ja5 (.agg ⟨[x0, x1, x2, x3, x4, x5, x6, x7, x8]⟩) = true) (hcall : ∀ i (h : i < rows.length), Jai g [.agg ⟨rows[i]⟩] (.bool (p rows[i]))) :
    TF Tryz.prog [] 122 #[s, .int .i64 (least : Nat), .int .i64 (most : Nat), .func (.func g) #[] #[]] σ fun v σ' => v = .bool (decide (least ≤ rows.length) && decide (rows.length ≤ most) && rows.all p) ∧ Jad σ σ' := by
  refine TF.walk (Jaf _) Jae Tryz.func122 (by kernel_rfl) rfl fun c hc => ?_
  cases hc
  obtain ⟨b0, k0, e0⟩ := hs.shape
  have e1 : decide (((least : Nat) : Int) ≤ ((rows.length : Nat) : Int)) = decide (least ≤ rows.length) := by congr 1; exact propext (by omega)
  have e2 : decide (((rows.length : Nat) : Int) ≤ ((most : Nat) : Int)) = decide (rows.length ≤ most) := by congr 1; exact propext (by omega)
  by_cases h1 : least ≤ rows.length
  · by_cases h2 : rows.length ≤ most
    · rw [e0]
      simp (maxSteps := 1000000) (disch := first | omega | decide +kernel | (simp only [symN] <;> omega) | assumption) only [Tryz.f122, Jaa, Jac, reduceIte, Nat.reduceEqDiff, Nat.reduceAdd, Nat.reduceMul, e1, e2, h1, h2, decide_true, Bool.true_and]
      rw [← e0, Jak]
      refine (Jp7 (g := 194) (caps := [.pointer (some ⟨σ.next, 0, none⟩)]) rows (fun r => !p r) s _ (hs.new hwf) hl (fun args σ => Kin args σ) fun i hi m => ?_).mono ?_
      · obtain ⟨x0, x1, x2, x3, x4, x5, x6, x7, x8, hxy, hf⟩ := hflat i hi
        have hb := hcall i hi
        rw [hxy] at hb ⊢
        exact Jlv (g := g) (by simp [St.cells?, St.rd]) hf hg hb
      · rintro _ _ ⟨m, rfl, rfl⟩
        have hall : rows.all p = !rows.any (fun r => !p r) := by rw [Bool.eq_iff_iff]; simp
        simp (maxSteps := 1000000) (disch := first | omega | decide +kernel | (simp only [symN] <;> omega) | assumption) only [Jaa, Jac, reduceIte, Nat.reduceEqDiff, Nat.reduceAdd, Nat.reduceMul, hall]
        first | exact ⟨by simp [h1, h2], by (repeat (first | exact Jad.refl _ | apply Jad.bump' | apply Jad.setHint | refine Jad.setFam ?_ (by first | omega | (simp <;> omega)) | refine Jad.set ?_ (by first | omega | (simp <;> omega))))⟩ | exact by (repeat (first | exact Jad.refl _ | apply Jad.bump' | apply Jad.setHint | refine Jad.setFam ?_ (by first | omega | (simp <;> omega)) | refine Jad.set ?_ (by first | omega | (simp <;> omega))))
    · rw [e0]
      simp (maxSteps := 1000000) (disch := first | omega | decide +kernel | (simp only [symN] <;> omega) | assumption) only [Tryz.f122, Jaa, Jac, reduceIte, Nat.reduceEqDiff, Nat.reduceAdd, Nat.reduceMul, e1, e2, h1, h2, Bool.true_and, Bool.false_and]
      first | exact ⟨by simp [h1, h2], by (repeat (first | exact Jad.refl _ | apply Jad.bump' | apply Jad.setHint | refine Jad.setFam ?_ (by first | omega | (simp <;> omega)) | refine Jad.set ?_ (by first | omega | (simp <;> omega))))⟩ | exact by (repeat (first | exact Jad.refl _ | apply Jad.bump' | apply Jad.setHint | refine Jad.setFam ?_ (by first | omega | (simp <;> omega)) | refine Jad.set ?_ (by first | omega | (simp <;> omega))))
  · rw [e0]
    simp (maxSteps := 1000000) (disch := first | omega | decide +kernel | (simp only [symN] <;> omega) | assumption) only [Tryz.f122, Jaa, Jac, reduceIte, Nat.reduceEqDiff, Nat.reduceAdd, Nat.reduceMul, e1, e2, h1, decide_false, Bool.false_and]
    first | exact ⟨by simp [h1], by (repeat (first | exact Jad.refl _ | apply Jad.bump' | apply Jad.setHint | refine Jad.setFam ?_ (by first | omega | (simp <;> omega)) | refine Jad.set ?_ (by first | omega | (simp <;> omega))))⟩ | exact by (repeat (first | exact Jad.refl _ | apply Jad.bump' | apply Jad.setHint | refine Jad.setFam ?_ (by first | omega | (simp <;> omega)) | refine Jad.set ?_ (by first | omega | (simp <;> omega))))
theorem Jms {σ : St} {B F g : Nat} {x0 x1 x2 x3 : Value} {b : Bool} (hB : σ.get B = some (.cells false 0 F [.func (.func g) #[] #[]])) (hF : σ.famO F = none) (hlt : B < σ.next) (hg : ∀ args σ, Jb6 Tryz.prog g args σ = some (.enter g args))
    (hcall : Jai g [.agg ⟨[x0, x1, x2, x3]⟩] (.bool b)) :
    TF Tryz.prog [] 196 #[.agg ⟨[x0, x1, x2, x3]⟩, .pointer (some ⟨B, 0, none⟩)] σ fun v σ' => v = .bool (!b) := by
  refine TF.walkC (Jaf _) Jae Tryz.func196 (by kernel_rfl) (by show 2 ≤ 8; decide) fun c hc => ?_
  cases hc
  have q1 : (σ.next = B) = False := eq_false (by omega)
  have hrd : ∀ τ : St, τ.famO F = none → rdG τ (some (.cells false 0 F [.func (.func g) #[] #[]])) 0 1 = some [.func (.func g) #[] #[]] := fun τ h => by rw [Jqn h]; simp [sub?]
  have hrd' : ∀ (o : AObj) n m, rdG (((σ.bump n).set σ.next o).bump m) (some (.cells false 0 F [.func (.func g) #[] #[]])) 0 1 = some [.func (.func g) #[] #[]] := fun o n m => hrd _ (by simpa using hF)
  simp (maxSteps := 1000000) (disch := first | omega | decide +kernel | (simp only [symN] <;> omega) | assumption) only [Tryz.f196, Jaa, Jac, reduceIte, Nat.reduceEqDiff, Nat.reduceAdd, Nat.reduceMul, q1, hB, hrd', hg]
  rw [Jak]
  refine TF.of (hcall _) ?_
  simp (maxSteps := 1000000) (disch := first | omega | decide +kernel | (simp only [symN] <;> omega) | assumption) only [Jaa, Jac, reduceIte, Nat.reduceEqDiff, Nat.reduceAdd, Nat.reduceMul]
theorem Jlu {σ : St} {B g : Nat} {x0 x1 x2 x3 : Value} {b : Bool} (hB : σ.cells? B = some [.func (.func g) #[] #[]]) (hx : Ja5 (.agg ⟨[x0, x1, x2, x3]⟩) = true) (hg : ∀ args σ, Jb6 Tryz.prog g args σ = some (.enter g args))
    (hcall : Jai g [.agg ⟨[x0, x1, x2, x3]⟩] (.bool b)) : SimF Tryz.prog [] 196 #[.agg ⟨[x0, x1, x2, x3]⟩, .pointer (some ⟨B, 0, none⟩)] σ (.bool (!b)) σ := by
  obtain ⟨v, σ', hs, rfl⟩ := Jms (σ := roSt 1000 0 [(0, [.func (.func g) #[] #[]])]) (B := 0) (F := 0) (Jfh (by simp) (by simp)) Jdz (by rw [Jdy]; decide) hg hcall
  refine hs.ro (ρ := fun A => if A = 0 then some (B, 0) else none) (by simp) (by simp) ⟨[.func (.func g) #[] #[]], by simp⟩ (fun A B' d h => ?_) (fun b hb => by simp at hb) ?_ (.flat rfl)
  · split at h
    · rename_i e; subst e; cases h
      exact ⟨[.func (.func g) #[] #[]], [.func (.func g) #[] #[]], by simp, hB, .flat (by simp) (by simp) (by simp [Ja5, flat0])⟩
    · cases h
  · refine ⟨rfl, fun i h h' => ?_⟩
    have hi : i = 0 ∨ i = 1 := by simp at h; omega
    rcases hi with rfl | rfl
    · exact .flat hx
    · exact .ptr 0 B 0 0 (by simp)
def Kim := Jas (P := Tryz.prog) Tryz.func196 (by kernel_rfl) (by kernel_rfl)
theorem Jmv {g : Nat} (rows : List (List Value)) (p : List Value → Bool) (s : Value) (least most : Nat) (σ : St) (hwf : σ.Wf) (hs : SlR σ s 4 rows) (hl : rows.length < 1000000000) (hg : ∀ args σ, Jb6 Tryz.prog g args σ = some (.enter g args))
    (hflat : ∀ i (h : i < rows.length), ∃ x0 x1 x2 x3, rows[i] = [x0, x1, x2, x3] ∧ Ja5 (.agg ⟨[x0, x1, x2, x3]⟩) = true) (hcall : ∀ i (h : i < rows.length), Jai g [.agg ⟨rows[i]⟩] (.bool (p rows[i]))) :
    TF Tryz.prog [] 124 #[s, .int .i64 (least : Nat), .int .i64 (most : Nat), .func (.func g) #[] #[]] σ fun v σ' => v = .bool (decide (least ≤ rows.length) && decide (rows.length ≤ most) && rows.all p) ∧ Jad σ σ' := by
  refine TF.walk (Jaf _) Jae Tryz.func124 (by kernel_rfl) rfl fun c hc => ?_
  cases hc
  obtain ⟨b0, k0, e0⟩ := hs.shape
  have e1 : decide (((least : Nat) : Int) ≤ ((rows.length : Nat) : Int)) = decide (least ≤ rows.length) := by congr 1; exact propext (by omega)
  have e2 : decide (((rows.length : Nat) : Int) ≤ ((most : Nat) : Int)) = decide (rows.length ≤ most) := by congr 1; exact propext (by omega)
  by_cases h1 : least ≤ rows.length
  · by_cases h2 : rows.length ≤ most
    · rw [e0]
      simp (maxSteps := 1000000) (disch := first | omega | decide +kernel | (simp only [symN] <;> omega) | assumption) only [Tryz.f124, Jaa, Jac, reduceIte, Nat.reduceEqDiff, Nat.reduceAdd, Nat.reduceMul, e1, e2, h1, h2, decide_true, Bool.true_and]
      rw [← e0, Jak]
      refine (Jp6 (g := 196) (caps := [.pointer (some ⟨σ.next, 0, none⟩)]) rows (fun r => !p r) s _ (hs.new hwf) hl (fun args σ => Kim args σ) fun i hi m => ?_).mono ?_
      · obtain ⟨x0, x1, x2, x3, hxy, hf⟩ := hflat i hi
        have hb := hcall i hi
        rw [hxy] at hb ⊢
        exact Jlu (g := g) (by simp [St.cells?, St.rd]) hf hg hb
      · rintro _ _ ⟨m, rfl, rfl⟩
        have hall : rows.all p = !rows.any (fun r => !p r) := by rw [Bool.eq_iff_iff]; simp
        simp (maxSteps := 1000000) (disch := first | omega | decide +kernel | (simp only [symN] <;> omega) | assumption) only [Jaa, Jac, reduceIte, Nat.reduceEqDiff, Nat.reduceAdd, Nat.reduceMul, hall]
        first | exact ⟨by simp [h1, h2], by (repeat (first | exact Jad.refl _ | apply Jad.bump' | apply Jad.setHint | refine Jad.setFam ?_ (by first | omega | (simp <;> omega)) | refine Jad.set ?_ (by first | omega | (simp <;> omega))))⟩ | exact by (repeat (first | exact Jad.refl _ | apply Jad.bump' | apply Jad.setHint | refine Jad.setFam ?_ (by first | omega | (simp <;> omega)) | refine Jad.set ?_ (by first | omega | (simp <;> omega))))
    · rw [e0]
      simp (maxSteps := 1000000) (disch := first | omega | decide +kernel | (simp only [symN] <;> omega) | assumption) only [Tryz.f124, Jaa, Jac, reduceIte, Nat.reduceEqDiff, Nat.reduceAdd, Nat.reduceMul, e1, e2, h1, h2, Bool.true_and, Bool.false_and]
      first | exact ⟨by simp [h1, h2], by (repeat (first | exact Jad.refl _ | apply Jad.bump' | apply Jad.setHint | refine Jad.setFam ?_ (by first | omega | (simp <;> omega)) | refine Jad.set ?_ (by first | omega | (simp <;> omega))))⟩ | exact by (repeat (first | exact Jad.refl _ | apply Jad.bump' | apply Jad.setHint | refine Jad.setFam ?_ (by first | omega | (simp <;> omega)) | refine Jad.set ?_ (by first | omega | (simp <;> omega))))
  · rw [e0]
    simp (maxSteps := 1000000) (disch := first | omega | decide +kernel | (simp only [symN] <;> omega) | assumption) only [Tryz.f124, Jaa, Jac, reduceIte, Nat.reduceEqDiff, Nat.reduceAdd, Nat.reduceMul, e1, e2, h1, decide_false, Bool.false_and]
    first | exact ⟨by simp [h1], by (repeat (first | exact Jad.refl _ | apply Jad.bump' | apply Jad.setHint | refine Jad.setFam ?_ (by first | omega | (simp <;> omega)) | refine Jad.set ?_ (by first | omega | (simp <;> omega))))⟩ | exact by (repeat (first | exact Jad.refl _ | apply Jad.bump' | apply Jad.setHint | refine Jad.setFam ?_ (by first | omega | (simp <;> omega)) | refine Jad.set ?_ (by first | omega | (simp <;> omega))))
def Jpg (may : ByteArray → ByteArray → Bool) (f : Jaw) : Bool := may f.l f.d && decide (400 ≤ f.code) && decide (f.code ≤ 599) && decide (f.text.size ≤ 200) && Jfi f.text
theorem Jo5 (may : ByteArray → ByteArray → Bool) (f : Jaw) (hmay : Jai 64 [.agg ⟨Jbb f.l f.d⟩] (.bool (may f.l f.d))) (ht : f.text.size < 9223372036854775807) : Jai 125 [.agg ⟨f.cells⟩] (.bool (Jpg may f)) := by
  refine Ja6 (by simp [Ja5, flat0, Jaw.cells]) rfl (TF.walk (Jaf _) Jae Tryz.func125 (by kernel_rfl) rfl fun c hc => ?_)
  cases hc
  unfold Jaw.cells Jpg
  have e3 : decide ((f.text.size : Int) ≤ 200) = decide (f.text.size ≤ 200) := by congr 1; exact propext (by omega)
  simp (maxSteps := 1000000) (disch := first | omega | decide +kernel | (simp only [symN] <;> omega) | assumption) only [Tryz.f125, Jaa, Jac, reduceIte, Nat.reduceEqDiff, Nat.reduceAdd, Nat.reduceMul]
  rw [Jak]
  refine TF.of (hmay _) ?_
  cases hm : may f.l f.d with
  | false => simp (maxSteps := 1000000) (disch := first | omega | decide +kernel | (simp only [symN] <;> omega) | assumption) only [Jaa, Jac, reduceIte, Nat.reduceEqDiff, Nat.reduceAdd, Nat.reduceMul, Bool.false_and]
  | true =>
    by_cases h1 : 400 ≤ f.code
    case neg => simp (maxSteps := 1000000) (disch := first | omega | decide +kernel | (simp only [symN] <;> omega) | assumption) only [Jaa, Jac, reduceIte, Nat.reduceEqDiff, Nat.reduceAdd, Nat.reduceMul, h1, decide_false, Bool.false_and, Bool.true_and]
    by_cases h2 : f.code ≤ 599
    case neg => simp (maxSteps := 1000000) (disch := first | omega | decide +kernel | (simp only [symN] <;> omega) | assumption) only [Jaa, Jac, reduceIte, Nat.reduceEqDiff, Nat.reduceAdd, Nat.reduceMul, h1, h2, Bool.false_and, Bool.true_and]
    by_cases h3 : f.text.size ≤ 200
    case neg => simp (maxSteps := 1000000) (disch := first | omega | decide +kernel | (simp only [symN] <;> omega) | assumption) only [Jaa, Jac, reduceIte, Nat.reduceEqDiff, Nat.reduceAdd, Nat.reduceMul, h1, h2, h3, e3, Bool.false_and, Bool.true_and]
    simp (maxSteps := 1000000) (disch := first | omega | decide +kernel | (simp only [symN] <;> omega) | assumption) only [Jaa, Jac, reduceIte, Nat.reduceEqDiff, Nat.reduceAdd, Nat.reduceMul, h1, h2, h3, e3, decide_true, Bool.true_and]
    rw [Jak]
    refine TF.of (Jhy f.text ht _) ?_
    simp (maxSteps := 1000000) (disch := first | omega | decide +kernel | (simp only [symN] <;> omega) | assumption) only [Jaa, Jac, reduceIte, Nat.reduceEqDiff, Nat.reduceAdd, Nat.reduceMul]
    simp [h1, h2, h3]
structure RecM where
  kind : Nat
  id : Nat
  tick : Int
  sl : ByteArray
  sd : ByteArray
  to : List (ByteArray × ByteArray)
  content : ByteArray
  fin : List Jan
  fail : List Jaw
  which : List Int
  what : Nat
  next : Int
  new : Nat
structure RecS where
  to : Value
  fin : Value
  fail : Value
  which : Value
def nilS : Value := .slice none 0 0
def Jcb : ByteArray := ⟨#[]⟩
def Jbz (p : ByteArray × ByteArray) : List Value := Jbb p.1 p.2
def Ja8 (z : Int) : List Value := [.int .i64 z]
def Jah (r : RecM) (s : RecS) : List Value := [.int .u8 (r.kind : Nat), .int .u32 (r.id : Nat), .int .i64 r.tick, .string r.sl, .string r.sd, s.to, .string r.content, s.fin, s.fail, s.which, .int .u8 (r.what : Nat), .int .i64 r.next, .int .u32 (r.new : Nat)]
structure Jbo (σ : St) (r : RecM) (s : RecS) : Prop where
  to : SlR σ s.to 2 (r.to.map Jbz)
  fin : SlR σ s.fin 9 (r.fin.map Jan.cells)
  fail : SlR σ s.fail 4 (r.fail.map Jaw.cells)
  which : SlR σ s.which 1 (r.which.map Ja8)
structure RecM.Fits (r : RecM) : Prop where
  kind : r.kind < 256
  id : r.id < 4294967296
  what : r.what < 256
  new : r.new < 4294967296
  to : r.to.length < 100000000
  fin : r.fin.length < 100000000
  fail : r.fail.length < 100000000
  which : r.which.length < 100000000
theorem Jb2 {σ : St} {n : Nat} : SlR σ nilS n [] := .inl ⟨rfl, rfl⟩
def Jhc (r : RecM) : RecM :=
  if r.kind = 1 then ⟨r.kind, r.id, r.tick, r.sl, r.sd, r.to, r.content, [], [], [], 0, 0, 0⟩
  else if r.kind = 2 then ⟨r.kind, r.id, r.tick, Jcb, Jcb, [], Jcb, r.fin, r.fail, [], 0, 0, 0⟩
  else if r.kind = 3 then ⟨r.kind, r.id, r.tick, Jcb, Jcb, [], Jcb, [], [], r.which, 0, r.next, 0⟩
  else if r.kind = 4 then ⟨r.kind, r.id, r.tick, Jcb, Jcb, [], Jcb, [], [], r.which, r.what, 0, 0⟩
  else if r.kind = 5 then ⟨r.kind, r.id, r.tick, Jcb, Jcb, r.to, r.content, [], [], r.which, 0, 0, r.new⟩
  else ⟨r.kind, r.id, r.tick, Jcb, Jcb, [], Jcb, [], [], [], 0, 0, 0⟩
def Jlf (k : Nat) (s : RecS) : RecS :=
  if k = 1 then ⟨s.to, nilS, nilS, nilS⟩
  else if k = 2 then ⟨nilS, s.fin, s.fail, nilS⟩
  else if k = 3 then ⟨nilS, nilS, nilS, s.which⟩
  else if k = 4 then ⟨nilS, nilS, nilS, s.which⟩
  else if k = 5 then ⟨s.to, nilS, nilS, s.which⟩
  else ⟨nilS, nilS, nilS, nilS⟩
theorem Km8 {σ : St} {r : RecM} {s : RecS} (h : Jbo σ r s) : Jbo σ (Jhc r) (Jlf r.kind s) := by
  unfold Jhc Jlf
  by_cases h1 : r.kind = 1
  · rw [if_pos h1, if_pos h1]; exact ⟨h.to, Jb2, Jb2, Jb2⟩
  rw [if_neg h1, if_neg h1]
  by_cases h2 : r.kind = 2
  · rw [if_pos h2, if_pos h2]; exact ⟨Jb2, h.fin, h.fail, Jb2⟩
  rw [if_neg h2, if_neg h2]
  by_cases h3 : r.kind = 3
  · rw [if_pos h3, if_pos h3]; exact ⟨Jb2, Jb2, Jb2, h.which⟩
  rw [if_neg h3, if_neg h3]
  by_cases h4 : r.kind = 4
  · rw [if_pos h4, if_pos h4]; exact ⟨Jb2, Jb2, Jb2, h.which⟩
  rw [if_neg h4, if_neg h4]
  by_cases h5 : r.kind = 5
  · rw [if_pos h5, if_pos h5]; exact ⟨h.to, Jb2, Jb2, h.which⟩
  rw [if_neg h5, if_neg h5]
  exact ⟨Jb2, Jb2, Jb2, Jb2⟩
theorem Kb5 {r : RecM} (h : r.Fits) : (Jhc r).Fits := by
  obtain ⟨a1, a2, a3, a4, a5, a6, a7, a8⟩ := h
  unfold Jhc
  repeat' split
  all_goals exact ⟨by first | assumption | simp, by first | assumption | simp, by first | assumption | simp, by first | assumption | simp, by first | assumption | simp, by first | assumption | simp, by first | assumption | simp, by first | assumption | simp⟩
theorem SlR.keeps {σ σ' : St} (hw : σ.Wf) (hk : Jad σ σ') {s : Value} {n : Nat} {rows : List (List Value)} (h : SlR σ s n rows) : SlR σ' s n rows := by
  rcases h with h | ⟨A, o, k, c, h1, h2, h3⟩
  · exact .inl h
  · exact .inr ⟨A, o, k, c, h1, hk.cells hw h2, h3⟩
theorem Jbo.keeps {σ σ' : St} (hw : σ.Wf) (hk : Jad σ σ') {r : RecM} {s : RecS} (h : Jbo σ r s) : Jbo σ' r s := ⟨h.to.keeps hw hk, h.fin.keeps hw hk, h.fail.keeps hw hk, h.which.keeps hw hk⟩
def Jcj (a b : RecM) : Bool :=
  (decide (a.kind = b.kind) && decide (a.id = b.id) && decide (a.tick = b.tick) && (a.sl == b.sl && a.sd == b.sd) && (a.content.toList == b.content.toList) && decide (a.what = b.what) && decide (a.next = b.next) && decide (a.new = b.new)) &&
  Jbv Jbr (a.to.map Jbz) (b.to.map Jbz) && Jbv Jbr (a.fin.map Jan.cells) (b.fin.map Jan.cells) && Jbv Jbr (a.fail.map Jaw.cells) (b.fail.map Jaw.cells) && Jbv (fun a b => decide (a = b)) a.which b.which
end Go.Proofs
namespace Go.Ev
open Go
set_option linter.unusedVariables false
set_option linter.unusedSimpArgs false
theorem Klo {z : Value} (n : Nat) : (zrow #[z] n).toList = List.replicate n z := by
  apply List.ext_getElem
  · simp [zrow]
  · intro i h1 h2
    simp [zrow, Nat.mod_one]
theorem Knj {P : Program} {t e : TypeId} {i : TypeInfo} {z : Value} (hu : P.underlying t = some (.slice e)) (hi : P.info? e = some i) (h1 : i.size = 1) (hb : i.bytes ≤ 16) (hz : Jcp P e 1 = some #[z])
    (id n : Nat) (k k2 : IntKind) (σ : St) (hn : n ≤ 1000000000000) : Jcq P t id (.int k (n : Nat)) (.int k2 (n : Nat)) σ = some (.val (.slice (some ⟨id, 0, none⟩) n 2) (σ.set id (.cells true 0 id (List.replicate n z)))) := by
  have hb2 : i.bytes * n ≤ 281474976710656 := by
    have := Nat.mul_le_mul_right n hb
    omega
  unfold Jcq
  simp only [hu]
  show (match P.info? e with | some i => _ | none => none) = _
  rw [hi]
  simp only [h1, Nat.mul_one]
  have hc : (decide (n ≤ n) && decide (n ≤ 9223372036854775807) && decide (i.bytes * n ≤ 281474976710656)) = true := by
    simp only [Bool.and_eq_true, decide_eq_true_eq]; omega
  rw [if_pos hc]
  by_cases h0 : n = 0
  · subst h0
    simp [sliceTo, Jfx, zrow]
  · rw [if_neg h0, hz]
    simp only [sliceTo, Jfx]
    rw [Klo]
theorem Jt3 {P : Program} {t e : TypeId} {z : Value} (hu : P.underlying t = some (.slice e)) (hi : (P.info? e).map (fun i => (i.size, decide (i.bytes ≤ 16))) = some (1, true)) (hz : Jcp P e 1 = some #[z])
    (id n : Nat) (k k2 : IntKind) (σ : St) (hn : n ≤ 1000000000000) : Jcq P t id (.int k (n : Nat)) (.int k2 (n : Nat)) σ = some (.val (.slice (some ⟨id, 0, none⟩) n 2) (σ.set id (.cells true 0 id (List.replicate n z)))) := by
  cases h : P.info? e with
  | none => rw [h] at hi; cases hi
  | some i =>
    rw [h] at hi
    simp only [Option.map_some, Option.some.injEq, Prod.mk.injEq, decide_eq_true_eq] at hi
    exact Knj hu h hi.1 hi.2 hz id n k k2 σ hn
theorem Kfd {a r : List Value} {z x : Value} : lay (a ++ z :: r) a.length [x] = a ++ x :: r := by
  simp [lay]
theorem TF.mono_of {P : Program} {gl : List Nat} {f : FuncId} {args : Array Value} {σ : St} {R K : Value → St → Prop} (h : TF P gl f args σ R) (k : ∀ v τ, R v τ → K v τ) : TF P gl f args σ K := h.mono k
theorem Ja9 {P : Program} {gl : List Nat} {f : FuncId} {args : Array Value} {S : St} {K : Value → St → Prop} (R : St → Prop) (h : R S) (k : ∀ τ, R τ → zTF P gl f args τ K .mk) : zTF P gl f args S K .mk := k S h
theorem Ja3 {P : Program} {gl : List Nat} {f : FuncId} {args : Array Value} {σ : St} {v : Value} {σ' : St} {K : Value → St → Prop} (h : SimF P gl f args σ v σ') (hq : K v σ') : zTF P gl f args σ K .mk := TF.of h hq
theorem Jbc {P : Program} {gl : List Nat} {f : FuncId} {args : Array Value} {σ : St} {R K : Value → St → Prop} (h : TF P gl f args σ R) (k : ∀ v τ, R v τ → K v τ) : zTF P gl f args σ K .mk := h.mono k
end Go.Ev
namespace Go.Proofs
open Go Go.Ev
set_option maxRecDepth 100000
set_option linter.unusedSimpArgs false
set_option linter.unusedVariables false
set_option linter.defProp false
set_option maxHeartbeats 4000000
attribute [local irreducible] zTF Jcf zOp zO zQ1 zQ2 zObj zQ zU zW zCl zRd zLd zPr zIf Jci zC
theorem Wr.keeps {σ σ' : St} {W : Nat} {c : List Value} (h : Wr σ W c) (hk : Jad σ σ') : Wr σ' W c ∧ Jbm W σ σ' ∧ ∀ B, σ.next ≤ B → ¬ OwnB σ' W B := by
  obtain ⟨hlt, v, F, ⟨rfl, hW⟩ | ⟨A, v', F', hW, hA, hne, hl⟩⟩ := h
  · have hget : σ'.get W = some (.cells true v F [.slice none 0 0]) := (hk.get W hlt).trans hW
    have own : ∀ D, OwnB σ' W D → D = W := fun D h => by
      rcases h with h | ⟨v1, F1, l1, k1, h1⟩
      · exact h
      · rw [hget] at h1; cases h1
    have ownF : ∀ D, ¬ OwnF σ' W D := fun D h => by
      obtain ⟨A1, v1, F1, l1, k1, v2, c2, h1, h2⟩ := h
      rw [hget] at h1; cases h1
    exact ⟨⟨Nat.lt_of_lt_of_le hlt hk.next, v, F, .inl ⟨rfl, hget⟩⟩, ⟨hk.next, fun D hD hn => ⟨hk.get D hD, fun h => hn (.inl (own D h))⟩, fun G hG hn => ⟨hk.fam G hG, ownF G⟩⟩, fun B hB h => by have := own B h; omega⟩
  · have hgW : σ'.get W = some (.cells true v F [.slice (some ⟨A, 0, none⟩) c.length 2]) := (hk.get W hlt).trans hW
    have hgA : σ'.get A = some (.cells true v' F' c) := (hk.get A hl).trans hA
    obtain ⟨o1, o2⟩ := Jih hW hA
    obtain ⟨p1, p2⟩ := Jih hgW hgA
    refine ⟨⟨Nat.lt_of_lt_of_le hlt hk.next, v, F, .inr ⟨A, v', F', hgW, hgA, hne, Nat.lt_of_lt_of_le hl hk.next⟩⟩, ⟨hk.next, fun D hD hn => ⟨hk.get D hD, by rw [p1, ← o1]; exact hn⟩, fun G hG hn => ⟨hk.fam G hG, by rw [p2, ← o2]; exact hn⟩⟩, fun B hB => by rw [p1]; omega⟩
structure WNew (W : Nat) (σ0 σ : St) : Prop where
  keeps : Jad σ0 σ
  own : ∀ B, B < σ0.next → ¬ OwnB σ W B
  fam : ∀ F, F < σ0.next → ¬ OwnF σ W F
theorem WNew.step {W : Nat} {σ0 σ σ' : St} (h : WNew W σ0 σ) (k : Jbm W σ σ') : WNew W σ0 σ' :=
  ⟨⟨Nat.le_trans h.keeps.next k.next, fun B hB => (k.get B (Nat.lt_of_lt_of_le hB h.keeps.next) (h.own B hB)).1.trans (h.keeps.get B hB), fun F hF => (k.fam F (Nat.lt_of_lt_of_le hF h.keeps.next) (h.fam F hF)).1.trans (h.keeps.fam F hF)⟩,
    fun B hB => (k.get B (Nat.lt_of_lt_of_le hB h.keeps.next) (h.own B hB)).2, fun F hF => (k.fam F (Nat.lt_of_lt_of_le hF h.keeps.next) (h.fam F hF)).2⟩
theorem Jan.bytes_le {f : Jan} (h : f.Small) : f.bytes.length ≤ 600000 := by
  obtain ⟨h1, h2, h3, h4, h5, h6, h7, h8⟩ := h
  simp only [Jan.bytes, List.length_append, Jbw, Ja4]
  omega
theorem Jc1 {α : Type} {f : α → List Value} {l : List α} {n : Nat} (h : ∀ x ∈ l, (f x).length ≤ n) : (l.flatMap f).length ≤ l.length * n := by
  induction l with
  | nil => simp
  | cons a l ih =>
    have h1 := h a (by simp)
    have h2 := ih fun x hx => h x (by simp [hx])
    rw [List.flatMap_cons, List.length_append, List.length_cons, Nat.add_mul]
    omega
theorem Jso {W : Nat} {c : List Value} (rows : List Jan) (s : Value) (σ0 σ : St) (hw0 : σ0.Wf) (hs : SlR σ0 s 9 (rows.map Jan.cells)) (wn : WNew W σ0 σ) (hw : Wr σ W c) (hsm : ∀ f ∈ rows, f.Small) (hl : rows.length ≤ 150) (hc : c.length < 100000000) :
    TF Tryz.prog [] 104 #[.pointer (some ⟨W, 0, none⟩), s, .func (.func 105) #[.pointer (some ⟨W, 0, none⟩)] #[]] σ fun v σ' => v = .tuple #[] ∧ Wr σ' W (c ++ (numL (rows.length : Nat) 1 ++ rows.flatMap Jan.bytes)) ∧ Jbm W σ σ' := by
  refine TF.walk (Jaf _) Jae Tryz.func104 (by kernel_rfl) rfl fun c hc => ?_
  cases hc
  obtain ⟨b0, k0, e0⟩ := hs.shape
  rw [List.length_map] at e0
  rw [e0]
  simp (maxSteps := 1000000) (disch := first | omega | decide +kernel | (simp only [symN] <;> omega) | assumption) only [Tryz.f104, Jaa, Jac, reduceIte, Nat.reduceEqDiff, Nat.reduceAdd, Nat.reduceMul]
  rw [Jak]
  refine (Jbj (rows.length : Nat) 1 (by decide) _ (hw.bump (n := 4)) (by omega)).mono ?_
  rintro _ τ0 ⟨rfl, w1, k1⟩
  have k1 := (Jbm.bump W 4 σ).trans k1
  simp (maxSteps := 1000000) (disch := first | omega | decide +kernel | (simp only [symN] <;> omega) | assumption) only [Jaa, Jac, reduceIte, Nat.reduceEqDiff, Nat.reduceAdd, Nat.reduceMul]
  rw [← e0]
  refine Jay (Jaf _) Jae (fun kk env τ => ∃ i, i + kk = rows.length ∧ Wr τ W (c ++ (numL (rows.length : Nat) 1 ++ (rows.take i).flatMap Jan.bytes)) ∧ Jbm W σ τ ∧ eget env 12 = s ∧ eget env 13 = .int .i64 (rows.length : Nat) ∧ eget env 14 = .int .i64 (i : Nat) ∧ eget env 2 = .func (.func 105) #[.pointer (some ⟨W, 0, none⟩)] #[]) (n := rows.length) (by kernel_rfl) ?_ ?_
  · refine ⟨0, by omega, ?_, ?_, by simp [Jab], by simp [Jab], by simp [Jab], by simp [Jab]⟩
    · simpa using w1.bump
    · exact k1.trans (Jbm.bump W _ _)
  rintro kk env τ ⟨i, hi, hwr, hkw, e12, e13, e14, e2⟩
  cases kk with
  | zero =>
    have hlt : ((i : Int) < (rows.length : Int)) = False := eq_false (by omega)
    rw [List.take_of_length_le (by omega)] at hwr
    simp (maxSteps := 1000000) (disch := first | omega | decide +kernel | (simp only [symN] <;> omega) | assumption) only [Jaa, Jac, reduceIte, Nat.reduceEqDiff, Nat.reduceAdd, Nat.reduceMul, e12, e13, e14, hlt, decide_false]
    exact ⟨trivial, hwr.bump, hkw.trans (Jbm.bump W _ _)⟩
  | succ kk =>
    have hil : i < rows.length := by omega
    have hlt : ((i : Int) < (rows.length : Int)) = True := eq_true (by omega)
    have hs2 := hs.keeps hw0 (wn.step hkw).keeps
    rcases hs2 with ⟨hnil, _⟩ | ⟨A, o, k, cc, rfl, hcc, hr⟩
    · have e : rows.length = 0 := by simpa using congrArg List.length hnil
      omega
    have hrd : ∀ m, rdG (τ.bump m) (τ.get A) (o + i * 9) 9 = some [.string rows[i].l, .string rows[i].d, .string rows[i].box, .string rows[i].host, .string rows[i].sl, .string rows[i].sd, .string rows[i].vl, .string rows[i].vd, .bool rows[i].owner] := fun m => by
      have := SlR.rd (k := 0) hcc hr (i := i) (by simpa using hil) m
      rw [this]; simp [Jan.cells]
    have ib : ((i : Nat) : Int) < (((rows.map Jan.cells).length : Nat) : Int) := by rw [List.length_map]; omega
    simp (maxSteps := 1000000) (disch := first | omega | decide +kernel | (simp only [symN] <;> omega) | assumption) only [Jaa, Jac, reduceIte, Nat.reduceEqDiff, Nat.reduceAdd, Nat.reduceMul, e12, e13, e14, e2, hlt, decide_true, hrd, ib]
    have hfl : ((rows.take i).flatMap Jan.bytes).length ≤ (rows.take i).length * 600000 := Jc1 fun x hx => Jan.bytes_le (hsm x (List.mem_of_mem_take hx))
    have htl : (rows.take i).length ≤ 150 := by rw [List.length_take]; omega
    rw [Jak]
    refine TF.mono_of (Jvn rows[i] (hsm _ (List.getElem_mem hil)) _ (hwr.keeps (by (repeat (first | exact Jad.refl _ | apply Jad.bump' | apply Jad.setHint | refine Jad.setFam ?_ (by first | omega | (simp <;> omega)) | refine Jad.set ?_ (by first | omega | (simp <;> omega)))))).1 (by simp only [List.length_append, Jap]; omega)) ?_
    rintro _ τ2 ⟨rfl, w2, k2⟩
    have K := (hwr.keeps (by (repeat (first | exact Jad.refl _ | apply Jad.bump' | apply Jad.setHint | refine Jad.setFam ?_ (by first | omega | (simp <;> omega)) | refine Jad.set ?_ (by first | omega | (simp <;> omega)))))).2.1.trans k2
    simp (maxSteps := 1000000) (disch := first | omega | decide +kernel | (simp only [symN] <;> omega) | assumption) only [Jaa, Jac, reduceIte, Nat.reduceEqDiff, Nat.reduceAdd, Nat.reduceMul, e12, e13, e14, e2]
    refine ⟨kk, by omega, i + 1, by omega, ?_, (hkw.trans K).trans (Jbm.bump W _ _), trivial, trivial, by simp, trivial⟩
    rw [List.take_succ_eq_append_getElem hil, List.flatMap_append, ← List.append_assoc (numL _ 1), ← List.append_assoc c]
    simpa using w2.bump
structure Jaw.Small (f : Jaw) : Prop where
  l : f.l.size < 65536
  d : f.d.size < 65536
  text : f.text.size < 65536
  code : -9223372036854775808 ≤ f.code ∧ f.code < 9223372036854775808
theorem Jaw.bytes_le {f : Jaw} (h : f.Small) : f.bytes.length ≤ 600000 := by
  obtain ⟨h1, h2, h3, h4⟩ := h
  simp only [Jaw.bytes, List.length_append, Jbw, Ja4, Jap]
  omega
theorem Jvo {W : Nat} {c : List Value} (f : Jaw) (h : f.Small) (σ : St) (hw : Wr σ W c) (hc : c.length < 200000000) :
    TF Tryz.prog [] 107 #[.pointer (some ⟨W, 0, none⟩), .agg ⟨f.cells⟩] σ fun v σ' => v = .tuple #[] ∧ Wr σ' W (c ++ f.bytes) ∧ Jbm W σ σ' := Jp2 f h.l h.d h.text h.code σ hw hc
def Jnh (p : ByteArray × ByteArray) : Prop := p.1.size < 65536 ∧ p.2.size < 65536
def Jc5 (p : ByteArray × ByteArray) : List Value := Jbd p.1 p.2
theorem Jix {p : ByteArray × ByteArray} (h : Jnh p) : (Jc5 p).length ≤ 600000 := by
  obtain ⟨h1, h2⟩ := h
  simp only [Jc5, Jbw]
  omega
theorem Kc0 {W : Nat} {c : List Value} (f : ByteArray × ByteArray) (h : Jnh f) (σ : St) (hw : Wr σ W c) (hc : c.length < 200000000) :
    TF Tryz.prog [] 108 #[.pointer (some ⟨W, 0, none⟩), .agg ⟨Jbz f⟩] σ fun v σ' => v = .tuple #[] ∧ Wr σ' W (c ++ Jc5 f) ∧ Jbm W σ σ' := Jem f.1 f.2 h.1 h.2 σ hw (by omega)
theorem Jsm {W : Nat} {c : List Value} (rows : List Jaw) (s : Value) (σ0 σ : St) (hw0 : σ0.Wf) (hs : SlR σ0 s 4 (rows.map Jaw.cells)) (wn : WNew W σ0 σ) (hw : Wr σ W c) (hsm : ∀ f ∈ rows, f.Small) (hl : rows.length ≤ 150) (hc : c.length < 100000000) :
    TF Tryz.prog [] 106 #[.pointer (some ⟨W, 0, none⟩), s, .func (.func 107) #[.pointer (some ⟨W, 0, none⟩)] #[]] σ fun v σ' => v = .tuple #[] ∧ Wr σ' W (c ++ (numL (rows.length : Nat) 1 ++ rows.flatMap Jaw.bytes)) ∧ Jbm W σ σ' := by
  refine TF.walk (Jaf _) Jae Tryz.func106 (by kernel_rfl) rfl fun c hc => ?_
  cases hc
  obtain ⟨b0, k0, e0⟩ := hs.shape
  rw [List.length_map] at e0
  rw [e0]
  simp (maxSteps := 1000000) (disch := first | omega | decide +kernel | (simp only [symN] <;> omega) | assumption) only [Tryz.f106, Jaa, Jac, reduceIte, Nat.reduceEqDiff, Nat.reduceAdd, Nat.reduceMul]
  rw [Jak]
  refine (Jbj (rows.length : Nat) 1 (by decide) _ (hw.bump (n := 4)) (by omega)).mono ?_
  rintro _ τ0 ⟨rfl, w1, k1⟩
  have k1 := (Jbm.bump W 4 σ).trans k1
  simp (maxSteps := 1000000) (disch := first | omega | decide +kernel | (simp only [symN] <;> omega) | assumption) only [Jaa, Jac, reduceIte, Nat.reduceEqDiff, Nat.reduceAdd, Nat.reduceMul]
  rw [← e0]
  refine Jay (Jaf _) Jae (fun kk env τ => ∃ i, i + kk = rows.length ∧ Wr τ W (c ++ (numL (rows.length : Nat) 1 ++ (rows.take i).flatMap Jaw.bytes)) ∧ Jbm W σ τ ∧ eget env 12 = s ∧ eget env 13 = .int .i64 (rows.length : Nat) ∧ eget env 14 = .int .i64 (i : Nat) ∧ eget env 2 = .func (.func 107) #[.pointer (some ⟨W, 0, none⟩)] #[]) (n := rows.length) (by kernel_rfl) ?_ ?_
  · refine ⟨0, by omega, ?_, ?_, by simp [Jab], by simp [Jab], by simp [Jab], by simp [Jab]⟩
    · simpa using w1.bump
    · exact k1.trans (Jbm.bump W _ _)
  rintro kk env τ ⟨i, hi, hwr, hkw, e12, e13, e14, e2⟩
  cases kk with
  | zero =>
    have hlt : ((i : Int) < (rows.length : Int)) = False := eq_false (by omega)
    rw [List.take_of_length_le (by omega)] at hwr
    simp (maxSteps := 1000000) (disch := first | omega | decide +kernel | (simp only [symN] <;> omega) | assumption) only [Jaa, Jac, reduceIte, Nat.reduceEqDiff, Nat.reduceAdd, Nat.reduceMul, e12, e13, e14, hlt, decide_false]
    exact ⟨trivial, hwr.bump, hkw.trans (Jbm.bump W _ _)⟩
  | succ kk =>
    have hil : i < rows.length := by omega
    have hlt : ((i : Int) < (rows.length : Int)) = True := eq_true (by omega)
    have hs2 := hs.keeps hw0 (wn.step hkw).keeps
    rcases hs2 with ⟨hnil, _⟩ | ⟨A, o, k, cc, rfl, hcc, hr⟩
    · have e : rows.length = 0 := by simpa using congrArg List.length hnil
      omega
    have hrd : ∀ m, rdG (τ.bump m) (τ.get A) (o + i * 4) 4 = some [.string rows[i].l, .string rows[i].d, .int .i64 rows[i].code, .string rows[i].text] := fun m => by
      have := SlR.rd (k := 0) hcc hr (i := i) (by simpa using hil) m
      rw [this]; simp [Jaw.cells]
    have ib : ((i : Nat) : Int) < (((rows.map Jaw.cells).length : Nat) : Int) := by rw [List.length_map]; omega
    simp (maxSteps := 1000000) (disch := first | omega | decide +kernel | (simp only [symN] <;> omega) | assumption) only [Jaa, Jac, reduceIte, Nat.reduceEqDiff, Nat.reduceAdd, Nat.reduceMul, e12, e13, e14, e2, hlt, decide_true, hrd, ib]
    have hfl : ((rows.take i).flatMap Jaw.bytes).length ≤ (rows.take i).length * 600000 := Jc1 fun x hx => Jaw.bytes_le (hsm x (List.mem_of_mem_take hx))
    have htl : (rows.take i).length ≤ 150 := by rw [List.length_take]; omega
    rw [Jak]
    refine TF.mono_of (Jvo rows[i] (hsm _ (List.getElem_mem hil)) _ (hwr.keeps (by (repeat (first | exact Jad.refl _ | apply Jad.bump' | apply Jad.setHint | refine Jad.setFam ?_ (by first | omega | (simp <;> omega)) | refine Jad.set ?_ (by first | omega | (simp <;> omega)))))).1 (by simp only [List.length_append, Jap]; omega)) ?_
    rintro _ τ2 ⟨rfl, w2, k2⟩
    have K := (hwr.keeps (by (repeat (first | exact Jad.refl _ | apply Jad.bump' | apply Jad.setHint | refine Jad.setFam ?_ (by first | omega | (simp <;> omega)) | refine Jad.set ?_ (by first | omega | (simp <;> omega)))))).2.1.trans k2
    simp (maxSteps := 1000000) (disch := first | omega | decide +kernel | (simp only [symN] <;> omega) | assumption) only [Jaa, Jac, reduceIte, Nat.reduceEqDiff, Nat.reduceAdd, Nat.reduceMul, e12, e13, e14, e2]
    refine ⟨kk, by omega, i + 1, by omega, ?_, (hkw.trans K).trans (Jbm.bump W _ _), trivial, trivial, by simp, trivial⟩
    rw [List.take_succ_eq_append_getElem hil, List.flatMap_append, ← List.append_assoc (numL _ 1), ← List.append_assoc c]
    simpa using w2.bump
theorem Jsk {W : Nat} {c : List Value} (rows : List (ByteArray × ByteArray)) (s : Value) (σ0 σ : St) (hw0 : σ0.Wf) (hs : SlR σ0 s 2 (rows.map Jbz)) (wn : WNew W σ0 σ) (hw : Wr σ W c) (hsm : ∀ f ∈ rows, Jnh f) (hl : rows.length ≤ 150) (hc : c.length < 100000000) :
    TF Tryz.prog [] 109 #[.pointer (some ⟨W, 0, none⟩), s, .func (.func 108) #[.pointer (some ⟨W, 0, none⟩)] #[]] σ fun v σ' => v = .tuple #[] ∧ Wr σ' W (c ++ (numL (rows.length : Nat) 1 ++ rows.flatMap Jc5)) ∧ Jbm W σ σ' := by
  refine TF.walk (Jaf _) Jae Tryz.func109 (by kernel_rfl) rfl fun c hc => ?_
  cases hc
  obtain ⟨b0, k0, e0⟩ := hs.shape
  rw [List.length_map] at e0
  rw [e0]
  simp (maxSteps := 1000000) (disch := first | omega | decide +kernel | (simp only [symN] <;> omega) | assumption) only [Tryz.f109, Jaa, Jac, reduceIte, Nat.reduceEqDiff, Nat.reduceAdd, Nat.reduceMul]
  rw [Jak]
  refine (Jbj (rows.length : Nat) 1 (by decide) _ (hw.bump (n := 4)) (by omega)).mono ?_
  rintro _ τ0 ⟨rfl, w1, k1⟩
  have k1 := (Jbm.bump W 4 σ).trans k1
  simp (maxSteps := 1000000) (disch := first | omega | decide +kernel | (simp only [symN] <;> omega) | assumption) only [Jaa, Jac, reduceIte, Nat.reduceEqDiff, Nat.reduceAdd, Nat.reduceMul]
  rw [← e0]
  refine Jay (Jaf _) Jae (fun kk env τ => ∃ i, i + kk = rows.length ∧ Wr τ W (c ++ (numL (rows.length : Nat) 1 ++ (rows.take i).flatMap Jc5)) ∧ Jbm W σ τ ∧ eget env 12 = s ∧ eget env 13 = .int .i64 (rows.length : Nat) ∧ eget env 14 = .int .i64 (i : Nat) ∧ eget env 2 = .func (.func 108) #[.pointer (some ⟨W, 0, none⟩)] #[]) (n := rows.length) (by kernel_rfl) ?_ ?_
  · refine ⟨0, by omega, ?_, ?_, by simp [Jab], by simp [Jab], by simp [Jab], by simp [Jab]⟩
    · simpa using w1.bump
    · exact k1.trans (Jbm.bump W _ _)
  rintro kk env τ ⟨i, hi, hwr, hkw, e12, e13, e14, e2⟩
  cases kk with
  | zero =>
    have hlt : ((i : Int) < (rows.length : Int)) = False := eq_false (by omega)
    rw [List.take_of_length_le (by omega)] at hwr
    simp (maxSteps := 1000000) (disch := first | omega | decide +kernel | (simp only [symN] <;> omega) | assumption) only [Jaa, Jac, reduceIte, Nat.reduceEqDiff, Nat.reduceAdd, Nat.reduceMul, e12, e13, e14, hlt, decide_false]
    exact ⟨trivial, hwr.bump, hkw.trans (Jbm.bump W _ _)⟩
  | succ kk =>
    have hil : i < rows.length := by omega
    have hlt : ((i : Int) < (rows.length : Int)) = True := eq_true (by omega)
    have hs2 := hs.keeps hw0 (wn.step hkw).keeps
    rcases hs2 with ⟨hnil, _⟩ | ⟨A, o, k, cc, rfl, hcc, hr⟩
    · have e : rows.length = 0 := by simpa using congrArg List.length hnil
      omega
    have hrd : ∀ m, rdG (τ.bump m) (τ.get A) (o + i * 2) 2 = some [.string rows[i].1, .string rows[i].2] := fun m => by
      have := SlR.rd (k := 0) hcc hr (i := i) (by simpa using hil) m
      rw [this]; simp [Jbz, Jbb]
    have ib : ((i : Nat) : Int) < (((rows.map Jbz).length : Nat) : Int) := by rw [List.length_map]; omega
    simp (maxSteps := 1000000) (disch := first | omega | decide +kernel | (simp only [symN] <;> omega) | assumption) only [Jaa, Jac, reduceIte, Nat.reduceEqDiff, Nat.reduceAdd, Nat.reduceMul, e12, e13, e14, e2, hlt, decide_true, hrd, ib]
    have hfl : ((rows.take i).flatMap Jc5).length ≤ (rows.take i).length * 600000 := Jc1 fun x hx => Jix (hsm x (List.mem_of_mem_take hx))
    have htl : (rows.take i).length ≤ 150 := by rw [List.length_take]; omega
    rw [Jak]
    refine TF.mono_of (Kc0 rows[i] (hsm _ (List.getElem_mem hil)) _ (hwr.keeps (by (repeat (first | exact Jad.refl _ | apply Jad.bump' | apply Jad.setHint | refine Jad.setFam ?_ (by first | omega | (simp <;> omega)) | refine Jad.set ?_ (by first | omega | (simp <;> omega)))))).1 (by simp only [List.length_append, Jap]; omega)) ?_
    rintro _ τ2 ⟨rfl, w2, k2⟩
    have K := (hwr.keeps (by (repeat (first | exact Jad.refl _ | apply Jad.bump' | apply Jad.setHint | refine Jad.setFam ?_ (by first | omega | (simp <;> omega)) | refine Jad.set ?_ (by first | omega | (simp <;> omega)))))).2.1.trans k2
    simp (maxSteps := 1000000) (disch := first | omega | decide +kernel | (simp only [symN] <;> omega) | assumption) only [Jaa, Jac, reduceIte, Nat.reduceEqDiff, Nat.reduceAdd, Nat.reduceMul, e12, e13, e14, e2]
    refine ⟨kk, by omega, i + 1, by omega, ?_, (hkw.trans K).trans (Jbm.bump W _ _), trivial, trivial, by simp, trivial⟩
    rw [List.take_succ_eq_append_getElem hil, List.flatMap_append, ← List.append_assoc (numL _ 1), ← List.append_assoc c]
    simpa using w2.bump
def Jbp (z : Int) : List Value := numL z 1
theorem Jsu {W vB FB : Nat} {c : List Value} (z : Int) (PB : Nat) (σ : St) (hw : Wr σ W c) (hPB : σ.get PB = some (.cells true vB FB [.pointer (some ⟨W, 0, none⟩)])) (hc : c.length < 200000000) :
    TF Tryz.prog [] 103 #[.int .i64 z, .pointer (some ⟨PB, 0, none⟩)] σ fun v σ' => v = .tuple #[] ∧ Wr σ' W (c ++ Jbp z) ∧ Jbm W σ σ' := by
  refine TF.walkC (Jaf _) Jae Tryz.func103 (by kernel_rfl) (by show 2 ≤ 6; decide) fun c hc => ?_
  cases hc
  simp (maxSteps := 1000000) (disch := first | omega | decide +kernel | (simp only [symN] <;> omega) | assumption) only [Tryz.f103, Jaa, Jac, reduceIte, Nat.reduceEqDiff, Nat.reduceAdd, Nat.reduceMul, hPB]
  rw [Jak]
  refine TF.mono_of (Jbj z 1 (by decide) _ (hw.bump (n := 3)) (by omega)) ?_
  rintro _ τ ⟨rfl, w1, k1⟩
  simp (maxSteps := 1000000) (disch := first | omega | decide +kernel | (simp only [symN] <;> omega) | assumption) only [Jaa, Jac, reduceIte, Nat.reduceEqDiff, Nat.reduceAdd, Nat.reduceMul]
  exact ⟨trivial, w1, (Jbm.bump W 3 σ).trans k1⟩
theorem Jsp {W vB FB : Nat} {c : List Value} (rows : List Int) (s : Value) (σ0 σ : St) (hw0 : σ0.Wf) (hs : SlR σ0 s 1 (rows.map Ja8)) (wn : WNew W σ0 σ) (hw : Wr σ W c) (PB : Nat) (hPB : σ.get PB = some (.cells true vB FB [.pointer (some ⟨W, 0, none⟩)])) (hPn : PB < σ.next) (hPo : ¬ OwnB σ W PB) (hl : rows.length ≤ 150) (hc : c.length < 100000000) :
    TF Tryz.prog [] 102 #[.pointer (some ⟨W, 0, none⟩), s, .func (.func 103) #[] #[.pointer (some ⟨PB, 0, none⟩)]] σ fun v σ' => v = .tuple #[] ∧ Wr σ' W (c ++ (numL (rows.length : Nat) 1 ++ rows.flatMap Jbp)) ∧ Jbm W σ σ' := by
  refine TF.walk (Jaf _) Jae Tryz.func102 (by kernel_rfl) rfl fun c hc => ?_
  cases hc
  obtain ⟨b0, k0, e0⟩ := hs.shape
  rw [List.length_map] at e0
  rw [e0]
  simp (maxSteps := 1000000) (disch := first | omega | decide +kernel | (simp only [symN] <;> omega) | assumption) only [Tryz.f102, Jaa, Jac, reduceIte, Nat.reduceEqDiff, Nat.reduceAdd, Nat.reduceMul]
  rw [Jak]
  refine (Jbj (rows.length : Nat) 1 (by decide) _ (hw.bump (n := 4)) (by omega)).mono ?_
  rintro _ τ0 ⟨rfl, w1, k1⟩
  have k1 := (Jbm.bump W 4 σ).trans k1
  simp (maxSteps := 1000000) (disch := first | omega | decide +kernel | (simp only [symN] <;> omega) | assumption) only [Jaa, Jac, reduceIte, Nat.reduceEqDiff, Nat.reduceAdd, Nat.reduceMul]
  rw [← e0]
  refine Jay (Jaf _) Jae (fun kk env τ => ∃ i, i + kk = rows.length ∧ Wr τ W (c ++ (numL (rows.length : Nat) 1 ++ (rows.take i).flatMap Jbp)) ∧ Jbm W σ τ ∧ eget env 12 = s ∧ eget env 13 = .int .i64 (rows.length : Nat) ∧ eget env 14 = .int .i64 (i : Nat) ∧ eget env 2 = .func (.func 103) #[] #[.pointer (some ⟨PB, 0, none⟩)]) (n := rows.length) (by kernel_rfl) ?_ ?_
  · refine ⟨0, by omega, ?_, ?_, by simp [Jab], by simp [Jab], by simp [Jab], by simp [Jab]⟩
    · simpa using w1.bump
    · exact k1.trans (Jbm.bump W _ _)
  rintro kk env τ ⟨i, hi, hwr, hkw, e12, e13, e14, e2⟩
  cases kk with
  | zero =>
    have hlt : ((i : Int) < (rows.length : Int)) = False := eq_false (by omega)
    rw [List.take_of_length_le (by omega)] at hwr
    simp (maxSteps := 1000000) (disch := first | omega | decide +kernel | (simp only [symN] <;> omega) | assumption) only [Jaa, Jac, reduceIte, Nat.reduceEqDiff, Nat.reduceAdd, Nat.reduceMul, e12, e13, e14, hlt, decide_false]
    exact ⟨trivial, hwr.bump, hkw.trans (Jbm.bump W _ _)⟩
  | succ kk =>
    have hil : i < rows.length := by omega
    have hlt : ((i : Int) < (rows.length : Int)) = True := eq_true (by omega)
    have hs2 := hs.keeps hw0 (wn.step hkw).keeps
    rcases hs2 with ⟨hnil, _⟩ | ⟨A, o, k, cc, rfl, hcc, hr⟩
    · have e : rows.length = 0 := by simpa using congrArg List.length hnil
      omega
    have hrd : ∀ m, rdG (τ.bump m) (τ.get A) (o + i) 1 = some [.int .i64 rows[i]] := fun m => by
      have := SlR.rd (k := 0) hcc hr (i := i) (by simpa using hil) m
      rw [Nat.mul_one] at this
      rw [this]; simp [Ja8]
    have ib : ((i : Nat) : Int) < (((rows.map Ja8).length : Nat) : Int) := by rw [List.length_map]; omega
    simp (maxSteps := 1000000) (disch := first | omega | decide +kernel | (simp only [symN] <;> omega) | assumption) only [Jaa, Jac, reduceIte, Nat.reduceEqDiff, Nat.reduceAdd, Nat.reduceMul, e12, e13, e14, e2, hlt, decide_true, hrd, ib]
    have hfl : ((rows.take i).flatMap Jbp).length ≤ (rows.take i).length * 600000 := Jc1 fun x hx => by simp [Jbp, Jap]
    have htl : (rows.take i).length ≤ 150 := by rw [List.length_take]; omega
    rw [Jak]
    have hpb := (hkw.get PB hPn hPo)
    refine TF.mono_of (Jsu rows[i] PB _ (hwr.keeps (by (repeat (first | exact Jad.refl _ | apply Jad.bump' | apply Jad.setHint | refine Jad.setFam ?_ (by first | omega | (simp <;> omega)) | refine Jad.set ?_ (by first | omega | (simp <;> omega)))))).1 (hpb.1.trans hPB) (by simp only [List.length_append, Jap]; omega)) ?_
    rintro _ τ2 ⟨rfl, w2, k2⟩
    have K := (hwr.keeps (by (repeat (first | exact Jad.refl _ | apply Jad.bump' | apply Jad.setHint | refine Jad.setFam ?_ (by first | omega | (simp <;> omega)) | refine Jad.set ?_ (by first | omega | (simp <;> omega)))))).2.1.trans k2
    simp (maxSteps := 1000000) (disch := first | omega | decide +kernel | (simp only [symN] <;> omega) | assumption) only [Jaa, Jac, reduceIte, Nat.reduceEqDiff, Nat.reduceAdd, Nat.reduceMul, e12, e13, e14, e2]
    refine ⟨kk, by omega, i + 1, by omega, ?_, (hkw.trans K).trans (Jbm.bump W _ _), trivial, trivial, by simp, trivial⟩
    rw [List.take_succ_eq_append_getElem hil, List.flatMap_append, ← List.append_assoc (numL _ 1), ← List.append_assoc c]
    simpa using w2.bump
theorem Jyl (a : Int) : Jai 279 [.int .i64 a] (.bool false) := by
  refine Ja6 rfl rfl (TF.walk (Jaf _) Jae Tryz.func279 (by kernel_rfl) rfl fun c hc => ?_)
  cases hc
  simp (maxSteps := 1000000) (disch := first | omega | decide +kernel | (simp only [symN] <;> omega) | assumption) only [Tryz.f279, Jaa, Jac, reduceIte, Nat.reduceEqDiff, Nat.reduceAdd, Nat.reduceMul, decide_true, eq_self]
theorem Jvc (a b : Int) : Jai 235 [.int .i64 a, .int .i64 b] (.bool (decide (a < b))) := by
  refine Ja6 rfl rfl (TF.walk (Jaf _) Jae Tryz.func235 (by kernel_rfl) rfl fun c hc => ?_)
  cases hc
  simp (maxSteps := 1000000) (disch := first | omega | decide +kernel | (simp only [symN] <;> omega) | assumption) only [Tryz.f235, Jaa, Jac, reduceIte, Nat.reduceEqDiff, Nat.reduceAdd, Nat.reduceMul]
  rw [Jak]
  refine TF.of (Jyl a _) ?_
  simp (maxSteps := 1000000) (disch := first | omega | decide +kernel | (simp only [symN] <;> omega) | assumption) only [Jaa, Jac, reduceIte, Nat.reduceEqDiff, Nat.reduceAdd, Nat.reduceMul]
def Jcx : List Int → Bool
  | a :: b :: r => !(decide (b < a)) && Jcx (b :: r)
  | _ => true
theorem Jnj : ∀ {l : List Int}, (∀ i (h : i + 1 < l.length), ¬ l[i + 1] < l[i]) → Jcx l = true
  | [], _ => rfl
  | [_], _ => rfl
  | a :: b :: r, h => by
    have h0 := h 0 (by simp)
    have := Jnj (l := b :: r) fun i hi => by
      have := h (i + 1) (by simpa using hi)
      simpa only [List.getElem_cons_succ] using this
    simp only [Jcx, this, Bool.and_true, Bool.not_eq_true', decide_eq_false_iff_not]
    simpa using h0
theorem Jni : ∀ {l : List Int} {i : Nat} (h : i + 1 < l.length), l[i + 1] < l[i] → Jcx l = false
  | a :: b :: r, 0, _, k => by simp only [Jcx]; simp at k; simp [k]
  | a :: b :: r, i + 1, h, k => by
    have := Jni (l := b :: r) (i := i) (by simpa using h) (by simpa only [List.getElem_cons_succ] using k)
    simp only [Jcx, this, Bool.and_false]
theorem Jpl {gl : List Nat} (l : List Int) (s : Value) (σ : St) (hs : SlR σ s 1 (l.map Ja8)) (hl : l.length < 1000000000) :
    TF Tryz.prog [] 197 #[s] σ fun v σ' => v = .bool (Jcx l) ∧ ∃ m, σ' = σ.bump m := by
  refine TF.walk (Jaf _) Jae Tryz.func197 (by kernel_rfl) rfl fun c hc => ?_
  cases hc
  obtain ⟨b0, k0, ea⟩ := hs.shape
  rw [List.length_map] at ea
  rw [ea]
  simp (maxSteps := 1000000) (disch := first | omega | decide +kernel | (simp only [symN] <;> omega) | assumption) only [Tryz.f197, Jaa, Jac, reduceIte, Nat.reduceEqDiff, Nat.reduceAdd, Nat.reduceMul]
  rw [← ea]
  refine Jay (Jaf _) Jae (fun kk env τ => ∃ (i : Int) (m : Nat), kk = i.toNat ∧ -1 ≤ i ∧ i < (l.length : Nat) ∧ τ = σ.bump m ∧ (∀ j (h : j + 1 < l.length), i ≤ (j : Nat) → ¬ l[j + 1] < l[j]) ∧ eget env 0 = s ∧ eget env 3 = .int .i64 i) (n := l.length - 1) (by kernel_rfl) ?_ ?_
  · exact ⟨(l.length : Nat) - 1, _, by omega, by omega, by omega, rfl, fun j h1 h2 => by omega, by simp [Jab], by simp [Jab]⟩
  rintro kk env τ ⟨i, m, hkk, hi1, hi2, rfl, hz, e0, e3⟩
  by_cases hpos : 0 < i
  case neg =>
    have hgt : (i > 0) = False := eq_false (by omega)
    have hgt2 : (0 < i) = False := eq_false (by omega)
    have hall : Jcx l = true := Jnj fun j h => hz j h (by omega)
    simp (maxSteps := 1000000) (disch := first | omega | decide +kernel | (simp only [symN] <;> omega) | assumption) only [Jaa, Jac, reduceIte, Nat.reduceEqDiff, Nat.reduceAdd, Nat.reduceMul, e0, e3, hgt, hgt2, decide_false, hall]
    exact ⟨trivial, _, rfl⟩
  obtain ⟨j, rfl⟩ : ∃ j : Nat, i = ((j + 1 : Nat) : Int) := ⟨i.toNat - 1, by omega⟩
  have hgt : (((j + 1 : Nat) : Int) > 0) = True := eq_true (by omega)
  have hgt2 : (0 < ((j + 1 : Nat) : Int)) = True := eq_true (by omega)
  have hj : j + 1 < l.length := by omega
  have hsub : ((j + 1 : Nat) : Int) - 1 = (j : Nat) := by omega
  rcases hs with ⟨hnil, _⟩ | ⟨A, o, k, c, rfl, hc, hr⟩
  · have e : l.length = 0 := by simpa using congrArg List.length hnil
    omega
  have hrd : ∀ m, rdG (σ.bump m) (σ.get A) (o + (j + 1)) 1 = some [.int .i64 l[j + 1]] := fun m => by
    have := SlR.rd (k := k) hc hr (i := j + 1) (by simpa using hj) m
    simpa [Ja8] using this
  have hrd2 : ∀ m, rdG (σ.bump m) (σ.get A) (o + j) 1 = some [.int .i64 l[j]] := fun m => by
    have := SlR.rd (k := k) hc hr (i := j) (by simp; omega) m
    simpa [Ja8] using this
  have b1 : ((j + 1 : Nat) : Int) < ((l.length : Nat) : Int) := by omega
  have b2 : ((j : Nat) : Int) < ((l.length : Nat) : Int) := by omega
  simp (maxSteps := 1000000) (disch := first | omega | decide +kernel | (simp only [symN] <;> omega) | assumption) only [Jaa, Jac, reduceIte, Nat.reduceEqDiff, Nat.reduceAdd, Nat.reduceMul, e0, e3, hgt, hgt2, decide_true, hsub, hrd, hrd2, b1, b2, List.length_map]
  rw [Jak]
  refine TF.of (Jvc _ _ _) ?_
  by_cases hlt : l[j + 1] < l[j]
  · simp (maxSteps := 1000000) (disch := first | omega | decide +kernel | (simp only [symN] <;> omega) | assumption) only [Jaa, Jac, reduceIte, Nat.reduceEqDiff, Nat.reduceAdd, Nat.reduceMul, e0, e3, hlt, decide_true, Jni hj hlt]
    exact ⟨trivial, _, rfl⟩
  · simp (maxSteps := 1000000) (disch := first | omega | decide +kernel | (simp only [symN] <;> omega) | assumption) only [Jaa, Jac, reduceIte, Nat.reduceEqDiff, Nat.reduceAdd, Nat.reduceMul, e0, e3, hlt, decide_false, hsub]
    refine ⟨j, by omega, ⟨j, _, by omega, by omega, by omega, rfl, fun i h1 h2 => ?_, by simp, by simp⟩⟩
    by_cases e : i = j
    · subst e; exact hlt
    · exact hz i h1 (by omega)
theorem Jsf (n : Int) : Jai 199 [.int .i64 n] (.bool (decide (0 ≤ n) && decide (n < 128))) := by
  refine Ja6 rfl rfl (TF.walk (Jaf _) Jae Tryz.func199 (by kernel_rfl) rfl fun c hc => ?_)
  cases hc
  by_cases h : 0 ≤ n
  · simp (maxSteps := 1000000) (disch := first | omega | decide +kernel | (simp only [symN] <;> omega) | assumption) only [Tryz.f199, Jaa, Jac, reduceIte, Nat.reduceEqDiff, Nat.reduceAdd, Nat.reduceMul, h, Bool.true_and, Bool.false_and]
  · simp (maxSteps := 1000000) (disch := first | omega | decide +kernel | (simp only [symN] <;> omega) | assumption) only [Tryz.f199, Jaa, Jac, reduceIte, Nat.reduceEqDiff, Nat.reduceAdd, Nat.reduceMul, h, Bool.true_and, Bool.false_and]
theorem Jmq {σ : St} {B F g : Nat} {x : Value} {b : Bool} (hB : σ.get B = some (.cells false 0 F [.func (.func g) #[] #[]])) (hF : σ.famO F = none) (hlt : B < σ.next) (hg : ∀ args σ, Jb6 Tryz.prog g args σ = some (.enter g args))
    (hcall : Jai g [x] (.bool b)) :
    TF Tryz.prog [] 237 #[x, .pointer (some ⟨B, 0, none⟩)] σ fun v σ' => v = .bool (!b) := by
  refine TF.walkC (Jaf _) Jae Tryz.func237 (by kernel_rfl) (by show 2 ≤ 8; decide) fun c hc => ?_
  cases hc
  have q1 : (σ.next = B) = False := eq_false (by omega)
  have hrd : ∀ τ : St, τ.famO F = none → rdG τ (some (.cells false 0 F [.func (.func g) #[] #[]])) 0 1 = some [.func (.func g) #[] #[]] := fun τ h => by rw [Jqn h]; simp [sub?]
  have hrd' : ∀ (o : AObj) n m, rdG (((σ.bump n).set σ.next o).bump m) (some (.cells false 0 F [.func (.func g) #[] #[]])) 0 1 = some [.func (.func g) #[] #[]] := fun o n m => hrd _ (by simpa using hF)
  have hrd2 : ∀ m, rdG (σ.bump m) (some (.cells false 0 F [.func (.func g) #[] #[]])) 0 1 = some [.func (.func g) #[] #[]] := fun m => hrd _ (by simpa using hF)
  simp (maxSteps := 1000000) (disch := first | omega | decide +kernel | (simp only [symN] <;> omega) | assumption) only [Tryz.f237, Jaa, Jac, reduceIte, Nat.reduceEqDiff, Nat.reduceAdd, Nat.reduceMul, q1, hB, hrd2, hg]
  rw [Jak]
  refine TF.of (hcall _) ?_
  simp (maxSteps := 1000000) (disch := first | omega | decide +kernel | (simp only [symN] <;> omega) | assumption) only [Jaa, Jac, reduceIte, Nat.reduceEqDiff, Nat.reduceAdd, Nat.reduceMul]
theorem Jlt {σ : St} {B g : Nat} {x : Value} {b : Bool} (hB : σ.cells? B = some [.func (.func g) #[] #[]]) (hx : Ja5 (x) = true) (hg : ∀ args σ, Jb6 Tryz.prog g args σ = some (.enter g args))
    (hcall : Jai g [x] (.bool b)) : SimF Tryz.prog [] 237 #[x, .pointer (some ⟨B, 0, none⟩)] σ (.bool (!b)) σ := by
  obtain ⟨v, σ', hs, rfl⟩ := Jmq (σ := roSt 1000 0 [(0, [.func (.func g) #[] #[]])]) (B := 0) (F := 0) (Jfh (by simp) (by simp)) Jdz (by rw [Jdy]; decide) hg hcall
  refine hs.ro (ρ := fun A => if A = 0 then some (B, 0) else none) (by simp) (by simp) ⟨[.func (.func g) #[] #[]], by simp⟩ (fun A B' d h => ?_) (fun b hb => by simp at hb) ?_ (.flat rfl)
  · split at h
    · rename_i e; subst e; cases h
      exact ⟨[.func (.func g) #[] #[]], [.func (.func g) #[] #[]], by simp, hB, .flat (by simp) (by simp) (by simp [Ja5, flat0])⟩
    · cases h
  · refine ⟨rfl, fun i h h' => ?_⟩
    have hi : i = 0 ∨ i = 1 := by simp at h; omega
    rcases hi with rfl | rfl
    · exact .flat hx
    · exact .ptr 0 B 0 0 (by simp)
def Kik := Jas (P := Tryz.prog) Tryz.func237 (by kernel_rfl) (by kernel_rfl)
theorem Jmr {g : Nat} (rows : List Value) (p : Value → Bool) (s : Value) (least most : Nat) (σb σ : St) (hwf : σb.Wf) (hkb : Jad σb σ) (hs : SlR σb s 1 (rows.map fun v => [v])) (hl : rows.length < 1000000000) (hg : ∀ args σ, Jb6 Tryz.prog g args σ = some (.enter g args))
    (hflat : ∀ i (h : i < rows.length), Ja5 rows[i] = true) (hcall : ∀ i (h : i < rows.length), Jai g [rows[i]] (.bool (p rows[i]))) :
    TF Tryz.prog [] 198 #[s, .int .i64 (least : Nat), .int .i64 (most : Nat), .func (.func g) #[] #[]] σ fun v σ' => v = .bool (decide (least ≤ rows.length) && decide (rows.length ≤ most) && rows.all p) ∧ Jad σ σ' := by
  refine TF.walk (Jaf _) Jae Tryz.func198 (by kernel_rfl) rfl fun c hc => ?_
  cases hc
  obtain ⟨b0, k0, e0⟩ := hs.shape
  rw [List.length_map] at e0
  have e1 : decide (((least : Nat) : Int) ≤ ((rows.length : Nat) : Int)) = decide (least ≤ rows.length) := by congr 1; exact propext (by omega)
  have e2 : decide (((rows.length : Nat) : Int) ≤ ((most : Nat) : Int)) = decide (rows.length ≤ most) := by congr 1; exact propext (by omega)
  by_cases h1 : least ≤ rows.length
  · by_cases h2 : rows.length ≤ most
    · rw [e0]
      simp (maxSteps := 1000000) (disch := first | omega | decide +kernel | (simp only [symN] <;> omega) | assumption) only [Tryz.f198, Jaa, Jac, reduceIte, Nat.reduceEqDiff, Nat.reduceAdd, Nat.reduceMul, e1, e2, h1, h2, decide_true, Bool.true_and]
      rw [← e0, Jak]
      refine (Jp5 (g := 237) (caps := [.pointer (some ⟨σ.next, 0, none⟩)]) rows (fun r => !p r) s _ (hs.keeps hwf (hkb.trans (by (repeat (first | exact Jad.refl _ | apply Jad.bump' | apply Jad.setHint | refine Jad.setFam ?_ (by first | omega | (simp <;> omega)) | refine Jad.set ?_ (by first | omega | (simp <;> omega))))))) hl (fun args σ => Kik args σ) fun i hi m => ?_).mono ?_
      · have hf := hflat i hi
        have hb := hcall i hi
        exact Jlt (g := g) (by simp [St.cells?, St.rd]) hf hg hb
      · rintro _ _ ⟨m, rfl, rfl⟩
        have hall : rows.all p = !rows.any (fun r => !p r) := by rw [Bool.eq_iff_iff]; simp
        simp (maxSteps := 1000000) (disch := first | omega | decide +kernel | (simp only [symN] <;> omega) | assumption) only [Jaa, Jac, reduceIte, Nat.reduceEqDiff, Nat.reduceAdd, Nat.reduceMul, hall]
        first | exact ⟨by simp [h1, h2], by (repeat (first | exact Jad.refl _ | apply Jad.bump' | apply Jad.setHint | refine Jad.setFam ?_ (by first | omega | (simp <;> omega)) | refine Jad.set ?_ (by first | omega | (simp <;> omega))))⟩ | exact by (repeat (first | exact Jad.refl _ | apply Jad.bump' | apply Jad.setHint | refine Jad.setFam ?_ (by first | omega | (simp <;> omega)) | refine Jad.set ?_ (by first | omega | (simp <;> omega))))
    · rw [e0]
      simp (maxSteps := 1000000) (disch := first | omega | decide +kernel | (simp only [symN] <;> omega) | assumption) only [Tryz.f198, Jaa, Jac, reduceIte, Nat.reduceEqDiff, Nat.reduceAdd, Nat.reduceMul, e1, e2, h1, h2, Bool.true_and, Bool.false_and]
      first | exact ⟨by simp [h1, h2], by (repeat (first | exact Jad.refl _ | apply Jad.bump' | apply Jad.setHint | refine Jad.setFam ?_ (by first | omega | (simp <;> omega)) | refine Jad.set ?_ (by first | omega | (simp <;> omega))))⟩ | exact by (repeat (first | exact Jad.refl _ | apply Jad.bump' | apply Jad.setHint | refine Jad.setFam ?_ (by first | omega | (simp <;> omega)) | refine Jad.set ?_ (by first | omega | (simp <;> omega))))
  · rw [e0]
    simp (maxSteps := 1000000) (disch := first | omega | decide +kernel | (simp only [symN] <;> omega) | assumption) only [Tryz.f198, Jaa, Jac, reduceIte, Nat.reduceEqDiff, Nat.reduceAdd, Nat.reduceMul, e1, e2, h1, decide_false, Bool.false_and]
    first | exact ⟨by simp [h1], by (repeat (first | exact Jad.refl _ | apply Jad.bump' | apply Jad.setHint | refine Jad.setFam ?_ (by first | omega | (simp <;> omega)) | refine Jad.set ?_ (by first | omega | (simp <;> omega))))⟩ | exact by (repeat (first | exact Jad.refl _ | apply Jad.bump' | apply Jad.setHint | refine Jad.setFam ?_ (by first | omega | (simp <;> omega)) | refine Jad.set ?_ (by first | omega | (simp <;> omega))))
end Go.Proofs
