/-
  Facts on this program's types and calls, for rewriting. No condition.
-/
import Derived.Test.YtedojhheppepdaaGreatDoorChecked
import Derived.Test.YtedojhheppepdaaGreatDoorKEv34TEv38
import Derived.KernelRfl

namespace Go.Proofs
open Go Go.Ev
set_option maxRecDepth 100000
set_option linter.unusedSimpArgs false
set_option linter.defProp false

def Tryz.ld30 := ld_agg (P := Tryz.prog) (t := 30) (n := 13) (by kernel_rfl)
def Tryz.c12 := call_b (P := Tryz.prog) Tryz.func12 (by kernel_rfl) (by kernel_rfl)
theorem Tryz.s30 : sz? Tryz.prog 30 = some 13 := by kernel_rfl
def Tryz.st30 := st_n (P := Tryz.prog) (t := 30) Tryz.s30
def Tryz.c13 := call_b (P := Tryz.prog) Tryz.func13 (by kernel_rfl) (by kernel_rfl)
def Tryz.c15 := call_b (P := Tryz.prog) Tryz.func15 (by kernel_rfl) (by kernel_rfl)
def Tryz.c14 := call_b (P := Tryz.prog) Tryz.func14 (by kernel_rfl) (by kernel_rfl)
def Tryz.c16 := call_b (P := Tryz.prog) Tryz.func16 (by kernel_rfl) (by kernel_rfl)
def Tryz.c17 := call_b (P := Tryz.prog) Tryz.func17 (by kernel_rfl) (by kernel_rfl)
theorem Tryz.u4 : Tryz.prog.underlying 4 = some .bool := by kernel_rfl
def Tryz.eb4 := And.intro (fun (x y : Operand) (σ : St) (a b : Bool) => sBin_eqlB (P := Tryz.prog) (t := 4) (x := x) (y := y) (σ := σ) (a := a) (b := b) Tryz.u4) (fun (x y : Operand) (σ : St) (a b : Bool) => sBin_neqB (P := Tryz.prog) (t := 4) (x := x) (y := y) (σ := σ) (a := a) (b := b) Tryz.u4)
def Tryz.c18 := call_b (P := Tryz.prog) Tryz.func18 (by kernel_rfl) (by kernel_rfl)
def Tryz.c19 := call_b (P := Tryz.prog) Tryz.func19 (by kernel_rfl) (by kernel_rfl)
theorem Tryz.u32 : Tryz.prog.underlying 32 = some (.slice 5) := by kernel_rfl
def Tryz.ln32 := o_lenSlice (P := Tryz.prog) (t := 32) Tryz.u32
theorem Tryz.s5 : sz? Tryz.prog 5 = some 1 := by kernel_rfl
def Tryz.sl32 := And.intro (sl_slice (P := Tryz.prog) (t := 32) Tryz.u32 Tryz.s5) (fun (k : IntKind) (i : Int) (σ : St) => nil_hi (P := Tryz.prog) (t := 32) (k := k) (i := i) (σ := σ) Tryz.u32 Tryz.s5)
def Tryz.c20 := call_b (P := Tryz.prog) Tryz.func20 (by kernel_rfl) (by kernel_rfl)
theorem Tryz.z30 : zero? Tryz.prog 30 = some (.agg #[.int .u8 0, .int .u32 0, .int .i64 0, .string ⟨#[]⟩, .string ⟨#[]⟩, .slice none 0 0, .string ⟨#[]⟩, .slice none 0 0, .slice none 0 0, .slice none 0 0, .int .u8 0, .int .i64 0, .int .u32 0]) := by kernel_rfl
def Tryz.c21 := call_b (P := Tryz.prog) Tryz.func21 (by kernel_rfl) (by kernel_rfl)
theorem Tryz.z43 : zero? Tryz.prog 43 = some (.agg #[.int .i64 0, .int .u32 0, .int .i64 0, .string ⟨#[]⟩, .string ⟨#[]⟩, .slice none 0 0, .string ⟨#[]⟩, .slice none 0 0, .slice none 0 0, .slice none 0 0, .int .i64 0, .int .i64 0, .int .u32 0]) := by kernel_rfl
theorem Tryz.s43 : sz? Tryz.prog 43 = some 13 := by kernel_rfl
def Tryz.st43 := st_n (P := Tryz.prog) (t := 43) Tryz.s43
def Tryz.ld43 := ld_agg (P := Tryz.prog) (t := 43) (n := 13) (by kernel_rfl)
def Tryz.c22 := call_b (P := Tryz.prog) Tryz.func22 (by kernel_rfl) (by kernel_rfl)
def Tryz.c65 := call_b (P := Tryz.prog) Tryz.func65 (by kernel_rfl) (by kernel_rfl)
def Tryz.c66 := call_b (P := Tryz.prog) Tryz.func66 (by kernel_rfl) (by kernel_rfl)
theorem Tryz.u5 : Tryz.prog.underlying 5 = some (.int .u8) := by kernel_rfl
theorem Tryz.u3 : Tryz.prog.underlying 3 = some (.int .i64) := by kernel_rfl
def Tryz.cv5_3 := And.intro (cv_int (P := Tryz.prog) (s := 5) (e := 3) Tryz.u5) (cvi (P := Tryz.prog) (s := 5) (e := 3) Tryz.u5 Tryz.u3)
def Tryz.cv3_5 := And.intro (cv_int (P := Tryz.prog) (s := 3) (e := 5) Tryz.u3) (cvi (P := Tryz.prog) (s := 3) (e := 5) Tryz.u3 Tryz.u5)
theorem Tryz.zc5 : zcells? Tryz.prog 5 1 = some #[.int .u8 0] := by kernel_rfl
theorem Tryz.bs32_1 (id : Nat) (σ : St) (v0 : Value) (h0 : v0.cells = #[v0]) : opBuildSlice Tryz.prog 32 1 id ⟨[(0, v0)]⟩ σ = some (.val (.slice (some ⟨id, 0, none⟩) 1 2) (σ.set id (.cells true 0 id [v0]))) := by
  simp [opBuildSlice, Tryz.u32, Tryz.s5, Tryz.zc5, Instr.fill, cells_agg, zrow, sliceTo, opNew, h0, show List.range 1 = [0] from rfl]
theorem Tryz.u9 : Tryz.prog.underlying 9 = some .string := by kernel_rfl
def Tryz.cv32_9 := cv_bs (P := Tryz.prog) (s := 32) (e := 9) Tryz.u32 Tryz.u9 Tryz.u5
theorem Tryz.z24 : zero? Tryz.prog 24 = some (.agg #[.string ⟨#[]⟩, .string ⟨#[]⟩]) := by kernel_rfl
theorem Tryz.pl24 : places? Tryz.prog 24 = some (fun i => (#[(0, 1), (1, 1)] : Array (Nat × Nat))[i]?) := by kernel_rfl
theorem Tryz.bu24_0_1 (v0 : Value) (v1 : Value) (h0 : v0.cells = #[v0]) (h1 : v1.cells = #[v1]) : opBuild Tryz.prog 24 ⟨[(0, v0), (1, v1)]⟩ = some (.agg ⟨[v0, v1]⟩) := by
  simp [opBuild, Tryz.z24, Tryz.pl24, Instr.fill, cells_agg, h0, h1]
theorem Tryz.z58 : zero? Tryz.prog 58 = some (.agg #[.string ⟨#[]⟩, .string ⟨#[]⟩, .int .i64 0, .string ⟨#[]⟩]) := by kernel_rfl
theorem Tryz.pl58 : places? Tryz.prog 58 = some (fun i => (#[(0, 2), (2, 1), (3, 1)] : Array (Nat × Nat))[i]?) := by kernel_rfl
theorem Tryz.bu58_0_1_2 (v0_0 v0_1 : Value) (v1 : Value) (v2 : Value) (h1 : v1.cells = #[v1]) (h2 : v2.cells = #[v2]) : opBuild Tryz.prog 58 ⟨[(0, .agg ⟨[v0_0, v0_1]⟩), (1, v1), (2, v2)]⟩ = some (.agg ⟨[v0_0, v0_1, v1, v2]⟩) := by
  simp [opBuild, Tryz.z58, Tryz.pl58, Instr.fill, cells_agg, h1, h2]
theorem Tryz.zc58 : zcells? Tryz.prog 58 4 = some #[.string ⟨#[]⟩, .string ⟨#[]⟩, .int .i64 0, .string ⟨#[]⟩] := by kernel_rfl
theorem Tryz.u27 : Tryz.prog.underlying 27 = some (.slice 58) := by kernel_rfl
theorem Tryz.s58 : sz? Tryz.prog 58 = some 4 := by kernel_rfl
theorem Tryz.bs27_1 (id : Nat) (σ : St) (v0_0 v0_1 v0_2 v0_3 : Value)  : opBuildSlice Tryz.prog 27 1 id ⟨[(0, .agg ⟨[v0_0, v0_1, v0_2, v0_3]⟩)]⟩ σ = some (.val (.slice (some ⟨id, 0, none⟩) 1 5) (σ.set id (.cells true 0 id [v0_0, v0_1, v0_2, v0_3]))) := by
  simp [opBuildSlice, Tryz.u27, Tryz.s58, Tryz.zc58, Instr.fill, cells_agg, zrow, sliceTo, opNew, show List.range 4 = [0, 1, 2, 3] from rfl]
theorem Tryz.in58_is : (Tryz.prog.info? 58).isSome = true := by kernel_rfl
noncomputable def Tryz.in58 : TypeInfo := (Tryz.prog.info? 58).get Tryz.in58_is
theorem Tryz.in58_eq : Tryz.prog.info? 58 = some Tryz.in58 := (Option.some_get Tryz.in58_is).symm
theorem Tryz.in58_size : Tryz.in58.size = 4 := by kernel_rfl
theorem Tryz.in58_bytes : Tryz.in58.bytes = 56 := by kernel_rfl
def Tryz.ap27_27 := ap (P := Tryz.prog) (sT := 27) (xT := 27) (i := Tryz.in58) Tryz.u27 Tryz.in58_eq Tryz.zc58
def Tryz.as27 := And.intro (fun (i : TypeInfo) (z : Array Value) (σ : St) (B o n k : Nat) (h0 : n ≠ 0) => aps_slice (P := Tryz.prog) (xT := 27) (i := i) (z := z) (σ := σ) (B := B) (o := o) (n := n) (k := k) Tryz.u27 h0) (fun (i : TypeInfo) (z : Array Value) (σ : St) => aps_nil (P := Tryz.prog) (xT := 27) (i := i) (z := z) (σ := σ) Tryz.u27)
theorem Tryz.zc3 : zcells? Tryz.prog 3 1 = some #[.int .i64 0] := by kernel_rfl
theorem Tryz.u28 : Tryz.prog.underlying 28 = some (.slice 3) := by kernel_rfl
theorem Tryz.s3 : sz? Tryz.prog 3 = some 1 := by kernel_rfl
theorem Tryz.bs28_1 (id : Nat) (σ : St) (v0 : Value) (h0 : v0.cells = #[v0]) : opBuildSlice Tryz.prog 28 1 id ⟨[(0, v0)]⟩ σ = some (.val (.slice (some ⟨id, 0, none⟩) 1 2) (σ.set id (.cells true 0 id [v0]))) := by
  simp [opBuildSlice, Tryz.u28, Tryz.s3, Tryz.zc3, Instr.fill, cells_agg, zrow, sliceTo, opNew, h0, show List.range 1 = [0] from rfl]
theorem Tryz.in3_is : (Tryz.prog.info? 3).isSome = true := by kernel_rfl
noncomputable def Tryz.in3 : TypeInfo := (Tryz.prog.info? 3).get Tryz.in3_is
theorem Tryz.in3_eq : Tryz.prog.info? 3 = some Tryz.in3 := (Option.some_get Tryz.in3_is).symm
theorem Tryz.in3_size : Tryz.in3.size = 1 := by kernel_rfl
theorem Tryz.in3_bytes : Tryz.in3.bytes = 8 := by kernel_rfl
def Tryz.ap28_28 := ap (P := Tryz.prog) (sT := 28) (xT := 28) (i := Tryz.in3) Tryz.u28 Tryz.in3_eq Tryz.zc3
def Tryz.as28 := And.intro (fun (i : TypeInfo) (z : Array Value) (σ : St) (B o n k : Nat) (h0 : n ≠ 0) => aps_slice (P := Tryz.prog) (xT := 28) (i := i) (z := z) (σ := σ) (B := B) (o := o) (n := n) (k := k) Tryz.u28 h0) (fun (i : TypeInfo) (z : Array Value) (σ : St) => aps_nil (P := Tryz.prog) (xT := 28) (i := i) (z := z) (σ := σ) Tryz.u28)
def Tryz.c68 := call_b (P := Tryz.prog) Tryz.func68 (by kernel_rfl) (by kernel_rfl)
def Tryz.c67 := call_b (P := Tryz.prog) Tryz.func67 (by kernel_rfl) (by kernel_rfl)
theorem Tryz.pl30 : places? Tryz.prog 30 = some (fun i => (#[(0, 1), (1, 1), (2, 1), (3, 2), (5, 1), (6, 1), (7, 1), (8, 1), (9, 1), (10, 1), (11, 1), (12, 1)] : Array (Nat × Nat))[i]?) := by kernel_rfl
theorem Tryz.bu30_0_1_7 (v0 : Value) (v1 : Value) (v2 : Value) (h0 : v0.cells = #[v0]) (h1 : v1.cells = #[v1]) (h2 : v2.cells = #[v2]) : opBuild Tryz.prog 30 ⟨[(0, v0), (1, v1), (7, v2)]⟩ = some (.agg ⟨[v0, v1, .int .i64 0, .string ⟨#[]⟩, .string ⟨#[]⟩, .slice none 0 0, .string ⟨#[]⟩, .slice none 0 0, v2, .slice none 0 0, .int .u8 0, .int .i64 0, .int .u32 0]⟩) := by
  simp [opBuild, Tryz.z30, Tryz.pl30, Instr.fill, cells_agg, h0, h1, h2]
theorem Tryz.zc24 : zcells? Tryz.prog 24 2 = some #[.string ⟨#[]⟩, .string ⟨#[]⟩] := by kernel_rfl
theorem Tryz.u25 : Tryz.prog.underlying 25 = some (.slice 24) := by kernel_rfl
theorem Tryz.s24 : sz? Tryz.prog 24 = some 2 := by kernel_rfl
theorem Tryz.bs25_1 (id : Nat) (σ : St) (v0_0 v0_1 : Value)  : opBuildSlice Tryz.prog 25 1 id ⟨[(0, .agg ⟨[v0_0, v0_1]⟩)]⟩ σ = some (.val (.slice (some ⟨id, 0, none⟩) 1 3) (σ.set id (.cells true 0 id [v0_0, v0_1]))) := by
  simp [opBuildSlice, Tryz.u25, Tryz.s24, Tryz.zc24, Instr.fill, cells_agg, zrow, sliceTo, opNew, show List.range 2 = [0, 1] from rfl]
theorem Tryz.bu30_0_1_2_8_11_4_5 (v0 : Value) (v1 : Value) (v2 : Value) (v3 : Value) (v4 : Value) (v5 : Value) (v6 : Value) (h0 : v0.cells = #[v0]) (h1 : v1.cells = #[v1]) (h2 : v2.cells = #[v2]) (h3 : v3.cells = #[v3]) (h4 : v4.cells = #[v4]) (h5 : v5.cells = #[v5]) (h6 : v6.cells = #[v6]) : opBuild Tryz.prog 30 ⟨[(0, v0), (1, v1), (2, v2), (8, v3), (11, v4), (4, v5), (5, v6)]⟩ = some (.agg ⟨[v0, v1, v2, .string ⟨#[]⟩, .string ⟨#[]⟩, v5, v6, .slice none 0 0, .slice none 0 0, v3, .int .u8 0, .int .i64 0, v4]⟩) := by
  simp [opBuild, Tryz.z30, Tryz.pl30, Instr.fill, cells_agg, h0, h1, h2, h3, h4, h5, h6]
def Tryz.c69 := call_b (P := Tryz.prog) Tryz.func69 (by kernel_rfl) (by kernel_rfl)
def Tryz.c70 := call_b (P := Tryz.prog) Tryz.func70 (by kernel_rfl) (by kernel_rfl)
def Tryz.c71 := call_b (P := Tryz.prog) Tryz.func71 (by kernel_rfl) (by kernel_rfl)
def Tryz.c72 := call_b (P := Tryz.prog) Tryz.func72 (by kernel_rfl) (by kernel_rfl)
theorem Tryz.u69 : Tryz.prog.underlying 69 = some (.int .u16) := by kernel_rfl
def Tryz.cv69_3 := And.intro (cv_int (P := Tryz.prog) (s := 69) (e := 3) Tryz.u69) (cvi (P := Tryz.prog) (s := 69) (e := 3) Tryz.u69 Tryz.u3)
def Tryz.c73 := call_b (P := Tryz.prog) Tryz.func73 (by kernel_rfl) (by kernel_rfl)
def Tryz.c74 := call_b (P := Tryz.prog) Tryz.func74 (by kernel_rfl) (by kernel_rfl)
theorem Tryz.z85 : zero? Tryz.prog 85 = some (.agg #[.int .u32 0, .int .i64 0, .string ⟨#[]⟩, .string ⟨#[]⟩, .slice none 0 0, .string ⟨#[]⟩, .bool false, .slice none 0 0, .slice none 0 0, .slice none 0 0]) := by kernel_rfl
theorem Tryz.s85 : sz? Tryz.prog 85 = some 10 := by kernel_rfl
def Tryz.st85 := st_n (P := Tryz.prog) (t := 85) Tryz.s85
def Tryz.fa85_8 := fa_of (P := Tryz.prog) (s := 85) (f := 8) (off := 9) (by kernel_rfl)
def Tryz.ld83 := ld_one (P := Tryz.prog) (t := 83) (by kernel_rfl)
theorem Tryz.u83 : Tryz.prog.underlying 83 = some (.slice 89) := by kernel_rfl
def Tryz.ln83 := o_lenSlice (P := Tryz.prog) (t := 83) Tryz.u83
def Tryz.fa85_2 := fa_of (P := Tryz.prog) (s := 85) (f := 2) (off := 2) (by kernel_rfl)
def Tryz.ld24 := ld_agg (P := Tryz.prog) (t := 24) (n := 2) (by kernel_rfl)
theorem Tryz.bu24_   : opBuild Tryz.prog 24 ⟨[]⟩ = some (.agg ⟨[.string ⟨#[]⟩, .string ⟨#[]⟩]⟩) := by
  simp [opBuild, Tryz.z24, Tryz.pl24, Instr.fill, cells_agg]
def Tryz.fa85_4 := fa_of (P := Tryz.prog) (s := 85) (f := 4) (off := 5) (by kernel_rfl)
def Tryz.ld9 := ld_one (P := Tryz.prog) (t := 9) (by kernel_rfl)
def Tryz.fa85_1 := fa_of (P := Tryz.prog) (s := 85) (f := 1) (off := 1) (by kernel_rfl)
def Tryz.ld2 := ld_one (P := Tryz.prog) (t := 2) (by kernel_rfl)
def Tryz.fa85_5 := fa_of (P := Tryz.prog) (s := 85) (f := 5) (off := 6) (by kernel_rfl)
def Tryz.ld4 := ld_one (P := Tryz.prog) (t := 4) (by kernel_rfl)
theorem Tryz.s89 : sz? Tryz.prog 89 = some 3 := by kernel_rfl
def Tryz.ia83 := ia_slice (P := Tryz.prog) (t := 83) Tryz.u83 Tryz.s89
def Tryz.ld89 := ld_agg (P := Tryz.prog) (t := 89) (n := 3) (by kernel_rfl)
theorem Tryz.z89 : zero? Tryz.prog 89 = some (.agg #[.int .u8 0, .int .i64 0, .int .i64 0]) := by kernel_rfl
def Tryz.st89 := st_n (P := Tryz.prog) (t := 89) Tryz.s89
def Tryz.fa89_0 := fa_of (P := Tryz.prog) (s := 89) (f := 0) (off := 0) (by kernel_rfl)
def Tryz.ld5 := ld_one (P := Tryz.prog) (t := 5) (by kernel_rfl)
def Tryz.c75 := call_b (P := Tryz.prog) Tryz.func75 (by kernel_rfl) (by kernel_rfl)
def Tryz.c77 := call_b (P := Tryz.prog) Tryz.func77 (by kernel_rfl) (by kernel_rfl)
def Tryz.c76 := call_b (P := Tryz.prog) Tryz.func76 (by kernel_rfl) (by kernel_rfl)
def Tryz.c79 := call_b (P := Tryz.prog) Tryz.func79 (by kernel_rfl) (by kernel_rfl)
def Tryz.ln28 := o_lenSlice (P := Tryz.prog) (t := 28) Tryz.u28
def Tryz.c80 := call_b (P := Tryz.prog) Tryz.func80 (by kernel_rfl) (by kernel_rfl)
def Tryz.c81 := call_b (P := Tryz.prog) Tryz.func81 (by kernel_rfl) (by kernel_rfl)
theorem Tryz.u97 : Tryz.prog.underlying 97 = some (.slice 100) := by kernel_rfl
def Tryz.ln97 := o_lenSlice (P := Tryz.prog) (t := 97) Tryz.u97
theorem Tryz.s100 : sz? Tryz.prog 100 = some 17 := by kernel_rfl
def Tryz.ia97 := ia_slice (P := Tryz.prog) (t := 97) Tryz.u97 Tryz.s100
def Tryz.ld100 := ld_agg (P := Tryz.prog) (t := 100) (n := 17) (by kernel_rfl)
theorem Tryz.z100 : zero? Tryz.prog 100 = some (.agg #[.int .i64 0, .int .i64 0, .int .u8 0, .int .u32 0, .int .i64 0, .string ⟨#[]⟩, .string ⟨#[]⟩, .slice none 0 0, .string ⟨#[]⟩, .slice none 0 0, .slice none 0 0, .slice none 0 0, .int .u8 0, .int .i64 0, .int .u32 0, .slice none 0 0, .bool false]) := by kernel_rfl
def Tryz.st100 := st_n (P := Tryz.prog) (t := 100) Tryz.s100
def Tryz.fa100_0 := fa_of (P := Tryz.prog) (s := 100) (f := 0) (off := 0) (by kernel_rfl)
def Tryz.ld3 := ld_one (P := Tryz.prog) (t := 3) (by kernel_rfl)
def Tryz.c83 := call_b (P := Tryz.prog) Tryz.func83 (by kernel_rfl) (by kernel_rfl)
def Tryz.c82 := call_b (P := Tryz.prog) Tryz.func82 (by kernel_rfl) (by kernel_rfl)
def Tryz.c84 := call_b (P := Tryz.prog) Tryz.func84 (by kernel_rfl) (by kernel_rfl)
def Tryz.fa100_3 := fa_of (P := Tryz.prog) (s := 100) (f := 3) (off := 15) (by kernel_rfl)
def Tryz.ld28 := ld_one (P := Tryz.prog) (t := 28) (by kernel_rfl)
def Tryz.fa100_1 := fa_of (P := Tryz.prog) (s := 100) (f := 1) (off := 1) (by kernel_rfl)
def Tryz.c85 := call_b (P := Tryz.prog) Tryz.func85 (by kernel_rfl) (by kernel_rfl)
def Tryz.c86 := call_b (P := Tryz.prog) Tryz.func86 (by kernel_rfl) (by kernel_rfl)
theorem Tryz.u92 : Tryz.prog.underlying 92 = some (.slice 85) := by kernel_rfl
def Tryz.ln92 := o_lenSlice (P := Tryz.prog) (t := 92) Tryz.u92
def Tryz.ia92 := ia_slice (P := Tryz.prog) (t := 92) Tryz.u92 Tryz.s85
def Tryz.ld85 := ld_agg (P := Tryz.prog) (t := 85) (n := 10) (by kernel_rfl)
def Tryz.fa85_0 := fa_of (P := Tryz.prog) (s := 85) (f := 0) (off := 0) (by kernel_rfl)
def Tryz.ld22 := ld_one (P := Tryz.prog) (t := 22) (by kernel_rfl)
def Tryz.c87 := call_b (P := Tryz.prog) Tryz.func87 (by kernel_rfl) (by kernel_rfl)
def Tryz.fa85_6 := fa_of (P := Tryz.prog) (s := 85) (f := 6) (off := 7) (by kernel_rfl)
def Tryz.ld26 := ld_one (P := Tryz.prog) (t := 26) (by kernel_rfl)
theorem Tryz.u26 : Tryz.prog.underlying 26 = some (.slice 56) := by kernel_rfl
def Tryz.ln26 := o_lenSlice (P := Tryz.prog) (t := 26) Tryz.u26
def Tryz.fa85_7 := fa_of (P := Tryz.prog) (s := 85) (f := 7) (off := 8) (by kernel_rfl)
def Tryz.ld27 := ld_one (P := Tryz.prog) (t := 27) (by kernel_rfl)
def Tryz.ln27 := o_lenSlice (P := Tryz.prog) (t := 27) Tryz.u27
theorem Tryz.u105 : Tryz.prog.underlying 105 = some (.slice 22) := by kernel_rfl
def Tryz.ln105 := o_lenSlice (P := Tryz.prog) (t := 105) Tryz.u105
def Tryz.c88 := call_b (P := Tryz.prog) Tryz.func88 (by kernel_rfl) (by kernel_rfl)
theorem Tryz.u22 : Tryz.prog.underlying 22 = some (.int .u32) := by kernel_rfl
theorem Tryz.u2 : Tryz.prog.underlying 2 = some (.int .i64) := by kernel_rfl
def Tryz.cv22_2 := And.intro (cv_int (P := Tryz.prog) (s := 22) (e := 2) Tryz.u22) (cvi (P := Tryz.prog) (s := 22) (e := 2) Tryz.u22 Tryz.u2)
theorem Tryz.z56 : zero? Tryz.prog 56 = some (.agg #[.string ⟨#[]⟩, .string ⟨#[]⟩, .string ⟨#[]⟩, .string ⟨#[]⟩, .string ⟨#[]⟩, .string ⟨#[]⟩, .string ⟨#[]⟩, .string ⟨#[]⟩, .bool false]) := by kernel_rfl
theorem Tryz.pl56 : places? Tryz.prog 56 = some (fun i => (#[(0, 2), (2, 1), (3, 1), (4, 2), (6, 2), (8, 1)] : Array (Nat × Nat))[i]?) := by kernel_rfl
theorem Tryz.bu56_0_2 (v0_0 v0_1 : Value) (v1 : Value) (h1 : v1.cells = #[v1]) : opBuild Tryz.prog 56 ⟨[(0, .agg ⟨[v0_0, v0_1]⟩), (2, v1)]⟩ = some (.agg ⟨[v0_0, v0_1, .string ⟨#[]⟩, v1, .string ⟨#[]⟩, .string ⟨#[]⟩, .string ⟨#[]⟩, .string ⟨#[]⟩, .bool false]⟩) := by
  simp [opBuild, Tryz.z56, Tryz.pl56, Instr.fill, cells_agg, h1]
theorem Tryz.zc56 : zcells? Tryz.prog 56 9 = some #[.string ⟨#[]⟩, .string ⟨#[]⟩, .string ⟨#[]⟩, .string ⟨#[]⟩, .string ⟨#[]⟩, .string ⟨#[]⟩, .string ⟨#[]⟩, .string ⟨#[]⟩, .bool false] := by kernel_rfl
theorem Tryz.s56 : sz? Tryz.prog 56 = some 9 := by kernel_rfl
theorem Tryz.bs26_1 (id : Nat) (σ : St) (v0_0 v0_1 v0_2 v0_3 v0_4 v0_5 v0_6 v0_7 v0_8 : Value)  : opBuildSlice Tryz.prog 26 1 id ⟨[(0, .agg ⟨[v0_0, v0_1, v0_2, v0_3, v0_4, v0_5, v0_6, v0_7, v0_8]⟩)]⟩ σ = some (.val (.slice (some ⟨id, 0, none⟩) 1 10) (σ.set id (.cells true 0 id [v0_0, v0_1, v0_2, v0_3, v0_4, v0_5, v0_6, v0_7, v0_8]))) := by
  simp [opBuildSlice, Tryz.u26, Tryz.s56, Tryz.zc56, Instr.fill, cells_agg, zrow, sliceTo, opNew, show List.range 9 = [0, 1, 2, 3, 4, 5, 6, 7, 8] from rfl]
theorem Tryz.in56_is : (Tryz.prog.info? 56).isSome = true := by kernel_rfl
noncomputable def Tryz.in56 : TypeInfo := (Tryz.prog.info? 56).get Tryz.in56_is
theorem Tryz.in56_eq : Tryz.prog.info? 56 = some Tryz.in56 := (Option.some_get Tryz.in56_is).symm
theorem Tryz.in56_size : Tryz.in56.size = 9 := by kernel_rfl
theorem Tryz.in56_bytes : Tryz.in56.bytes = 136 := by kernel_rfl
def Tryz.ap26_26 := ap (P := Tryz.prog) (sT := 26) (xT := 26) (i := Tryz.in56) Tryz.u26 Tryz.in56_eq Tryz.zc56
def Tryz.as26 := And.intro (fun (i : TypeInfo) (z : Array Value) (σ : St) (B o n k : Nat) (h0 : n ≠ 0) => aps_slice (P := Tryz.prog) (xT := 26) (i := i) (z := z) (σ := σ) (B := B) (o := o) (n := n) (k := k) Tryz.u26 h0) (fun (i : TypeInfo) (z : Array Value) (σ : St) => aps_nil (P := Tryz.prog) (xT := 26) (i := i) (z := z) (σ := σ) Tryz.u26)
theorem Tryz.bu30_0_1_6 (v0 : Value) (v1 : Value) (v2 : Value) (h0 : v0.cells = #[v0]) (h1 : v1.cells = #[v1]) (h2 : v2.cells = #[v2]) : opBuild Tryz.prog 30 ⟨[(0, v0), (1, v1), (6, v2)]⟩ = some (.agg ⟨[v0, v1, .int .i64 0, .string ⟨#[]⟩, .string ⟨#[]⟩, .slice none 0 0, .string ⟨#[]⟩, v2, .slice none 0 0, .slice none 0 0, .int .u8 0, .int .i64 0, .int .u32 0]⟩) := by
  simp [opBuild, Tryz.z30, Tryz.pl30, Instr.fill, cells_agg, h0, h1, h2]
theorem Tryz.s22 : sz? Tryz.prog 22 = some 1 := by kernel_rfl
def Tryz.ia105 := ia_slice (P := Tryz.prog) (t := 105) Tryz.u105 Tryz.s22
theorem Tryz.bu30_0_1_8_10 (v0 : Value) (v1 : Value) (v2 : Value) (v3 : Value) (h0 : v0.cells = #[v0]) (h1 : v1.cells = #[v1]) (h2 : v2.cells = #[v2]) (h3 : v3.cells = #[v3]) : opBuild Tryz.prog 30 ⟨[(0, v0), (1, v1), (8, v2), (10, v3)]⟩ = some (.agg ⟨[v0, v1, .int .i64 0, .string ⟨#[]⟩, .string ⟨#[]⟩, .slice none 0 0, .string ⟨#[]⟩, .slice none 0 0, .slice none 0 0, v2, .int .u8 0, v3, .int .u32 0]⟩) := by
  simp [opBuild, Tryz.z30, Tryz.pl30, Instr.fill, cells_agg, h0, h1, h2, h3]
theorem Tryz.z114 : zero? Tryz.prog 114 = some (.agg #[.int .u32 0, .int .i64 0]) := by kernel_rfl
theorem Tryz.pl114 : places? Tryz.prog 114 = some (fun i => (#[(0, 1), (1, 1)] : Array (Nat × Nat))[i]?) := by kernel_rfl
theorem Tryz.bu114_0_1 (v0 : Value) (v1 : Value) (h0 : v0.cells = #[v0]) (h1 : v1.cells = #[v1]) : opBuild Tryz.prog 114 ⟨[(0, v0), (1, v1)]⟩ = some (.agg ⟨[v0, v1]⟩) := by
  simp [opBuild, Tryz.z114, Tryz.pl114, Instr.fill, cells_agg, h0, h1]
theorem Tryz.zc114 : zcells? Tryz.prog 114 2 = some #[.int .u32 0, .int .i64 0] := by kernel_rfl
theorem Tryz.u112 : Tryz.prog.underlying 112 = some (.slice 114) := by kernel_rfl
theorem Tryz.s114 : sz? Tryz.prog 114 = some 2 := by kernel_rfl
theorem Tryz.bs112_1 (id : Nat) (σ : St) (v0_0 v0_1 : Value)  : opBuildSlice Tryz.prog 112 1 id ⟨[(0, .agg ⟨[v0_0, v0_1]⟩)]⟩ σ = some (.val (.slice (some ⟨id, 0, none⟩) 1 3) (σ.set id (.cells true 0 id [v0_0, v0_1]))) := by
  simp [opBuildSlice, Tryz.u112, Tryz.s114, Tryz.zc114, Instr.fill, cells_agg, zrow, sliceTo, opNew, show List.range 2 = [0, 1] from rfl]
theorem Tryz.in114_is : (Tryz.prog.info? 114).isSome = true := by kernel_rfl
noncomputable def Tryz.in114 : TypeInfo := (Tryz.prog.info? 114).get Tryz.in114_is
theorem Tryz.in114_eq : Tryz.prog.info? 114 = some Tryz.in114 := (Option.some_get Tryz.in114_is).symm
theorem Tryz.in114_size : Tryz.in114.size = 2 := by kernel_rfl
theorem Tryz.in114_bytes : Tryz.in114.bytes = 16 := by kernel_rfl
def Tryz.ap112_112 := ap (P := Tryz.prog) (sT := 112) (xT := 112) (i := Tryz.in114) Tryz.u112 Tryz.in114_eq Tryz.zc114
def Tryz.as112 := And.intro (fun (i : TypeInfo) (z : Array Value) (σ : St) (B o n k : Nat) (h0 : n ≠ 0) => aps_slice (P := Tryz.prog) (xT := 112) (i := i) (z := z) (σ := σ) (B := B) (o := o) (n := n) (k := k) Tryz.u112 h0) (fun (i : TypeInfo) (z : Array Value) (σ : St) => aps_nil (P := Tryz.prog) (xT := 112) (i := i) (z := z) (σ := σ) Tryz.u112)
def Tryz.c90 := call_b (P := Tryz.prog) Tryz.func90 (by kernel_rfl) (by kernel_rfl)
def Tryz.c89 := call_b (P := Tryz.prog) Tryz.func89 (by kernel_rfl) (by kernel_rfl)
theorem Tryz.u111 : Tryz.prog.underlying 111 = some (.array 2 110) := by kernel_rfl
theorem Tryz.s110 : sz? Tryz.prog 110 = some 1 := by kernel_rfl
def Tryz.ia111 := ia_array (P := Tryz.prog) (t := 111) Tryz.u111 Tryz.s110
def Tryz.ld110 := ld_one (P := Tryz.prog) (t := 110) (by kernel_rfl)
def Tryz.c92 := call_b (P := Tryz.prog) Tryz.func92 (by kernel_rfl) (by kernel_rfl)
def Tryz.st114 := st_n (P := Tryz.prog) (t := 114) Tryz.s114
def Tryz.ln112 := o_lenSlice (P := Tryz.prog) (t := 112) Tryz.u112
def Tryz.ld114 := ld_agg (P := Tryz.prog) (t := 114) (n := 2) (by kernel_rfl)
def Tryz.c93 := call_b (P := Tryz.prog) Tryz.func93 (by kernel_rfl) (by kernel_rfl)
def Tryz.fa114_1 := fa_of (P := Tryz.prog) (s := 114) (f := 1) (off := 1) (by kernel_rfl)
theorem Tryz.bu30_0_1_8_9 (v0 : Value) (v1 : Value) (v2 : Value) (v3 : Value) (h0 : v0.cells = #[v0]) (h1 : v1.cells = #[v1]) (h2 : v2.cells = #[v2]) (h3 : v3.cells = #[v3]) : opBuild Tryz.prog 30 ⟨[(0, v0), (1, v1), (8, v2), (9, v3)]⟩ = some (.agg ⟨[v0, v1, .int .i64 0, .string ⟨#[]⟩, .string ⟨#[]⟩, .slice none 0 0, .string ⟨#[]⟩, .slice none 0 0, .slice none 0 0, v2, v3, .int .i64 0, .int .u32 0]⟩) := by
  simp [opBuild, Tryz.z30, Tryz.pl30, Instr.fill, cells_agg, h0, h1, h2, h3]
theorem Tryz.z126 : zero? Tryz.prog 126 = some (.agg #[.pointer none, .slice none 0 0]) := by kernel_rfl
theorem Tryz.pl126 : places? Tryz.prog 126 = some (fun i => (#[(0, 1), (1, 1)] : Array (Nat × Nat))[i]?) := by kernel_rfl
theorem Tryz.bu126_   : opBuild Tryz.prog 126 ⟨[]⟩ = some (.agg ⟨[.pointer none, .slice none 0 0]⟩) := by
  simp [opBuild, Tryz.z126, Tryz.pl126, Instr.fill, cells_agg]
theorem Tryz.bu30_   : opBuild Tryz.prog 30 ⟨[]⟩ = some (.agg ⟨[.int .u8 0, .int .u32 0, .int .i64 0, .string ⟨#[]⟩, .string ⟨#[]⟩, .slice none 0 0, .string ⟨#[]⟩, .slice none 0 0, .slice none 0 0, .slice none 0 0, .int .u8 0, .int .i64 0, .int .u32 0]⟩) := by
  simp [opBuild, Tryz.z30, Tryz.pl30, Instr.fill, cells_agg]
theorem Tryz.bu56_0_1 (v0_0 v0_1 : Value) (v1 : Value) (h1 : v1.cells = #[v1]) : opBuild Tryz.prog 56 ⟨[(0, .agg ⟨[v0_0, v0_1]⟩), (1, v1)]⟩ = some (.agg ⟨[v0_0, v0_1, v1, .string ⟨#[]⟩, .string ⟨#[]⟩, .string ⟨#[]⟩, .string ⟨#[]⟩, .string ⟨#[]⟩, .bool false]⟩) := by
  simp [opBuild, Tryz.z56, Tryz.pl56, Instr.fill, cells_agg, h1]
def Tryz.st56 := st_n (P := Tryz.prog) (t := 56) Tryz.s56
def Tryz.st58 := st_n (P := Tryz.prog) (t := 58) Tryz.s58
theorem Tryz.z127 : zero? Tryz.prog 127 = some (.agg #[.int .u8 0, .int .u32 0, .int .i64 0, .string ⟨#[]⟩, .string ⟨#[]⟩, .slice none 0 0, .string ⟨#[]⟩, .slice none 0 0, .slice none 0 0, .slice none 0 0, .int .u8 0, .int .i64 0, .int .u32 0, .int .i64 0]) := by kernel_rfl
theorem Tryz.pl127 : places? Tryz.prog 127 = some (fun i => (#[(0, 13), (13, 1)] : Array (Nat × Nat))[i]?) := by kernel_rfl
theorem Tryz.bu127_0_1 (v0_0 v0_1 v0_2 v0_3 v0_4 v0_5 v0_6 v0_7 v0_8 v0_9 v0_10 v0_11 v0_12 : Value) (v1 : Value) (h1 : v1.cells = #[v1]) : opBuild Tryz.prog 127 ⟨[(0, .agg ⟨[v0_0, v0_1, v0_2, v0_3, v0_4, v0_5, v0_6, v0_7, v0_8, v0_9, v0_10, v0_11, v0_12]⟩), (1, v1)]⟩ = some (.agg ⟨[v0_0, v0_1, v0_2, v0_3, v0_4, v0_5, v0_6, v0_7, v0_8, v0_9, v0_10, v0_11, v0_12, v1]⟩) := by
  simp [opBuild, Tryz.z127, Tryz.pl127, Instr.fill, cells_agg, h1]
theorem Tryz.bu30_0_1 (v0 : Value) (v1 : Value) (h0 : v0.cells = #[v0]) (h1 : v1.cells = #[v1]) : opBuild Tryz.prog 30 ⟨[(0, v0), (1, v1)]⟩ = some (.agg ⟨[v0, v1, .int .i64 0, .string ⟨#[]⟩, .string ⟨#[]⟩, .slice none 0 0, .string ⟨#[]⟩, .slice none 0 0, .slice none 0 0, .slice none 0 0, .int .u8 0, .int .i64 0, .int .u32 0]⟩) := by
  simp [opBuild, Tryz.z30, Tryz.pl30, Instr.fill, cells_agg, h0, h1]
def Tryz.ld56 := ld_agg (P := Tryz.prog) (t := 56) (n := 9) (by kernel_rfl)
def Tryz.ld58 := ld_agg (P := Tryz.prog) (t := 58) (n := 4) (by kernel_rfl)
theorem Tryz.bu30_0_1_6_7 (v0 : Value) (v1 : Value) (v2 : Value) (v3 : Value) (h0 : v0.cells = #[v0]) (h1 : v1.cells = #[v1]) (h2 : v2.cells = #[v2]) (h3 : v3.cells = #[v3]) : opBuild Tryz.prog 30 ⟨[(0, v0), (1, v1), (6, v2), (7, v3)]⟩ = some (.agg ⟨[v0, v1, .int .i64 0, .string ⟨#[]⟩, .string ⟨#[]⟩, .slice none 0 0, .string ⟨#[]⟩, v2, v3, .slice none 0 0, .int .u8 0, .int .i64 0, .int .u32 0]⟩) := by
  simp [opBuild, Tryz.z30, Tryz.pl30, Instr.fill, cells_agg, h0, h1, h2, h3]
theorem Tryz.bu30_0_1_8 (v0 : Value) (v1 : Value) (v2 : Value) (h0 : v0.cells = #[v0]) (h1 : v1.cells = #[v1]) (h2 : v2.cells = #[v2]) : opBuild Tryz.prog 30 ⟨[(0, v0), (1, v1), (8, v2)]⟩ = some (.agg ⟨[v0, v1, .int .i64 0, .string ⟨#[]⟩, .string ⟨#[]⟩, .slice none 0 0, .string ⟨#[]⟩, .slice none 0 0, .slice none 0 0, v2, .int .u8 0, .int .i64 0, .int .u32 0]⟩) := by
  simp [opBuild, Tryz.z30, Tryz.pl30, Instr.fill, cells_agg, h0, h1, h2]
theorem Tryz.bu30_0_1_2_8_10 (v0 : Value) (v1 : Value) (v2 : Value) (v3 : Value) (v4 : Value) (h0 : v0.cells = #[v0]) (h1 : v1.cells = #[v1]) (h2 : v2.cells = #[v2]) (h3 : v3.cells = #[v3]) (h4 : v4.cells = #[v4]) : opBuild Tryz.prog 30 ⟨[(0, v0), (1, v1), (2, v2), (8, v3), (10, v4)]⟩ = some (.agg ⟨[v0, v1, v2, .string ⟨#[]⟩, .string ⟨#[]⟩, .slice none 0 0, .string ⟨#[]⟩, .slice none 0 0, .slice none 0 0, v3, .int .u8 0, v4, .int .u32 0]⟩) := by
  simp [opBuild, Tryz.z30, Tryz.pl30, Instr.fill, cells_agg, h0, h1, h2, h3, h4]
theorem Tryz.bu30_0_1_8_11_4 (v0 : Value) (v1 : Value) (v2 : Value) (v3 : Value) (v4 : Value) (h0 : v0.cells = #[v0]) (h1 : v1.cells = #[v1]) (h2 : v2.cells = #[v2]) (h3 : v3.cells = #[v3]) (h4 : v4.cells = #[v4]) : opBuild Tryz.prog 30 ⟨[(0, v0), (1, v1), (8, v2), (11, v3), (4, v4)]⟩ = some (.agg ⟨[v0, v1, .int .i64 0, .string ⟨#[]⟩, .string ⟨#[]⟩, v4, .string ⟨#[]⟩, .slice none 0 0, .slice none 0 0, v2, .int .u8 0, .int .i64 0, v3]⟩) := by
  simp [opBuild, Tryz.z30, Tryz.pl30, Instr.fill, cells_agg, h0, h1, h2, h3, h4]
theorem Tryz.bs28_2 (id : Nat) (σ : St) (v0 : Value) (v1 : Value) (h0 : v0.cells = #[v0]) (h1 : v1.cells = #[v1]) : opBuildSlice Tryz.prog 28 2 id ⟨[(0, v0), (1, v1)]⟩ σ = some (.val (.slice (some ⟨id, 0, none⟩) 2 2) (σ.set id (.cells true 0 id [v0, v1]))) := by
  simp [opBuildSlice, Tryz.u28, Tryz.s3, Tryz.zc3, Instr.fill, cells_agg, zrow, sliceTo, opNew, h0, h1, show List.range 2 = [0, 1] from rfl]
theorem Tryz.u128 : Tryz.prog.underlying 128 = some (.slice 127) := by kernel_rfl
def Tryz.ln128 := o_lenSlice (P := Tryz.prog) (t := 128) Tryz.u128
theorem Tryz.s127 : sz? Tryz.prog 127 = some 14 := by kernel_rfl
def Tryz.ia128 := ia_slice (P := Tryz.prog) (t := 128) Tryz.u128 Tryz.s127
def Tryz.ld127 := ld_agg (P := Tryz.prog) (t := 127) (n := 14) (by kernel_rfl)
def Tryz.st127 := st_n (P := Tryz.prog) (t := 127) Tryz.s127
def Tryz.fa127_0 := fa_of (P := Tryz.prog) (s := 127) (f := 0) (off := 0) (by kernel_rfl)
def Tryz.fa127_1 := fa_of (P := Tryz.prog) (s := 127) (f := 1) (off := 13) (by kernel_rfl)
def Tryz.ld33 := ld_one (P := Tryz.prog) (t := 33) (by kernel_rfl)
theorem Tryz.zc22 : zcells? Tryz.prog 22 1 = some #[.int .u32 0] := by kernel_rfl
theorem Tryz.bs105_1 (id : Nat) (σ : St) (v0 : Value) (h0 : v0.cells = #[v0]) : opBuildSlice Tryz.prog 105 1 id ⟨[(0, v0)]⟩ σ = some (.val (.slice (some ⟨id, 0, none⟩) 1 2) (σ.set id (.cells true 0 id [v0]))) := by
  simp [opBuildSlice, Tryz.u105, Tryz.s22, Tryz.zc22, Instr.fill, cells_agg, zrow, sliceTo, opNew, h0, show List.range 1 = [0] from rfl]
def Tryz.c94 := call_b (P := Tryz.prog) Tryz.func94 (by kernel_rfl) (by kernel_rfl)
theorem Tryz.bs27_2 (id : Nat) (σ : St) (v0_0 v0_1 v0_2 v0_3 : Value) (v1_0 v1_1 v1_2 v1_3 : Value)  : opBuildSlice Tryz.prog 27 2 id ⟨[(0, .agg ⟨[v0_0, v0_1, v0_2, v0_3]⟩), (1, .agg ⟨[v1_0, v1_1, v1_2, v1_3]⟩)]⟩ σ = some (.val (.slice (some ⟨id, 0, none⟩) 2 5) (σ.set id (.cells true 0 id [v0_0, v0_1, v0_2, v0_3, v1_0, v1_1, v1_2, v1_3]))) := by
  simp [opBuildSlice, Tryz.u27, Tryz.s58, Tryz.zc58, Instr.fill, cells_agg, zrow, sliceTo, opNew, show List.range 8 = [0, 1, 2, 3, 4, 5, 6, 7] from rfl]
def Tryz.c95 := call_b (P := Tryz.prog) Tryz.func95 (by kernel_rfl) (by kernel_rfl)
def Tryz.fa30_1 := fa_of (P := Tryz.prog) (s := 30) (f := 1) (off := 1) (by kernel_rfl)
def Tryz.st22 := st_n (P := Tryz.prog) (t := 22) Tryz.s22
def Tryz.fa30_0 := fa_of (P := Tryz.prog) (s := 30) (f := 0) (off := 0) (by kernel_rfl)
def Tryz.fa30_11 := fa_of (P := Tryz.prog) (s := 30) (f := 11) (off := 12) (by kernel_rfl)
def Tryz.fa30_2 := fa_of (P := Tryz.prog) (s := 30) (f := 2) (off := 2) (by kernel_rfl)
theorem Tryz.s2 : sz? Tryz.prog 2 = some 1 := by kernel_rfl
def Tryz.st2 := st_n (P := Tryz.prog) (t := 2) Tryz.s2
def Tryz.fa30_5 := fa_of (P := Tryz.prog) (s := 30) (f := 5) (off := 6) (by kernel_rfl)
theorem Tryz.s9 : sz? Tryz.prog 9 = some 1 := by kernel_rfl
def Tryz.st9 := st_n (P := Tryz.prog) (t := 9) Tryz.s9
def Tryz.c96 := call_b (P := Tryz.prog) Tryz.func96 (by kernel_rfl) (by kernel_rfl)
theorem Tryz.in5_is : (Tryz.prog.info? 5).isSome = true := by kernel_rfl
noncomputable def Tryz.in5 : TypeInfo := (Tryz.prog.info? 5).get Tryz.in5_is
theorem Tryz.in5_eq : Tryz.prog.info? 5 = some Tryz.in5 := (Option.some_get Tryz.in5_is).symm
theorem Tryz.in5_size : Tryz.in5.size = 1 := by kernel_rfl
theorem Tryz.in5_bytes : Tryz.in5.bytes = 1 := by kernel_rfl
def Tryz.ap32_32 := ap (P := Tryz.prog) (sT := 32) (xT := 32) (i := Tryz.in5) Tryz.u32 Tryz.in5_eq Tryz.zc5
def Tryz.as32 := And.intro (fun (i : TypeInfo) (z : Array Value) (σ : St) (B o n k : Nat) (h0 : n ≠ 0) => aps_slice (P := Tryz.prog) (xT := 32) (i := i) (z := z) (σ := σ) (B := B) (o := o) (n := n) (k := k) Tryz.u32 h0) (fun (i : TypeInfo) (z : Array Value) (σ : St) => aps_nil (P := Tryz.prog) (xT := 32) (i := i) (z := z) (σ := σ) Tryz.u32)
def Tryz.ia32 := ia_slice (P := Tryz.prog) (t := 32) Tryz.u32 Tryz.s5
def Tryz.st5 := st_n (P := Tryz.prog) (t := 5) Tryz.s5
def Tryz.fa30_3 := fa_of (P := Tryz.prog) (s := 30) (f := 3) (off := 3) (by kernel_rfl)
def Tryz.c97 := call_b (P := Tryz.prog) Tryz.func97 (by kernel_rfl) (by kernel_rfl)
def Tryz.c98 := call_b (P := Tryz.prog) Tryz.func98 (by kernel_rfl) (by kernel_rfl)
def Tryz.st24 := st_n (P := Tryz.prog) (t := 24) Tryz.s24
def Tryz.fa30_4 := fa_of (P := Tryz.prog) (s := 30) (f := 4) (off := 5) (by kernel_rfl)
theorem Tryz.s25 : sz? Tryz.prog 25 = some 1 := by kernel_rfl
def Tryz.st25 := st_n (P := Tryz.prog) (t := 25) Tryz.s25
def Tryz.fa30_6 := fa_of (P := Tryz.prog) (s := 30) (f := 6) (off := 7) (by kernel_rfl)
theorem Tryz.s26 : sz? Tryz.prog 26 = some 1 := by kernel_rfl
def Tryz.st26 := st_n (P := Tryz.prog) (t := 26) Tryz.s26
def Tryz.fa30_7 := fa_of (P := Tryz.prog) (s := 30) (f := 7) (off := 8) (by kernel_rfl)
theorem Tryz.s27 : sz? Tryz.prog 27 = some 1 := by kernel_rfl
def Tryz.st27 := st_n (P := Tryz.prog) (t := 27) Tryz.s27
def Tryz.fa30_8 := fa_of (P := Tryz.prog) (s := 30) (f := 8) (off := 9) (by kernel_rfl)
def Tryz.sl28 := And.intro (sl_slice (P := Tryz.prog) (t := 28) Tryz.u28 Tryz.s3) (fun (k : IntKind) (i : Int) (σ : St) => nil_hi (P := Tryz.prog) (t := 28) (k := k) (i := i) (σ := σ) Tryz.u28 Tryz.s3)
def Tryz.c99 := call_b (P := Tryz.prog) Tryz.func99 (by kernel_rfl) (by kernel_rfl)
theorem Tryz.s28 : sz? Tryz.prog 28 = some 1 := by kernel_rfl
def Tryz.st28 := st_n (P := Tryz.prog) (t := 28) Tryz.s28
def Tryz.ld25 := ld_one (P := Tryz.prog) (t := 25) (by kernel_rfl)
def Tryz.ln25 := o_lenSlice (P := Tryz.prog) (t := 25) Tryz.u25
def Tryz.sl25 := And.intro (sl_slice (P := Tryz.prog) (t := 25) Tryz.u25 Tryz.s24) (fun (k : IntKind) (i : Int) (σ : St) => nil_hi (P := Tryz.prog) (t := 25) (k := k) (i := i) (σ := σ) Tryz.u25 Tryz.s24)
def Tryz.ia25 := ia_slice (P := Tryz.prog) (t := 25) Tryz.u25 Tryz.s24
theorem Tryz.in24_is : (Tryz.prog.info? 24).isSome = true := by kernel_rfl
noncomputable def Tryz.in24 : TypeInfo := (Tryz.prog.info? 24).get Tryz.in24_is
theorem Tryz.in24_eq : Tryz.prog.info? 24 = some Tryz.in24 := (Option.some_get Tryz.in24_is).symm
theorem Tryz.in24_size : Tryz.in24.size = 2 := by kernel_rfl
theorem Tryz.in24_bytes : Tryz.in24.bytes = 32 := by kernel_rfl
def Tryz.ap25_25 := ap (P := Tryz.prog) (sT := 25) (xT := 25) (i := Tryz.in24) Tryz.u25 Tryz.in24_eq Tryz.zc24
def Tryz.as25 := And.intro (fun (i : TypeInfo) (z : Array Value) (σ : St) (B o n k : Nat) (h0 : n ≠ 0) => aps_slice (P := Tryz.prog) (xT := 25) (i := i) (z := z) (σ := σ) (B := B) (o := o) (n := n) (k := k) Tryz.u25 h0) (fun (i : TypeInfo) (z : Array Value) (σ : St) => aps_nil (P := Tryz.prog) (xT := 25) (i := i) (z := z) (σ := σ) Tryz.u25)
def Tryz.sl26 := And.intro (sl_slice (P := Tryz.prog) (t := 26) Tryz.u26 Tryz.s56) (fun (k : IntKind) (i : Int) (σ : St) => nil_hi (P := Tryz.prog) (t := 26) (k := k) (i := i) (σ := σ) Tryz.u26 Tryz.s56)
def Tryz.ia26 := ia_slice (P := Tryz.prog) (t := 26) Tryz.u26 Tryz.s56
def Tryz.fa56_0 := fa_of (P := Tryz.prog) (s := 56) (f := 0) (off := 0) (by kernel_rfl)
def Tryz.fa56_1 := fa_of (P := Tryz.prog) (s := 56) (f := 1) (off := 2) (by kernel_rfl)
def Tryz.fa56_2 := fa_of (P := Tryz.prog) (s := 56) (f := 2) (off := 3) (by kernel_rfl)
def Tryz.fa56_3 := fa_of (P := Tryz.prog) (s := 56) (f := 3) (off := 4) (by kernel_rfl)
def Tryz.fa56_4 := fa_of (P := Tryz.prog) (s := 56) (f := 4) (off := 6) (by kernel_rfl)
def Tryz.fa56_5 := fa_of (P := Tryz.prog) (s := 56) (f := 5) (off := 8) (by kernel_rfl)
theorem Tryz.bu56_0_1_2_3_4_5 (v0_0 v0_1 : Value) (v1 : Value) (v2 : Value) (v3_0 v3_1 : Value) (v4_0 v4_1 : Value) (v5 : Value) (h1 : v1.cells = #[v1]) (h2 : v2.cells = #[v2]) (h5 : v5.cells = #[v5]) : opBuild Tryz.prog 56 ⟨[(0, .agg ⟨[v0_0, v0_1]⟩), (1, v1), (2, v2), (3, .agg ⟨[v3_0, v3_1]⟩), (4, .agg ⟨[v4_0, v4_1]⟩), (5, v5)]⟩ = some (.agg ⟨[v0_0, v0_1, v1, v2, v3_0, v3_1, v4_0, v4_1, v5]⟩) := by
  simp [opBuild, Tryz.z56, Tryz.pl56, Instr.fill, cells_agg, h1, h2, h5]
def Tryz.sl27 := And.intro (sl_slice (P := Tryz.prog) (t := 27) Tryz.u27 Tryz.s58) (fun (k : IntKind) (i : Int) (σ : St) => nil_hi (P := Tryz.prog) (t := 27) (k := k) (i := i) (σ := σ) Tryz.u27 Tryz.s58)
def Tryz.ia27 := ia_slice (P := Tryz.prog) (t := 27) Tryz.u27 Tryz.s58
def Tryz.fa58_0 := fa_of (P := Tryz.prog) (s := 58) (f := 0) (off := 0) (by kernel_rfl)
def Tryz.fa58_1 := fa_of (P := Tryz.prog) (s := 58) (f := 1) (off := 2) (by kernel_rfl)
def Tryz.fa58_2 := fa_of (P := Tryz.prog) (s := 58) (f := 2) (off := 3) (by kernel_rfl)
theorem Tryz.z137 : zero? Tryz.prog 137 = some (.agg #[.slice none 0 0]) := by kernel_rfl
theorem Tryz.pl137 : places? Tryz.prog 137 = some (fun i => (#[(0, 1)] : Array (Nat × Nat))[i]?) := by kernel_rfl
theorem Tryz.bu137_   : opBuild Tryz.prog 137 ⟨[]⟩ = some (.agg ⟨[.slice none 0 0]⟩) := by
  simp [opBuild, Tryz.z137, Tryz.pl137, Instr.fill, cells_agg]
theorem Tryz.z135 : zero? Tryz.prog 135 = some (.pointer none) := by kernel_rfl
theorem Tryz.s135 : sz? Tryz.prog 135 = some 1 := by kernel_rfl
def Tryz.st135 := st_n (P := Tryz.prog) (t := 135) Tryz.s135
def Tryz.ld135 := ld_one (P := Tryz.prog) (t := 135) (by kernel_rfl)
def Tryz.cv5_2 := And.intro (cv_int (P := Tryz.prog) (s := 5) (e := 2) Tryz.u5) (cvi (P := Tryz.prog) (s := 5) (e := 2) Tryz.u5 Tryz.u2)
def Tryz.c100 := call_b (P := Tryz.prog) Tryz.func100 (by kernel_rfl) (by kernel_rfl)
def Tryz.c101 := call_b (P := Tryz.prog) Tryz.func101 (by kernel_rfl) (by kernel_rfl)
def Tryz.c105 := call_b (P := Tryz.prog) Tryz.func105 (by kernel_rfl) (by kernel_rfl)
def Tryz.c104 := call_b (P := Tryz.prog) Tryz.func104 (by kernel_rfl) (by kernel_rfl)
def Tryz.c107 := call_b (P := Tryz.prog) Tryz.func107 (by kernel_rfl) (by kernel_rfl)
def Tryz.c106 := call_b (P := Tryz.prog) Tryz.func106 (by kernel_rfl) (by kernel_rfl)
def Tryz.fa30_10 := fa_of (P := Tryz.prog) (s := 30) (f := 10) (off := 11) (by kernel_rfl)
def Tryz.fa30_9 := fa_of (P := Tryz.prog) (s := 30) (f := 9) (off := 10) (by kernel_rfl)
def Tryz.c108 := call_b (P := Tryz.prog) Tryz.func108 (by kernel_rfl) (by kernel_rfl)
def Tryz.c109 := call_b (P := Tryz.prog) Tryz.func109 (by kernel_rfl) (by kernel_rfl)
def Tryz.c110 := call_b (P := Tryz.prog) Tryz.func110 (by kernel_rfl) (by kernel_rfl)
def Tryz.fa137_0 := fa_of (P := Tryz.prog) (s := 137) (f := 0) (off := 0) (by kernel_rfl)
def Tryz.ld32 := ld_one (P := Tryz.prog) (t := 32) (by kernel_rfl)
def Tryz.fa43_0 := fa_of (P := Tryz.prog) (s := 43) (f := 0) (off := 0) (by kernel_rfl)
def Tryz.fa43_1 := fa_of (P := Tryz.prog) (s := 43) (f := 1) (off := 1) (by kernel_rfl)
theorem Tryz.u110 : Tryz.prog.underlying 110 = some (.int .u64) := by kernel_rfl
def Tryz.cv22_110 := And.intro (cv_int (P := Tryz.prog) (s := 22) (e := 110) Tryz.u22) (cvi (P := Tryz.prog) (s := 22) (e := 110) Tryz.u22 Tryz.u110)
def Tryz.c111 := call_b (P := Tryz.prog) Tryz.func111 (by kernel_rfl) (by kernel_rfl)
def Tryz.fa43_2 := fa_of (P := Tryz.prog) (s := 43) (f := 2) (off := 2) (by kernel_rfl)
def Tryz.cv2_110 := And.intro (cv_int (P := Tryz.prog) (s := 2) (e := 110) Tryz.u2) (cvi (P := Tryz.prog) (s := 2) (e := 110) Tryz.u2 Tryz.u110)
def Tryz.fa43_6 := fa_of (P := Tryz.prog) (s := 43) (f := 6) (off := 7) (by kernel_rfl)
def Tryz.ld40 := ld_one (P := Tryz.prog) (t := 40) (by kernel_rfl)
theorem Tryz.u40 : Tryz.prog.underlying 40 = some (.slice 150) := by kernel_rfl
def Tryz.ln40 := o_lenSlice (P := Tryz.prog) (t := 40) Tryz.u40
theorem Tryz.s150 : sz? Tryz.prog 150 = some 9 := by kernel_rfl
def Tryz.ia40 := ia_slice (P := Tryz.prog) (t := 40) Tryz.u40 Tryz.s150
def Tryz.ld150 := ld_agg (P := Tryz.prog) (t := 150) (n := 9) (by kernel_rfl)
theorem Tryz.z150 : zero? Tryz.prog 150 = some (.agg #[.string ⟨#[]⟩, .string ⟨#[]⟩, .string ⟨#[]⟩, .string ⟨#[]⟩, .string ⟨#[]⟩, .string ⟨#[]⟩, .string ⟨#[]⟩, .string ⟨#[]⟩, .bool false]) := by kernel_rfl
def Tryz.st150 := st_n (P := Tryz.prog) (t := 150) Tryz.s150
def Tryz.fa150_0 := fa_of (P := Tryz.prog) (s := 150) (f := 0) (off := 0) (by kernel_rfl)
def Tryz.ld38 := ld_agg (P := Tryz.prog) (t := 38) (n := 2) (by kernel_rfl)
def Tryz.c112 := call_b (P := Tryz.prog) Tryz.func112 (by kernel_rfl) (by kernel_rfl)
def Tryz.fa150_1 := fa_of (P := Tryz.prog) (s := 150) (f := 1) (off := 2) (by kernel_rfl)
def Tryz.c113 := call_b (P := Tryz.prog) Tryz.func113 (by kernel_rfl) (by kernel_rfl)
def Tryz.fa150_2 := fa_of (P := Tryz.prog) (s := 150) (f := 2) (off := 3) (by kernel_rfl)
def Tryz.fa150_3 := fa_of (P := Tryz.prog) (s := 150) (f := 3) (off := 4) (by kernel_rfl)
def Tryz.fa150_4 := fa_of (P := Tryz.prog) (s := 150) (f := 4) (off := 6) (by kernel_rfl)
def Tryz.fa43_7 := fa_of (P := Tryz.prog) (s := 43) (f := 7) (off := 8) (by kernel_rfl)
def Tryz.ld41 := ld_one (P := Tryz.prog) (t := 41) (by kernel_rfl)
theorem Tryz.u41 : Tryz.prog.underlying 41 = some (.slice 154) := by kernel_rfl
def Tryz.ln41 := o_lenSlice (P := Tryz.prog) (t := 41) Tryz.u41
theorem Tryz.s154 : sz? Tryz.prog 154 = some 4 := by kernel_rfl
def Tryz.ia41 := ia_slice (P := Tryz.prog) (t := 41) Tryz.u41 Tryz.s154
def Tryz.ld154 := ld_agg (P := Tryz.prog) (t := 154) (n := 4) (by kernel_rfl)
theorem Tryz.z154 : zero? Tryz.prog 154 = some (.agg #[.string ⟨#[]⟩, .string ⟨#[]⟩, .int .i64 0, .string ⟨#[]⟩]) := by kernel_rfl
def Tryz.st154 := st_n (P := Tryz.prog) (t := 154) Tryz.s154
def Tryz.fa154_0 := fa_of (P := Tryz.prog) (s := 154) (f := 0) (off := 0) (by kernel_rfl)
def Tryz.fa154_1 := fa_of (P := Tryz.prog) (s := 154) (f := 1) (off := 2) (by kernel_rfl)
def Tryz.cv3_110 := And.intro (cv_int (P := Tryz.prog) (s := 3) (e := 110) Tryz.u3) (cvi (P := Tryz.prog) (s := 3) (e := 110) Tryz.u3 Tryz.u110)
def Tryz.fa154_2 := fa_of (P := Tryz.prog) (s := 154) (f := 2) (off := 3) (by kernel_rfl)
def Tryz.fa43_8 := fa_of (P := Tryz.prog) (s := 43) (f := 8) (off := 9) (by kernel_rfl)
def Tryz.ia28 := ia_slice (P := Tryz.prog) (t := 28) Tryz.u28 Tryz.s3
def Tryz.fa43_3 := fa_of (P := Tryz.prog) (s := 43) (f := 3) (off := 3) (by kernel_rfl)
def Tryz.fa43_10 := fa_of (P := Tryz.prog) (s := 43) (f := 10) (off := 11) (by kernel_rfl)
def Tryz.fa43_9 := fa_of (P := Tryz.prog) (s := 43) (f := 9) (off := 10) (by kernel_rfl)
def Tryz.fa43_11 := fa_of (P := Tryz.prog) (s := 43) (f := 11) (off := 12) (by kernel_rfl)
def Tryz.fa43_4 := fa_of (P := Tryz.prog) (s := 43) (f := 4) (off := 5) (by kernel_rfl)
def Tryz.ld39 := ld_one (P := Tryz.prog) (t := 39) (by kernel_rfl)
theorem Tryz.u39 : Tryz.prog.underlying 39 = some (.slice 38) := by kernel_rfl
def Tryz.ln39 := o_lenSlice (P := Tryz.prog) (t := 39) Tryz.u39
theorem Tryz.s38 : sz? Tryz.prog 38 = some 2 := by kernel_rfl
def Tryz.ia39 := ia_slice (P := Tryz.prog) (t := 39) Tryz.u39 Tryz.s38
def Tryz.fa43_5 := fa_of (P := Tryz.prog) (s := 43) (f := 5) (off := 6) (by kernel_rfl)
def Tryz.c114 := call_b (P := Tryz.prog) Tryz.func114 (by kernel_rfl) (by kernel_rfl)
theorem Tryz.pl43 : places? Tryz.prog 43 = some (fun i => (#[(0, 1), (1, 1), (2, 1), (3, 2), (5, 1), (6, 1), (7, 1), (8, 1), (9, 1), (10, 1), (11, 1), (12, 1)] : Array (Nat × Nat))[i]?) := by kernel_rfl
theorem Tryz.bu43_0_1_2_3_5_8_9_10_11 (v0 : Value) (v1 : Value) (v2 : Value) (v3_0 v3_1 : Value) (v4 : Value) (v5 : Value) (v6 : Value) (v7 : Value) (v8 : Value) (h0 : v0.cells = #[v0]) (h1 : v1.cells = #[v1]) (h2 : v2.cells = #[v2]) (h4 : v4.cells = #[v4]) (h5 : v5.cells = #[v5]) (h6 : v6.cells = #[v6]) (h7 : v7.cells = #[v7]) (h8 : v8.cells = #[v8]) : opBuild Tryz.prog 43 ⟨[(0, v0), (1, v1), (2, v2), (3, .agg ⟨[v3_0, v3_1]⟩), (5, v4), (8, v5), (9, v6), (10, v7), (11, v8)]⟩ = some (.agg ⟨[v0, v1, v2, v3_0, v3_1, .slice none 0 0, v4, .slice none 0 0, .slice none 0 0, v5, v6, v7, v8]⟩) := by
  simp [opBuild, Tryz.z43, Tryz.pl43, Instr.fill, cells_agg, h0, h1, h2, h4, h5, h6, h7, h8]
theorem Tryz.zc38 : zcells? Tryz.prog 38 2 = some #[.string ⟨#[]⟩, .string ⟨#[]⟩] := by kernel_rfl
theorem Tryz.bs39_1 (id : Nat) (σ : St) (v0_0 v0_1 : Value)  : opBuildSlice Tryz.prog 39 1 id ⟨[(0, .agg ⟨[v0_0, v0_1]⟩)]⟩ σ = some (.val (.slice (some ⟨id, 0, none⟩) 1 3) (σ.set id (.cells true 0 id [v0_0, v0_1]))) := by
  simp [opBuildSlice, Tryz.u39, Tryz.s38, Tryz.zc38, Instr.fill, cells_agg, zrow, sliceTo, opNew, show List.range 2 = [0, 1] from rfl]
theorem Tryz.in38_is : (Tryz.prog.info? 38).isSome = true := by kernel_rfl
noncomputable def Tryz.in38 : TypeInfo := (Tryz.prog.info? 38).get Tryz.in38_is
theorem Tryz.in38_eq : Tryz.prog.info? 38 = some Tryz.in38 := (Option.some_get Tryz.in38_is).symm
theorem Tryz.in38_size : Tryz.in38.size = 2 := by kernel_rfl
theorem Tryz.in38_bytes : Tryz.in38.bytes = 32 := by kernel_rfl
def Tryz.ap39_39 := ap (P := Tryz.prog) (sT := 39) (xT := 39) (i := Tryz.in38) Tryz.u39 Tryz.in38_eq Tryz.zc38
def Tryz.as39 := And.intro (fun (i : TypeInfo) (z : Array Value) (σ : St) (B o n k : Nat) (h0 : n ≠ 0) => aps_slice (P := Tryz.prog) (xT := 39) (i := i) (z := z) (σ := σ) (B := B) (o := o) (n := n) (k := k) Tryz.u39 h0) (fun (i : TypeInfo) (z : Array Value) (σ : St) => aps_nil (P := Tryz.prog) (xT := 39) (i := i) (z := z) (σ := σ) Tryz.u39)
theorem Tryz.s39 : sz? Tryz.prog 39 = some 1 := by kernel_rfl
def Tryz.st39 := st_n (P := Tryz.prog) (t := 39) Tryz.s39
def Tryz.c115 := call_b (P := Tryz.prog) Tryz.func115 (by kernel_rfl) (by kernel_rfl)
theorem Tryz.zc150 : zcells? Tryz.prog 150 9 = some #[.string ⟨#[]⟩, .string ⟨#[]⟩, .string ⟨#[]⟩, .string ⟨#[]⟩, .string ⟨#[]⟩, .string ⟨#[]⟩, .string ⟨#[]⟩, .string ⟨#[]⟩, .bool false] := by kernel_rfl
theorem Tryz.bs40_1 (id : Nat) (σ : St) (v0_0 v0_1 v0_2 v0_3 v0_4 v0_5 v0_6 v0_7 v0_8 : Value)  : opBuildSlice Tryz.prog 40 1 id ⟨[(0, .agg ⟨[v0_0, v0_1, v0_2, v0_3, v0_4, v0_5, v0_6, v0_7, v0_8]⟩)]⟩ σ = some (.val (.slice (some ⟨id, 0, none⟩) 1 10) (σ.set id (.cells true 0 id [v0_0, v0_1, v0_2, v0_3, v0_4, v0_5, v0_6, v0_7, v0_8]))) := by
  simp [opBuildSlice, Tryz.u40, Tryz.s150, Tryz.zc150, Instr.fill, cells_agg, zrow, sliceTo, opNew, show List.range 9 = [0, 1, 2, 3, 4, 5, 6, 7, 8] from rfl]
theorem Tryz.in150_is : (Tryz.prog.info? 150).isSome = true := by kernel_rfl
noncomputable def Tryz.in150 : TypeInfo := (Tryz.prog.info? 150).get Tryz.in150_is
theorem Tryz.in150_eq : Tryz.prog.info? 150 = some Tryz.in150 := (Option.some_get Tryz.in150_is).symm
theorem Tryz.in150_size : Tryz.in150.size = 9 := by kernel_rfl
theorem Tryz.in150_bytes : Tryz.in150.bytes = 136 := by kernel_rfl
def Tryz.ap40_40 := ap (P := Tryz.prog) (sT := 40) (xT := 40) (i := Tryz.in150) Tryz.u40 Tryz.in150_eq Tryz.zc150
def Tryz.as40 := And.intro (fun (i : TypeInfo) (z : Array Value) (σ : St) (B o n k : Nat) (h0 : n ≠ 0) => aps_slice (P := Tryz.prog) (xT := 40) (i := i) (z := z) (σ := σ) (B := B) (o := o) (n := n) (k := k) Tryz.u40 h0) (fun (i : TypeInfo) (z : Array Value) (σ : St) => aps_nil (P := Tryz.prog) (xT := 40) (i := i) (z := z) (σ := σ) Tryz.u40)
theorem Tryz.s40 : sz? Tryz.prog 40 = some 1 := by kernel_rfl
def Tryz.st40 := st_n (P := Tryz.prog) (t := 40) Tryz.s40
def Tryz.c116 := call_b (P := Tryz.prog) Tryz.func116 (by kernel_rfl) (by kernel_rfl)
theorem Tryz.zc154 : zcells? Tryz.prog 154 4 = some #[.string ⟨#[]⟩, .string ⟨#[]⟩, .int .i64 0, .string ⟨#[]⟩] := by kernel_rfl
theorem Tryz.bs41_1 (id : Nat) (σ : St) (v0_0 v0_1 v0_2 v0_3 : Value)  : opBuildSlice Tryz.prog 41 1 id ⟨[(0, .agg ⟨[v0_0, v0_1, v0_2, v0_3]⟩)]⟩ σ = some (.val (.slice (some ⟨id, 0, none⟩) 1 5) (σ.set id (.cells true 0 id [v0_0, v0_1, v0_2, v0_3]))) := by
  simp [opBuildSlice, Tryz.u41, Tryz.s154, Tryz.zc154, Instr.fill, cells_agg, zrow, sliceTo, opNew, show List.range 4 = [0, 1, 2, 3] from rfl]
theorem Tryz.in154_is : (Tryz.prog.info? 154).isSome = true := by kernel_rfl
noncomputable def Tryz.in154 : TypeInfo := (Tryz.prog.info? 154).get Tryz.in154_is
theorem Tryz.in154_eq : Tryz.prog.info? 154 = some Tryz.in154 := (Option.some_get Tryz.in154_is).symm
theorem Tryz.in154_size : Tryz.in154.size = 4 := by kernel_rfl
theorem Tryz.in154_bytes : Tryz.in154.bytes = 56 := by kernel_rfl
def Tryz.ap41_41 := ap (P := Tryz.prog) (sT := 41) (xT := 41) (i := Tryz.in154) Tryz.u41 Tryz.in154_eq Tryz.zc154
def Tryz.as41 := And.intro (fun (i : TypeInfo) (z : Array Value) (σ : St) (B o n k : Nat) (h0 : n ≠ 0) => aps_slice (P := Tryz.prog) (xT := 41) (i := i) (z := z) (σ := σ) (B := B) (o := o) (n := n) (k := k) Tryz.u41 h0) (fun (i : TypeInfo) (z : Array Value) (σ : St) => aps_nil (P := Tryz.prog) (xT := 41) (i := i) (z := z) (σ := σ) Tryz.u41)
theorem Tryz.s41 : sz? Tryz.prog 41 = some 1 := by kernel_rfl
def Tryz.st41 := st_n (P := Tryz.prog) (t := 41) Tryz.s41
def Tryz.c117 := call_b (P := Tryz.prog) Tryz.func117 (by kernel_rfl) (by kernel_rfl)
def Tryz.ln9 := And.intro (o_lenStr (P := Tryz.prog) (t := 9) Tryz.u9) (lenStr (P := Tryz.prog) (t := 9) Tryz.u9)
def Tryz.c119 := call_b (P := Tryz.prog) Tryz.func119 (by kernel_rfl) (by kernel_rfl)
def Tryz.c118 := call_b (P := Tryz.prog) Tryz.func118 (by kernel_rfl) (by kernel_rfl)
def Tryz.c120 := call_b (P := Tryz.prog) Tryz.func120 (by kernel_rfl) (by kernel_rfl)
def Tryz.c121 := call_b (P := Tryz.prog) Tryz.func121 (by kernel_rfl) (by kernel_rfl)
def Tryz.c122 := call_b (P := Tryz.prog) Tryz.func122 (by kernel_rfl) (by kernel_rfl)
def Tryz.c124 := call_b (P := Tryz.prog) Tryz.func124 (by kernel_rfl) (by kernel_rfl)
def Tryz.c126 := call_b (P := Tryz.prog) Tryz.func126 (by kernel_rfl) (by kernel_rfl)
def Tryz.c127 := call_b (P := Tryz.prog) Tryz.func127 (by kernel_rfl) (by kernel_rfl)
def Tryz.c128 := call_b (P := Tryz.prog) Tryz.func128 (by kernel_rfl) (by kernel_rfl)
def Tryz.c129 := call_b (P := Tryz.prog) Tryz.func129 (by kernel_rfl) (by kernel_rfl)
def Tryz.c130 := call_b (P := Tryz.prog) Tryz.func130 (by kernel_rfl) (by kernel_rfl)
def Tryz.c131 := call_b (P := Tryz.prog) Tryz.func131 (by kernel_rfl) (by kernel_rfl)
def Tryz.c132 := call_b (P := Tryz.prog) Tryz.func132 (by kernel_rfl) (by kernel_rfl)
theorem Tryz.bu30_0_1_2_8_9 (v0 : Value) (v1 : Value) (v2 : Value) (v3 : Value) (v4 : Value) (h0 : v0.cells = #[v0]) (h1 : v1.cells = #[v1]) (h2 : v2.cells = #[v2]) (h3 : v3.cells = #[v3]) (h4 : v4.cells = #[v4]) : opBuild Tryz.prog 30 ⟨[(0, v0), (1, v1), (2, v2), (8, v3), (9, v4)]⟩ = some (.agg ⟨[v0, v1, v2, .string ⟨#[]⟩, .string ⟨#[]⟩, .slice none 0 0, .string ⟨#[]⟩, .slice none 0 0, .slice none 0 0, v3, v4, .int .i64 0, .int .u32 0]⟩) := by
  simp [opBuild, Tryz.z30, Tryz.pl30, Instr.fill, cells_agg, h0, h1, h2, h3, h4]
theorem Tryz.z173 : zero? Tryz.prog 173 = some (.agg #[.slice none 0 0, .bool false]) := by kernel_rfl
theorem Tryz.pl173 : places? Tryz.prog 173 = some (fun i => (#[(0, 1), (1, 1)] : Array (Nat × Nat))[i]?) := by kernel_rfl
theorem Tryz.bu173_0 (v0 : Value) (h0 : v0.cells = #[v0]) : opBuild Tryz.prog 173 ⟨[(0, v0)]⟩ = some (.agg ⟨[v0, .bool false]⟩) := by
  simp [opBuild, Tryz.z173, Tryz.pl173, Instr.fill, cells_agg, h0]
theorem Tryz.z171 : zero? Tryz.prog 171 = some (.pointer none) := by kernel_rfl
theorem Tryz.s171 : sz? Tryz.prog 171 = some 1 := by kernel_rfl
def Tryz.st171 := st_n (P := Tryz.prog) (t := 171) Tryz.s171
def Tryz.ld171 := ld_one (P := Tryz.prog) (t := 171) (by kernel_rfl)
def Tryz.c133 := call_b (P := Tryz.prog) Tryz.func133 (by kernel_rfl) (by kernel_rfl)
def Tryz.cv2_5 := And.intro (cv_int (P := Tryz.prog) (s := 2) (e := 5) Tryz.u2) (cvi (P := Tryz.prog) (s := 2) (e := 5) Tryz.u2 Tryz.u5)
def Tryz.cv2_22 := And.intro (cv_int (P := Tryz.prog) (s := 2) (e := 22) Tryz.u2) (cvi (P := Tryz.prog) (s := 2) (e := 22) Tryz.u2 Tryz.u22)
theorem Tryz.bu30_0_1_2 (v0 : Value) (v1 : Value) (v2 : Value) (h0 : v0.cells = #[v0]) (h1 : v1.cells = #[v1]) (h2 : v2.cells = #[v2]) : opBuild Tryz.prog 30 ⟨[(0, v0), (1, v1), (2, v2)]⟩ = some (.agg ⟨[v0, v1, v2, .string ⟨#[]⟩, .string ⟨#[]⟩, .slice none 0 0, .string ⟨#[]⟩, .slice none 0 0, .slice none 0 0, .slice none 0 0, .int .u8 0, .int .i64 0, .int .u32 0]⟩) := by
  simp [opBuild, Tryz.z30, Tryz.pl30, Instr.fill, cells_agg, h0, h1, h2]
def Tryz.c135 := call_b (P := Tryz.prog) Tryz.func135 (by kernel_rfl) (by kernel_rfl)
def Tryz.c134 := call_b (P := Tryz.prog) Tryz.func134 (by kernel_rfl) (by kernel_rfl)
def Tryz.c137 := call_b (P := Tryz.prog) Tryz.func137 (by kernel_rfl) (by kernel_rfl)
def Tryz.c136 := call_b (P := Tryz.prog) Tryz.func136 (by kernel_rfl) (by kernel_rfl)
def Tryz.c139 := call_b (P := Tryz.prog) Tryz.func139 (by kernel_rfl) (by kernel_rfl)
def Tryz.c138 := call_b (P := Tryz.prog) Tryz.func138 (by kernel_rfl) (by kernel_rfl)
def Tryz.c140 := call_b (P := Tryz.prog) Tryz.func140 (by kernel_rfl) (by kernel_rfl)
def Tryz.c141 := call_b (P := Tryz.prog) Tryz.func141 (by kernel_rfl) (by kernel_rfl)
def Tryz.c142 := call_b (P := Tryz.prog) Tryz.func142 (by kernel_rfl) (by kernel_rfl)
def Tryz.fa173_1 := fa_of (P := Tryz.prog) (s := 173) (f := 1) (off := 1) (by kernel_rfl)
def Tryz.fa173_0 := fa_of (P := Tryz.prog) (s := 173) (f := 0) (off := 0) (by kernel_rfl)
theorem Tryz.z185 : zero? Tryz.prog 185 = some (.agg #[.slice none 0 0, .int .i64 0, .bool false]) := by kernel_rfl
theorem Tryz.pl185 : places? Tryz.prog 185 = some (fun i => (#[(0, 1), (1, 1), (2, 1)] : Array (Nat × Nat))[i]?) := by kernel_rfl
theorem Tryz.bu185_0 (v0 : Value) (h0 : v0.cells = #[v0]) : opBuild Tryz.prog 185 ⟨[(0, v0)]⟩ = some (.agg ⟨[v0, .int .i64 0, .bool false]⟩) := by
  simp [opBuild, Tryz.z185, Tryz.pl185, Instr.fill, cells_agg, h0]
theorem Tryz.bu43_   : opBuild Tryz.prog 43 ⟨[]⟩ = some (.agg ⟨[.int .i64 0, .int .u32 0, .int .i64 0, .string ⟨#[]⟩, .string ⟨#[]⟩, .slice none 0 0, .string ⟨#[]⟩, .slice none 0 0, .slice none 0 0, .slice none 0 0, .int .i64 0, .int .i64 0, .int .u32 0]⟩) := by
  simp [opBuild, Tryz.z43, Tryz.pl43, Instr.fill, cells_agg]
def Tryz.c143 := call_b (P := Tryz.prog) Tryz.func143 (by kernel_rfl) (by kernel_rfl)
def Tryz.cv110_3 := And.intro (cv_int (P := Tryz.prog) (s := 110) (e := 3) Tryz.u110) (cvi (P := Tryz.prog) (s := 110) (e := 3) Tryz.u110 Tryz.u3)
def Tryz.st3 := st_n (P := Tryz.prog) (t := 3) Tryz.s3
def Tryz.fa185_2 := fa_of (P := Tryz.prog) (s := 185) (f := 2) (off := 2) (by kernel_rfl)
def Tryz.cv110_22 := And.intro (cv_int (P := Tryz.prog) (s := 110) (e := 22) Tryz.u110) (cvi (P := Tryz.prog) (s := 110) (e := 22) Tryz.u110 Tryz.u22)
def Tryz.cv110_2 := And.intro (cv_int (P := Tryz.prog) (s := 110) (e := 2) Tryz.u110) (cvi (P := Tryz.prog) (s := 110) (e := 2) Tryz.u110 Tryz.u2)
def Tryz.c144 := call_b (P := Tryz.prog) Tryz.func144 (by kernel_rfl) (by kernel_rfl)
def Tryz.c145 := call_b (P := Tryz.prog) Tryz.func145 (by kernel_rfl) (by kernel_rfl)
def Tryz.st38 := st_n (P := Tryz.prog) (t := 38) Tryz.s38
def Tryz.c146 := call_b (P := Tryz.prog) Tryz.func146 (by kernel_rfl) (by kernel_rfl)
def Tryz.fa185_1 := fa_of (P := Tryz.prog) (s := 185) (f := 1) (off := 1) (by kernel_rfl)
def Tryz.c147 := call_b (P := Tryz.prog) Tryz.func147 (by kernel_rfl) (by kernel_rfl)
def Tryz.c149 := call_b (P := Tryz.prog) Tryz.func149 (by kernel_rfl) (by kernel_rfl)
def Tryz.c151 := call_b (P := Tryz.prog) Tryz.func151 (by kernel_rfl) (by kernel_rfl)
def Tryz.c153 := call_b (P := Tryz.prog) Tryz.func153 (by kernel_rfl) (by kernel_rfl)
def Tryz.fa24_0 := fa_of (P := Tryz.prog) (s := 24) (f := 0) (off := 0) (by kernel_rfl)
def Tryz.c160 := call_b (P := Tryz.prog) Tryz.func160 (by kernel_rfl) (by kernel_rfl)
def Tryz.fa24_1 := fa_of (P := Tryz.prog) (s := 24) (f := 1) (off := 1) (by kernel_rfl)
def Tryz.c161 := call_b (P := Tryz.prog) Tryz.func161 (by kernel_rfl) (by kernel_rfl)
theorem Tryz.z210 : zero? Tryz.prog 210 = some (.agg #[.slice none 0 0, .slice none 0 0, .slice none 0 0, .int .i64 0, .bool false, .bool false]) := by kernel_rfl
theorem Tryz.pl210 : places? Tryz.prog 210 = some (fun i => (#[(0, 1), (1, 1), (2, 1), (3, 1), (4, 1), (5, 1)] : Array (Nat × Nat))[i]?) := by kernel_rfl
theorem Tryz.bu210_3_5 (v0 : Value) (v1 : Value) (h0 : v0.cells = #[v0]) (h1 : v1.cells = #[v1]) : opBuild Tryz.prog 210 ⟨[(3, v0), (5, v1)]⟩ = some (.agg ⟨[.slice none 0 0, .slice none 0 0, .slice none 0 0, v0, .bool false, v1]⟩) := by
  simp [opBuild, Tryz.z210, Tryz.pl210, Instr.fill, cells_agg, h0, h1]
def Tryz.c162 := call_b (P := Tryz.prog) Tryz.func162 (by kernel_rfl) (by kernel_rfl)
theorem Tryz.bu126_0 (v0 : Value) (h0 : v0.cells = #[v0]) : opBuild Tryz.prog 126 ⟨[(0, v0)]⟩ = some (.agg ⟨[v0, .slice none 0 0]⟩) := by
  simp [opBuild, Tryz.z126, Tryz.pl126, Instr.fill, cells_agg, h0]
theorem Tryz.u211 : Tryz.prog.underlying 211 = some (.slice 32) := by kernel_rfl
def Tryz.ln211 := o_lenSlice (P := Tryz.prog) (t := 211) Tryz.u211
theorem Tryz.s32 : sz? Tryz.prog 32 = some 1 := by kernel_rfl
def Tryz.ia211 := ia_slice (P := Tryz.prog) (t := 211) Tryz.u211 Tryz.s32
def Tryz.c163 := call_b (P := Tryz.prog) Tryz.func163 (by kernel_rfl) (by kernel_rfl)
def Tryz.c164 := call_b (P := Tryz.prog) Tryz.func164 (by kernel_rfl) (by kernel_rfl)
def Tryz.c165 := call_b (P := Tryz.prog) Tryz.func165 (by kernel_rfl) (by kernel_rfl)
def Tryz.fa126_0 := fa_of (P := Tryz.prog) (s := 126) (f := 0) (off := 0) (by kernel_rfl)
def Tryz.ld123 := ld_one (P := Tryz.prog) (t := 123) (by kernel_rfl)
def Tryz.c166 := call_b (P := Tryz.prog) Tryz.func166 (by kernel_rfl) (by kernel_rfl)
def Tryz.c167 := call_b (P := Tryz.prog) Tryz.func167 (by kernel_rfl) (by kernel_rfl)
theorem Tryz.bu30_0_1_3_4_5 (v0 : Value) (v1 : Value) (v2_0 v2_1 : Value) (v3 : Value) (v4 : Value) (h0 : v0.cells = #[v0]) (h1 : v1.cells = #[v1]) (h3 : v3.cells = #[v3]) (h4 : v4.cells = #[v4]) : opBuild Tryz.prog 30 ⟨[(0, v0), (1, v1), (3, .agg ⟨[v2_0, v2_1]⟩), (4, v3), (5, v4)]⟩ = some (.agg ⟨[v0, v1, .int .i64 0, v2_0, v2_1, v3, v4, .slice none 0 0, .slice none 0 0, .slice none 0 0, .int .u8 0, .int .i64 0, .int .u32 0]⟩) := by
  simp [opBuild, Tryz.z30, Tryz.pl30, Instr.fill, cells_agg, h0, h1, h3, h4]
def Tryz.c168 := call_b (P := Tryz.prog) Tryz.func168 (by kernel_rfl) (by kernel_rfl)
def Tryz.ld210 := ld_agg (P := Tryz.prog) (t := 210) (n := 6) (by kernel_rfl)
theorem Tryz.s210 : sz? Tryz.prog 210 = some 6 := by kernel_rfl
def Tryz.st210 := st_n (P := Tryz.prog) (t := 210) Tryz.s210
def Tryz.fa210_0 := fa_of (P := Tryz.prog) (s := 210) (f := 0) (off := 0) (by kernel_rfl)
def Tryz.c169 := call_b (P := Tryz.prog) Tryz.func169 (by kernel_rfl) (by kernel_rfl)
def Tryz.fa210_1 := fa_of (P := Tryz.prog) (s := 210) (f := 1) (off := 1) (by kernel_rfl)
def Tryz.fa210_2 := fa_of (P := Tryz.prog) (s := 210) (f := 2) (off := 2) (by kernel_rfl)
def Tryz.ld208 := ld_one (P := Tryz.prog) (t := 208) (by kernel_rfl)
def Tryz.c170 := call_b (P := Tryz.prog) Tryz.func170 (by kernel_rfl) (by kernel_rfl)
def Tryz.st32 := st_n (P := Tryz.prog) (t := 32) Tryz.s32
theorem Tryz.s208 : sz? Tryz.prog 208 = some 1 := by kernel_rfl
def Tryz.st208 := st_n (P := Tryz.prog) (t := 208) Tryz.s208
def Tryz.fa210_4 := fa_of (P := Tryz.prog) (s := 210) (f := 4) (off := 4) (by kernel_rfl)
def Tryz.fa210_3 := fa_of (P := Tryz.prog) (s := 210) (f := 3) (off := 3) (by kernel_rfl)
theorem Tryz.z220 : zero? Tryz.prog 220 = some (.agg #[.int .i64 0, .slice none 0 0]) := by kernel_rfl
theorem Tryz.pl220 : places? Tryz.prog 220 = some (fun i => (#[(0, 1), (1, 1)] : Array (Nat × Nat))[i]?) := by kernel_rfl
theorem Tryz.bu220_0_1 (v0 : Value) (v1 : Value) (h0 : v0.cells = #[v0]) (h1 : v1.cells = #[v1]) : opBuild Tryz.prog 220 ⟨[(0, v0), (1, v1)]⟩ = some (.agg ⟨[v0, v1]⟩) := by
  simp [opBuild, Tryz.z220, Tryz.pl220, Instr.fill, cells_agg, h0, h1]
theorem Tryz.zc220 : zcells? Tryz.prog 220 2 = some #[.int .i64 0, .slice none 0 0] := by kernel_rfl
theorem Tryz.u208 : Tryz.prog.underlying 208 = some (.slice 220) := by kernel_rfl
theorem Tryz.s220 : sz? Tryz.prog 220 = some 2 := by kernel_rfl
theorem Tryz.bs208_1 (id : Nat) (σ : St) (v0_0 v0_1 : Value)  : opBuildSlice Tryz.prog 208 1 id ⟨[(0, .agg ⟨[v0_0, v0_1]⟩)]⟩ σ = some (.val (.slice (some ⟨id, 0, none⟩) 1 3) (σ.set id (.cells true 0 id [v0_0, v0_1]))) := by
  simp [opBuildSlice, Tryz.u208, Tryz.s220, Tryz.zc220, Instr.fill, cells_agg, zrow, sliceTo, opNew, show List.range 2 = [0, 1] from rfl]
theorem Tryz.in220_is : (Tryz.prog.info? 220).isSome = true := by kernel_rfl
noncomputable def Tryz.in220 : TypeInfo := (Tryz.prog.info? 220).get Tryz.in220_is
theorem Tryz.in220_eq : Tryz.prog.info? 220 = some Tryz.in220 := (Option.some_get Tryz.in220_is).symm
theorem Tryz.in220_size : Tryz.in220.size = 2 := by kernel_rfl
theorem Tryz.in220_bytes : Tryz.in220.bytes = 32 := by kernel_rfl
def Tryz.ap208_208 := ap (P := Tryz.prog) (sT := 208) (xT := 208) (i := Tryz.in220) Tryz.u208 Tryz.in220_eq Tryz.zc220
def Tryz.as208 := And.intro (fun (i : TypeInfo) (z : Array Value) (σ : St) (B o n k : Nat) (h0 : n ≠ 0) => aps_slice (P := Tryz.prog) (xT := 208) (i := i) (z := z) (σ := σ) (B := B) (o := o) (n := n) (k := k) Tryz.u208 h0) (fun (i : TypeInfo) (z : Array Value) (σ : St) => aps_nil (P := Tryz.prog) (xT := 208) (i := i) (z := z) (σ := σ) Tryz.u208)
def Tryz.c171 := call_b (P := Tryz.prog) Tryz.func171 (by kernel_rfl) (by kernel_rfl)
def Tryz.ln208 := o_lenSlice (P := Tryz.prog) (t := 208) Tryz.u208
def Tryz.ia208 := ia_slice (P := Tryz.prog) (t := 208) Tryz.u208 Tryz.s220
def Tryz.ld220 := ld_agg (P := Tryz.prog) (t := 220) (n := 2) (by kernel_rfl)
def Tryz.st220 := st_n (P := Tryz.prog) (t := 220) Tryz.s220
def Tryz.fa220_0 := fa_of (P := Tryz.prog) (s := 220) (f := 0) (off := 0) (by kernel_rfl)
def Tryz.fa220_1 := fa_of (P := Tryz.prog) (s := 220) (f := 1) (off := 1) (by kernel_rfl)
def Tryz.c172 := call_b (P := Tryz.prog) Tryz.func172 (by kernel_rfl) (by kernel_rfl)
theorem Tryz.pl85 : places? Tryz.prog 85 = some (fun i => (#[(0, 1), (1, 1), (2, 2), (4, 1), (5, 1), (6, 1), (7, 1), (8, 1), (9, 1)] : Array (Nat × Nat))[i]?) := by kernel_rfl
theorem Tryz.bu85_   : opBuild Tryz.prog 85 ⟨[]⟩ = some (.agg ⟨[.int .u32 0, .int .i64 0, .string ⟨#[]⟩, .string ⟨#[]⟩, .slice none 0 0, .string ⟨#[]⟩, .bool false, .slice none 0 0, .slice none 0 0, .slice none 0 0]⟩) := by
  simp [opBuild, Tryz.z85, Tryz.pl85, Instr.fill, cells_agg]
def Tryz.fa85_3 := fa_of (P := Tryz.prog) (s := 85) (f := 3) (off := 4) (by kernel_rfl)
def Tryz.c173 := call_b (P := Tryz.prog) Tryz.func173 (by kernel_rfl) (by kernel_rfl)
def Tryz.c24 := call_b (P := Tryz.prog) Tryz.func24 (by kernel_rfl) (by kernel_rfl)
def Tryz.c25 := call_b (P := Tryz.prog) Tryz.func25 (by kernel_rfl) (by kernel_rfl)
def Tryz.c174 := call_b (P := Tryz.prog) Tryz.func174 (by kernel_rfl) (by kernel_rfl)
theorem Tryz.s83 : sz? Tryz.prog 83 = some 1 := by kernel_rfl
def Tryz.st83 := st_n (P := Tryz.prog) (t := 83) Tryz.s83
def Tryz.c175 := call_b (P := Tryz.prog) Tryz.func175 (by kernel_rfl) (by kernel_rfl)
theorem Tryz.zc85 : zcells? Tryz.prog 85 10 = some #[.int .u32 0, .int .i64 0, .string ⟨#[]⟩, .string ⟨#[]⟩, .slice none 0 0, .string ⟨#[]⟩, .bool false, .slice none 0 0, .slice none 0 0, .slice none 0 0] := by kernel_rfl
theorem Tryz.bs92_1 (id : Nat) (σ : St) (v0_0 v0_1 v0_2 v0_3 v0_4 v0_5 v0_6 v0_7 v0_8 v0_9 : Value)  : opBuildSlice Tryz.prog 92 1 id ⟨[(0, .agg ⟨[v0_0, v0_1, v0_2, v0_3, v0_4, v0_5, v0_6, v0_7, v0_8, v0_9]⟩)]⟩ σ = some (.val (.slice (some ⟨id, 0, none⟩) 1 11) (σ.set id (.cells true 0 id [v0_0, v0_1, v0_2, v0_3, v0_4, v0_5, v0_6, v0_7, v0_8, v0_9]))) := by
  simp [opBuildSlice, Tryz.u92, Tryz.s85, Tryz.zc85, Instr.fill, cells_agg, zrow, sliceTo, opNew, show List.range 10 = [0, 1, 2, 3, 4, 5, 6, 7, 8, 9] from rfl]
theorem Tryz.in85_is : (Tryz.prog.info? 85).isSome = true := by kernel_rfl
noncomputable def Tryz.in85 : TypeInfo := (Tryz.prog.info? 85).get Tryz.in85_is
theorem Tryz.in85_eq : Tryz.prog.info? 85 = some Tryz.in85 := (Option.some_get Tryz.in85_is).symm
theorem Tryz.in85_size : Tryz.in85.size = 10 := by kernel_rfl
theorem Tryz.in85_bytes : Tryz.in85.bytes = 168 := by kernel_rfl
def Tryz.ap92_92 := ap (P := Tryz.prog) (sT := 92) (xT := 92) (i := Tryz.in85) Tryz.u92 Tryz.in85_eq Tryz.zc85
def Tryz.as92 := And.intro (fun (i : TypeInfo) (z : Array Value) (σ : St) (B o n k : Nat) (h0 : n ≠ 0) => aps_slice (P := Tryz.prog) (xT := 92) (i := i) (z := z) (σ := σ) (B := B) (o := o) (n := n) (k := k) Tryz.u92 h0) (fun (i : TypeInfo) (z : Array Value) (σ : St) => aps_nil (P := Tryz.prog) (xT := 92) (i := i) (z := z) (σ := σ) Tryz.u92)
def Tryz.c176 := call_b (P := Tryz.prog) Tryz.func176 (by kernel_rfl) (by kernel_rfl)
def Tryz.c177 := call_b (P := Tryz.prog) Tryz.func177 (by kernel_rfl) (by kernel_rfl)
def Tryz.c178 := call_b (P := Tryz.prog) Tryz.func178 (by kernel_rfl) (by kernel_rfl)
def Tryz.c179 := call_b (P := Tryz.prog) Tryz.func179 (by kernel_rfl) (by kernel_rfl)
def Tryz.c180 := call_b (P := Tryz.prog) Tryz.func180 (by kernel_rfl) (by kernel_rfl)
def Tryz.fa100_2 := fa_of (P := Tryz.prog) (s := 100) (f := 2) (off := 2) (by kernel_rfl)
theorem Tryz.zc100 : zcells? Tryz.prog 100 17 = some #[.int .i64 0, .int .i64 0, .int .u8 0, .int .u32 0, .int .i64 0, .string ⟨#[]⟩, .string ⟨#[]⟩, .slice none 0 0, .string ⟨#[]⟩, .slice none 0 0, .slice none 0 0, .slice none 0 0, .int .u8 0, .int .i64 0, .int .u32 0, .slice none 0 0, .bool false] := by kernel_rfl
theorem Tryz.in100_is : (Tryz.prog.info? 100).isSome = true := by kernel_rfl
noncomputable def Tryz.in100 : TypeInfo := (Tryz.prog.info? 100).get Tryz.in100_is
theorem Tryz.in100_eq : Tryz.prog.info? 100 = some Tryz.in100 := (Option.some_get Tryz.in100_is).symm
theorem Tryz.in100_size : Tryz.in100.size = 17 := by kernel_rfl
theorem Tryz.in100_bytes : Tryz.in100.bytes = 232 := by kernel_rfl
def Tryz.ap97_97 := ap (P := Tryz.prog) (sT := 97) (xT := 97) (i := Tryz.in100) Tryz.u97 Tryz.in100_eq Tryz.zc100
def Tryz.as97 := And.intro (fun (i : TypeInfo) (z : Array Value) (σ : St) (B o n k : Nat) (h0 : n ≠ 0) => aps_slice (P := Tryz.prog) (xT := 97) (i := i) (z := z) (σ := σ) (B := B) (o := o) (n := n) (k := k) Tryz.u97 h0) (fun (i : TypeInfo) (z : Array Value) (σ : St) => aps_nil (P := Tryz.prog) (xT := 97) (i := i) (z := z) (σ := σ) Tryz.u97)
def Tryz.fa100_4 := fa_of (P := Tryz.prog) (s := 100) (f := 4) (off := 16) (by kernel_rfl)
def Tryz.c181 := call_b (P := Tryz.prog) Tryz.func181 (by kernel_rfl) (by kernel_rfl)
def Tryz.fa89_1 := fa_of (P := Tryz.prog) (s := 89) (f := 1) (off := 1) (by kernel_rfl)
theorem Tryz.s4 : sz? Tryz.prog 4 = some 1 := by kernel_rfl
def Tryz.st4 := st_n (P := Tryz.prog) (t := 4) Tryz.s4
def Tryz.fa126_1 := fa_of (P := Tryz.prog) (s := 126) (f := 1) (off := 1) (by kernel_rfl)
def Tryz.ld124 := ld_one (P := Tryz.prog) (t := 124) (by kernel_rfl)
theorem Tryz.u124 : Tryz.prog.underlying 124 = some (.slice 222) := by kernel_rfl
def Tryz.ln124 := o_lenSlice (P := Tryz.prog) (t := 124) Tryz.u124
theorem Tryz.s222 : sz? Tryz.prog 222 = some 1 := by kernel_rfl
def Tryz.ia124 := ia_slice (P := Tryz.prog) (t := 124) Tryz.u124 Tryz.s222
def Tryz.ld222 := ld_one (P := Tryz.prog) (t := 222) (by kernel_rfl)
theorem Tryz.in22_is : (Tryz.prog.info? 22).isSome = true := by kernel_rfl
noncomputable def Tryz.in22 : TypeInfo := (Tryz.prog.info? 22).get Tryz.in22_is
theorem Tryz.in22_eq : Tryz.prog.info? 22 = some Tryz.in22 := (Option.some_get Tryz.in22_is).symm
theorem Tryz.in22_size : Tryz.in22.size = 1 := by kernel_rfl
theorem Tryz.in22_bytes : Tryz.in22.bytes = 4 := by kernel_rfl
def Tryz.ap105_105 := ap (P := Tryz.prog) (sT := 105) (xT := 105) (i := Tryz.in22) Tryz.u105 Tryz.in22_eq Tryz.zc22
def Tryz.as105 := And.intro (fun (i : TypeInfo) (z : Array Value) (σ : St) (B o n k : Nat) (h0 : n ≠ 0) => aps_slice (P := Tryz.prog) (xT := 105) (i := i) (z := z) (σ := σ) (B := B) (o := o) (n := n) (k := k) Tryz.u105 h0) (fun (i : TypeInfo) (z : Array Value) (σ : St) => aps_nil (P := Tryz.prog) (xT := 105) (i := i) (z := z) (σ := σ) Tryz.u105)
def Tryz.c182 := call_b (P := Tryz.prog) Tryz.func182 (by kernel_rfl) (by kernel_rfl)
def Tryz.c183 := call_b (P := Tryz.prog) Tryz.func183 (by kernel_rfl) (by kernel_rfl)
def Tryz.ia112 := ia_slice (P := Tryz.prog) (t := 112) Tryz.u112 Tryz.s114
def Tryz.fa89_2 := fa_of (P := Tryz.prog) (s := 89) (f := 2) (off := 2) (by kernel_rfl)
def Tryz.fa114_0 := fa_of (P := Tryz.prog) (s := 114) (f := 0) (off := 0) (by kernel_rfl)
theorem Tryz.zc117 : zcells? Tryz.prog 117 1 = some #[.float .f64 0] := by kernel_rfl
theorem Tryz.u233 : Tryz.prog.underlying 233 = some (.slice 117) := by kernel_rfl
theorem Tryz.s117 : sz? Tryz.prog 117 = some 1 := by kernel_rfl
theorem Tryz.bs233_1 (id : Nat) (σ : St) (v0 : Value) (h0 : v0.cells = #[v0]) : opBuildSlice Tryz.prog 233 1 id ⟨[(0, v0)]⟩ σ = some (.val (.slice (some ⟨id, 0, none⟩) 1 2) (σ.set id (.cells true 0 id [v0]))) := by
  simp [opBuildSlice, Tryz.u233, Tryz.s117, Tryz.zc117, Instr.fill, cells_agg, zrow, sliceTo, opNew, h0, show List.range 1 = [0] from rfl]
theorem Tryz.in117_is : (Tryz.prog.info? 117).isSome = true := by kernel_rfl
noncomputable def Tryz.in117 : TypeInfo := (Tryz.prog.info? 117).get Tryz.in117_is
theorem Tryz.in117_eq : Tryz.prog.info? 117 = some Tryz.in117 := (Option.some_get Tryz.in117_is).symm
theorem Tryz.in117_size : Tryz.in117.size = 1 := by kernel_rfl
theorem Tryz.in117_bytes : Tryz.in117.bytes = 8 := by kernel_rfl
def Tryz.ap233_233 := ap (P := Tryz.prog) (sT := 233) (xT := 233) (i := Tryz.in117) Tryz.u233 Tryz.in117_eq Tryz.zc117
def Tryz.as233 := And.intro (fun (i : TypeInfo) (z : Array Value) (σ : St) (B o n k : Nat) (h0 : n ≠ 0) => aps_slice (P := Tryz.prog) (xT := 233) (i := i) (z := z) (σ := σ) (B := B) (o := o) (n := n) (k := k) Tryz.u233 h0) (fun (i : TypeInfo) (z : Array Value) (σ : St) => aps_nil (P := Tryz.prog) (xT := 233) (i := i) (z := z) (σ := σ) Tryz.u233)
def Tryz.c184 := call_b (P := Tryz.prog) Tryz.func184 (by kernel_rfl) (by kernel_rfl)
theorem Tryz.bu114_   : opBuild Tryz.prog 114 ⟨[]⟩ = some (.agg ⟨[.int .u32 0, .int .i64 0]⟩) := by
  simp [opBuild, Tryz.z114, Tryz.pl114, Instr.fill, cells_agg]
def Tryz.c185 := call_b (P := Tryz.prog) Tryz.func185 (by kernel_rfl) (by kernel_rfl)
def Tryz.c186 := call_b (P := Tryz.prog) Tryz.func186 (by kernel_rfl) (by kernel_rfl)
def Tryz.c187 := call_b (P := Tryz.prog) Tryz.func187 (by kernel_rfl) (by kernel_rfl)
def Tryz.c188 := call_b (P := Tryz.prog) Tryz.func188 (by kernel_rfl) (by kernel_rfl)
def Tryz.sl9 := And.intro (fun (v : ByteArray) (k : IntKind) (i : Int) (σ : St) => str_lo (P := Tryz.prog) (t := 9) (v := v) (k := k) (i := i) (σ := σ) Tryz.u9) (And.intro (fun (v : ByteArray) (k : IntKind) (i : Int) (σ : St) => str_hi (P := Tryz.prog) (t := 9) (v := v) (k := k) (i := i) (σ := σ) Tryz.u9) (fun (v : ByteArray) (k k2 : IntKind) (i j : Int) (σ : St) => str_both (P := Tryz.prog) (t := 9) (v := v) (k := k) (k' := k2) (i := i) (j := j) (σ := σ) Tryz.u9))
theorem Tryz.bu56_0_4 (v0_0 v0_1 : Value) (v1_0 v1_1 : Value)  : opBuild Tryz.prog 56 ⟨[(0, .agg ⟨[v0_0, v0_1]⟩), (4, .agg ⟨[v1_0, v1_1]⟩)]⟩ = some (.agg ⟨[v0_0, v0_1, .string ⟨#[]⟩, .string ⟨#[]⟩, .string ⟨#[]⟩, .string ⟨#[]⟩, v1_0, v1_1, .bool false]⟩) := by
  simp [opBuild, Tryz.z56, Tryz.pl56, Instr.fill, cells_agg]
def Tryz.c189 := call_b (P := Tryz.prog) Tryz.func189 (by kernel_rfl) (by kernel_rfl)
theorem Tryz.u196 : Tryz.prog.underlying 196 = some (.int .u64) := by kernel_rfl
def Tryz.cv3_196 := And.intro (cv_int (P := Tryz.prog) (s := 3) (e := 196) Tryz.u3) (cvi (P := Tryz.prog) (s := 3) (e := 196) Tryz.u3 Tryz.u196)
def Tryz.cv196_3 := And.intro (cv_int (P := Tryz.prog) (s := 196) (e := 3) Tryz.u196) (cvi (P := Tryz.prog) (s := 196) (e := 3) Tryz.u196 Tryz.u3)
def Tryz.c37 := call_b (P := Tryz.prog) Tryz.func37 (by kernel_rfl) (by kernel_rfl)
def Tryz.c103 := call_b (P := Tryz.prog) Tryz.func103 (by kernel_rfl) (by kernel_rfl)
def Tryz.c102 := call_b (P := Tryz.prog) Tryz.func102 (by kernel_rfl) (by kernel_rfl)
def Tryz.ap32_9 := ap (P := Tryz.prog) (sT := 32) (xT := 9) (i := Tryz.in5) Tryz.u32 Tryz.in5_eq Tryz.zc5
def Tryz.as9 := fun (z : Array Value) (σ : St) (s : ByteArray) => aps_str (P := Tryz.prog) (xT := 9) (i := Tryz.in5) (z := z) (σ := σ) Tryz.u9 Tryz.in5_size (s := s)
def Tryz.cv110_5 := And.intro (cv_int (P := Tryz.prog) (s := 110) (e := 5) Tryz.u110) (cvi (P := Tryz.prog) (s := 110) (e := 5) Tryz.u110 Tryz.u5)
def Tryz.fa38_0 := fa_of (P := Tryz.prog) (s := 38) (f := 0) (off := 0) (by kernel_rfl)
def Tryz.fa38_1 := fa_of (P := Tryz.prog) (s := 38) (f := 1) (off := 1) (by kernel_rfl)
theorem Tryz.z38 : zero? Tryz.prog 38 = some (.agg #[.string ⟨#[]⟩, .string ⟨#[]⟩]) := by kernel_rfl
theorem Tryz.pl150 : places? Tryz.prog 150 = some (fun i => (#[(0, 2), (2, 1), (3, 1), (4, 2), (6, 2), (8, 1)] : Array (Nat × Nat))[i]?) := by kernel_rfl
theorem Tryz.bu150_0_1_2_3_4_5 (v0_0 v0_1 : Value) (v1 : Value) (v2 : Value) (v3_0 v3_1 : Value) (v4_0 v4_1 : Value) (v5 : Value) (h1 : v1.cells = #[v1]) (h2 : v2.cells = #[v2]) (h5 : v5.cells = #[v5]) : opBuild Tryz.prog 150 ⟨[(0, .agg ⟨[v0_0, v0_1]⟩), (1, v1), (2, v2), (3, .agg ⟨[v3_0, v3_1]⟩), (4, .agg ⟨[v4_0, v4_1]⟩), (5, v5)]⟩ = some (.agg ⟨[v0_0, v0_1, v1, v2, v3_0, v3_1, v4_0, v4_1, v5]⟩) := by
  simp [opBuild, Tryz.z150, Tryz.pl150, Instr.fill, cells_agg, h1, h2, h5]
theorem Tryz.pl154 : places? Tryz.prog 154 = some (fun i => (#[(0, 2), (2, 1), (3, 1)] : Array (Nat × Nat))[i]?) := by kernel_rfl
theorem Tryz.bu154_0_1_2 (v0_0 v0_1 : Value) (v1 : Value) (v2 : Value) (h1 : v1.cells = #[v1]) (h2 : v2.cells = #[v2]) : opBuild Tryz.prog 154 ⟨[(0, .agg ⟨[v0_0, v0_1]⟩), (1, v1), (2, v2)]⟩ = some (.agg ⟨[v0_0, v0_1, v1, v2]⟩) := by
  simp [opBuild, Tryz.z154, Tryz.pl154, Instr.fill, cells_agg, h1, h2]
def Tryz.c190 := call_b (P := Tryz.prog) Tryz.func190 (by kernel_rfl) (by kernel_rfl)
def Tryz.c64 := call_b (P := Tryz.prog) Tryz.func64 (by kernel_rfl) (by kernel_rfl)
def Tryz.c192 := call_b (P := Tryz.prog) Tryz.func192 (by kernel_rfl) (by kernel_rfl)
def Tryz.c191 := call_b (P := Tryz.prog) Tryz.func191 (by kernel_rfl) (by kernel_rfl)
def Tryz.c194 := call_b (P := Tryz.prog) Tryz.func194 (by kernel_rfl) (by kernel_rfl)
def Tryz.c193 := call_b (P := Tryz.prog) Tryz.func193 (by kernel_rfl) (by kernel_rfl)
def Tryz.c196 := call_b (P := Tryz.prog) Tryz.func196 (by kernel_rfl) (by kernel_rfl)
def Tryz.c195 := call_b (P := Tryz.prog) Tryz.func195 (by kernel_rfl) (by kernel_rfl)
def Tryz.c197 := call_b (P := Tryz.prog) Tryz.func197 (by kernel_rfl) (by kernel_rfl)
def Tryz.c198 := call_b (P := Tryz.prog) Tryz.func198 (by kernel_rfl) (by kernel_rfl)
def Tryz.c200 := call_b (P := Tryz.prog) Tryz.func200 (by kernel_rfl) (by kernel_rfl)
def Tryz.fa150_5 := fa_of (P := Tryz.prog) (s := 150) (f := 5) (off := 8) (by kernel_rfl)
def Tryz.c201 := call_b (P := Tryz.prog) Tryz.func201 (by kernel_rfl) (by kernel_rfl)
def Tryz.c202 := call_b (P := Tryz.prog) Tryz.func202 (by kernel_rfl) (by kernel_rfl)
def Tryz.c203 := call_b (P := Tryz.prog) Tryz.func203 (by kernel_rfl) (by kernel_rfl)
theorem Tryz.bu56_0 (v0_0 v0_1 : Value)  : opBuild Tryz.prog 56 ⟨[(0, .agg ⟨[v0_0, v0_1]⟩)]⟩ = some (.agg ⟨[v0_0, v0_1, .string ⟨#[]⟩, .string ⟨#[]⟩, .string ⟨#[]⟩, .string ⟨#[]⟩, .string ⟨#[]⟩, .string ⟨#[]⟩, .bool false]⟩) := by
  simp [opBuild, Tryz.z56, Tryz.pl56, Instr.fill, cells_agg]
theorem Tryz.bu58_0 (v0_0 v0_1 : Value)  : opBuild Tryz.prog 58 ⟨[(0, .agg ⟨[v0_0, v0_1]⟩)]⟩ = some (.agg ⟨[v0_0, v0_1, .int .i64 0, .string ⟨#[]⟩]⟩) := by
  simp [opBuild, Tryz.z58, Tryz.pl58, Instr.fill, cells_agg]
def Tryz.fa185_0 := fa_of (P := Tryz.prog) (s := 185) (f := 0) (off := 0) (by kernel_rfl)
def Tryz.cv5_110 := And.intro (cv_int (P := Tryz.prog) (s := 5) (e := 110) Tryz.u5) (cvi (P := Tryz.prog) (s := 5) (e := 110) Tryz.u5 Tryz.u110)
theorem Tryz.bu150_   : opBuild Tryz.prog 150 ⟨[]⟩ = some (.agg ⟨[.string ⟨#[]⟩, .string ⟨#[]⟩, .string ⟨#[]⟩, .string ⟨#[]⟩, .string ⟨#[]⟩, .string ⟨#[]⟩, .string ⟨#[]⟩, .string ⟨#[]⟩, .bool false]⟩) := by
  simp [opBuild, Tryz.z150, Tryz.pl150, Instr.fill, cells_agg]
theorem Tryz.bu154_   : opBuild Tryz.prog 154 ⟨[]⟩ = some (.agg ⟨[.string ⟨#[]⟩, .string ⟨#[]⟩, .int .i64 0, .string ⟨#[]⟩]⟩) := by
  simp [opBuild, Tryz.z154, Tryz.pl154, Instr.fill, cells_agg]
theorem Tryz.pl38 : places? Tryz.prog 38 = some (fun i => (#[(0, 1), (1, 1)] : Array (Nat × Nat))[i]?) := by kernel_rfl
theorem Tryz.bu38_   : opBuild Tryz.prog 38 ⟨[]⟩ = some (.agg ⟨[.string ⟨#[]⟩, .string ⟨#[]⟩]⟩) := by
  simp [opBuild, Tryz.z38, Tryz.pl38, Instr.fill, cells_agg]
def Tryz.c206 := call_b (P := Tryz.prog) Tryz.func206 (by kernel_rfl) (by kernel_rfl)
def Tryz.rg9 := rg_str (P := Tryz.prog) (t := 9) Tryz.u9
theorem Tryz.u21 : Tryz.prog.underlying 21 = some (.int .i32) := by kernel_rfl
def Tryz.cv21_5 := And.intro (cv_int (P := Tryz.prog) (s := 21) (e := 5) Tryz.u21) (cvi (P := Tryz.prog) (s := 21) (e := 5) Tryz.u21 Tryz.u5)
def Tryz.c209 := call_b (P := Tryz.prog) Tryz.func209 (by kernel_rfl) (by kernel_rfl)
def Tryz.c210 := call_b (P := Tryz.prog) Tryz.func210 (by kernel_rfl) (by kernel_rfl)
theorem Tryz.z253 : zero? Tryz.prog 253 = some (.agg #[.pointer none, .int .i64 0, .int .u32 0, .int .u32 0, .int .u32 0]) := by kernel_rfl
theorem Tryz.pl253 : places? Tryz.prog 253 = some (fun i => (#[(0, 1), (1, 1), (2, 1), (3, 1), (4, 1)] : Array (Nat × Nat))[i]?) := by kernel_rfl
theorem Tryz.bu253_0_3 (v0 : Value) (v1 : Value) (h0 : v0.cells = #[v0]) (h1 : v1.cells = #[v1]) : opBuild Tryz.prog 253 ⟨[(0, v0), (3, v1)]⟩ = some (.agg ⟨[v0, .int .i64 0, .int .u32 0, v1, .int .u32 0]⟩) := by
  simp [opBuild, Tryz.z253, Tryz.pl253, Instr.fill, cells_agg, h0, h1]
theorem Tryz.z211 : zero? Tryz.prog 211 = some (.slice none 0 0) := by kernel_rfl
def Tryz.c211 := call_b (P := Tryz.prog) Tryz.func211 (by kernel_rfl) (by kernel_rfl)
def Tryz.ld211 := ld_one (P := Tryz.prog) (t := 211) (by kernel_rfl)
theorem Tryz.zc32 : zcells? Tryz.prog 32 1 = some #[.slice none 0 0] := by kernel_rfl
theorem Tryz.bs211_1 (id : Nat) (σ : St) (v0 : Value) (h0 : v0.cells = #[v0]) : opBuildSlice Tryz.prog 211 1 id ⟨[(0, v0)]⟩ σ = some (.val (.slice (some ⟨id, 0, none⟩) 1 2) (σ.set id (.cells true 0 id [v0]))) := by
  simp [opBuildSlice, Tryz.u211, Tryz.s32, Tryz.zc32, Instr.fill, cells_agg, zrow, sliceTo, opNew, h0, show List.range 1 = [0] from rfl]
theorem Tryz.in32_is : (Tryz.prog.info? 32).isSome = true := by kernel_rfl
noncomputable def Tryz.in32 : TypeInfo := (Tryz.prog.info? 32).get Tryz.in32_is
theorem Tryz.in32_eq : Tryz.prog.info? 32 = some Tryz.in32 := (Option.some_get Tryz.in32_is).symm
theorem Tryz.in32_size : Tryz.in32.size = 1 := by kernel_rfl
theorem Tryz.in32_bytes : Tryz.in32.bytes = 24 := by kernel_rfl
def Tryz.ap211_211 := ap (P := Tryz.prog) (sT := 211) (xT := 211) (i := Tryz.in32) Tryz.u211 Tryz.in32_eq Tryz.zc32
def Tryz.as211 := And.intro (fun (i : TypeInfo) (z : Array Value) (σ : St) (B o n k : Nat) (h0 : n ≠ 0) => aps_slice (P := Tryz.prog) (xT := 211) (i := i) (z := z) (σ := σ) (B := B) (o := o) (n := n) (k := k) Tryz.u211 h0) (fun (i : TypeInfo) (z : Array Value) (σ : St) => aps_nil (P := Tryz.prog) (xT := 211) (i := i) (z := z) (σ := σ) Tryz.u211)
theorem Tryz.s211 : sz? Tryz.prog 211 = some 1 := by kernel_rfl
def Tryz.st211 := st_n (P := Tryz.prog) (t := 211) Tryz.s211
def Tryz.fa253_1 := fa_of (P := Tryz.prog) (s := 253) (f := 1) (off := 1) (by kernel_rfl)
def Tryz.c212 := call_b (P := Tryz.prog) Tryz.func212 (by kernel_rfl) (by kernel_rfl)
def Tryz.fa253_3 := fa_of (P := Tryz.prog) (s := 253) (f := 3) (off := 3) (by kernel_rfl)
def Tryz.fa253_4 := fa_of (P := Tryz.prog) (s := 253) (f := 4) (off := 4) (by kernel_rfl)
def Tryz.c213 := call_b (P := Tryz.prog) Tryz.func213 (by kernel_rfl) (by kernel_rfl)
def Tryz.c214 := call_b (P := Tryz.prog) Tryz.func214 (by kernel_rfl) (by kernel_rfl)
def Tryz.c215 := call_b (P := Tryz.prog) Tryz.func215 (by kernel_rfl) (by kernel_rfl)
theorem Tryz.bu85_0_1_2_3_4 (v0 : Value) (v1 : Value) (v2_0 v2_1 : Value) (v3 : Value) (v4 : Value) (h0 : v0.cells = #[v0]) (h1 : v1.cells = #[v1]) (h3 : v3.cells = #[v3]) (h4 : v4.cells = #[v4]) : opBuild Tryz.prog 85 ⟨[(0, v0), (1, v1), (2, .agg ⟨[v2_0, v2_1]⟩), (3, v3), (4, v4)]⟩ = some (.agg ⟨[v0, v1, v2_0, v2_1, v3, v4, .bool false, .slice none 0 0, .slice none 0 0, .slice none 0 0]⟩) := by
  simp [opBuild, Tryz.z85, Tryz.pl85, Instr.fill, cells_agg, h0, h1, h3, h4]
theorem Tryz.zc222 : zcells? Tryz.prog 222 1 = some #[.pointer none] := by kernel_rfl
theorem Tryz.bs124_1 (id : Nat) (σ : St) (v0 : Value) (h0 : v0.cells = #[v0]) : opBuildSlice Tryz.prog 124 1 id ⟨[(0, v0)]⟩ σ = some (.val (.slice (some ⟨id, 0, none⟩) 1 2) (σ.set id (.cells true 0 id [v0]))) := by
  simp [opBuildSlice, Tryz.u124, Tryz.s222, Tryz.zc222, Instr.fill, cells_agg, zrow, sliceTo, opNew, h0, show List.range 1 = [0] from rfl]
theorem Tryz.in222_is : (Tryz.prog.info? 222).isSome = true := by kernel_rfl
noncomputable def Tryz.in222 : TypeInfo := (Tryz.prog.info? 222).get Tryz.in222_is
theorem Tryz.in222_eq : Tryz.prog.info? 222 = some Tryz.in222 := (Option.some_get Tryz.in222_is).symm
theorem Tryz.in222_size : Tryz.in222.size = 1 := by kernel_rfl
theorem Tryz.in222_bytes : Tryz.in222.bytes = 8 := by kernel_rfl
def Tryz.ap124_124 := ap (P := Tryz.prog) (sT := 124) (xT := 124) (i := Tryz.in222) Tryz.u124 Tryz.in222_eq Tryz.zc222
def Tryz.as124 := And.intro (fun (i : TypeInfo) (z : Array Value) (σ : St) (B o n k : Nat) (h0 : n ≠ 0) => aps_slice (P := Tryz.prog) (xT := 124) (i := i) (z := z) (σ := σ) (B := B) (o := o) (n := n) (k := k) Tryz.u124 h0) (fun (i : TypeInfo) (z : Array Value) (σ : St) => aps_nil (P := Tryz.prog) (xT := 124) (i := i) (z := z) (σ := σ) Tryz.u124)
theorem Tryz.s124 : sz? Tryz.prog 124 = some 1 := by kernel_rfl
def Tryz.st124 := st_n (P := Tryz.prog) (t := 124) Tryz.s124
theorem Tryz.bu85_0_1_3_4 (v0 : Value) (v1 : Value) (v2 : Value) (v3 : Value) (h0 : v0.cells = #[v0]) (h1 : v1.cells = #[v1]) (h2 : v2.cells = #[v2]) (h3 : v3.cells = #[v3]) : opBuild Tryz.prog 85 ⟨[(0, v0), (1, v1), (3, v2), (4, v3)]⟩ = some (.agg ⟨[v0, v1, .string ⟨#[]⟩, .string ⟨#[]⟩, v2, v3, .bool false, .slice none 0 0, .slice none 0 0, .slice none 0 0]⟩) := by
  simp [opBuild, Tryz.z85, Tryz.pl85, Instr.fill, cells_agg, h0, h1, h2, h3]
def Tryz.c216 := call_b (P := Tryz.prog) Tryz.func216 (by kernel_rfl) (by kernel_rfl)
def Tryz.fa253_2 := fa_of (P := Tryz.prog) (s := 253) (f := 2) (off := 2) (by kernel_rfl)
def Tryz.c217 := call_b (P := Tryz.prog) Tryz.func217 (by kernel_rfl) (by kernel_rfl)
def Tryz.fa253_0 := fa_of (P := Tryz.prog) (s := 253) (f := 0) (off := 0) (by kernel_rfl)
def Tryz.ld70 := ld_one (P := Tryz.prog) (t := 70) (by kernel_rfl)
def Tryz.c218 := call_b (P := Tryz.prog) Tryz.func218 (by kernel_rfl) (by kernel_rfl)
def Tryz.fa210_5 := fa_of (P := Tryz.prog) (s := 210) (f := 5) (off := 5) (by kernel_rfl)
theorem Tryz.zc89 : zcells? Tryz.prog 89 3 = some #[.int .u8 0, .int .i64 0, .int .i64 0] := by kernel_rfl
theorem Tryz.in89_is : (Tryz.prog.info? 89).isSome = true := by kernel_rfl
noncomputable def Tryz.in89 : TypeInfo := (Tryz.prog.info? 89).get Tryz.in89_is
theorem Tryz.in89_eq : Tryz.prog.info? 89 = some Tryz.in89 := (Option.some_get Tryz.in89_is).symm
theorem Tryz.in89_size : Tryz.in89.size = 3 := by kernel_rfl
theorem Tryz.in89_bytes : Tryz.in89.bytes = 24 := by kernel_rfl
def Tryz.ap83_83 := ap (P := Tryz.prog) (sT := 83) (xT := 83) (i := Tryz.in89) Tryz.u83 Tryz.in89_eq Tryz.zc89
def Tryz.as83 := And.intro (fun (i : TypeInfo) (z : Array Value) (σ : St) (B o n k : Nat) (h0 : n ≠ 0) => aps_slice (P := Tryz.prog) (xT := 83) (i := i) (z := z) (σ := σ) (B := B) (o := o) (n := n) (k := k) Tryz.u83 h0) (fun (i : TypeInfo) (z : Array Value) (σ : St) => aps_nil (P := Tryz.prog) (xT := 83) (i := i) (z := z) (σ := σ) Tryz.u83)
def Tryz.c219 := call_b (P := Tryz.prog) Tryz.func219 (by kernel_rfl) (by kernel_rfl)
def Tryz.cv3_22 := And.intro (cv_int (P := Tryz.prog) (s := 3) (e := 22) Tryz.u3) (cvi (P := Tryz.prog) (s := 3) (e := 22) Tryz.u3 Tryz.u22)
def Tryz.c221 := call_b (P := Tryz.prog) Tryz.func221 (by kernel_rfl) (by kernel_rfl)
def Tryz.c222 := call_b (P := Tryz.prog) Tryz.func222 (by kernel_rfl) (by kernel_rfl)
def Tryz.c223 := call_b (P := Tryz.prog) Tryz.func223 (by kernel_rfl) (by kernel_rfl)
def Tryz.ln233 := o_lenSlice (P := Tryz.prog) (t := 233) Tryz.u233
def Tryz.ia233 := ia_slice (P := Tryz.prog) (t := 233) Tryz.u233 Tryz.s117
def Tryz.ld117 := ld_one (P := Tryz.prog) (t := 117) (by kernel_rfl)
def Tryz.c224 := call_b (P := Tryz.prog) Tryz.func224 (by kernel_rfl) (by kernel_rfl)
def Tryz.cv9_32 := cv_sb (P := Tryz.prog) (s := 9) (e := 32) Tryz.u9 Tryz.u32 Tryz.u5
def Tryz.ix9 := ix_str (P := Tryz.prog) (t := 9) Tryz.u9
def Tryz.c225 := call_b (P := Tryz.prog) Tryz.func225 (by kernel_rfl) (by kernel_rfl)
def Tryz.c226 := call_b (P := Tryz.prog) Tryz.func226 (by kernel_rfl) (by kernel_rfl)
def Tryz.c228 := call_b (P := Tryz.prog) Tryz.func228 (by kernel_rfl) (by kernel_rfl)
def Tryz.c227 := call_b (P := Tryz.prog) Tryz.func227 (by kernel_rfl) (by kernel_rfl)
def Tryz.c232 := call_b (P := Tryz.prog) Tryz.func232 (by kernel_rfl) (by kernel_rfl)
def Tryz.ld68 := ld_one (P := Tryz.prog) (t := 68) (by kernel_rfl)
def Tryz.c233 := call_b (P := Tryz.prog) Tryz.func233 (by kernel_rfl) (by kernel_rfl)
def Tryz.ld163 := ld_one (P := Tryz.prog) (t := 163) (by kernel_rfl)
def Tryz.c234 := call_b (P := Tryz.prog) Tryz.func234 (by kernel_rfl) (by kernel_rfl)
def Tryz.ld165 := ld_one (P := Tryz.prog) (t := 165) (by kernel_rfl)
def Tryz.c235 := call_b (P := Tryz.prog) Tryz.func235 (by kernel_rfl) (by kernel_rfl)
def Tryz.c237 := call_b (P := Tryz.prog) Tryz.func237 (by kernel_rfl) (by kernel_rfl)
def Tryz.c236 := call_b (P := Tryz.prog) Tryz.func236 (by kernel_rfl) (by kernel_rfl)
def Tryz.c238 := call_b (P := Tryz.prog) Tryz.func238 (by kernel_rfl) (by kernel_rfl)
def Tryz.c239 := call_b (P := Tryz.prog) Tryz.func239 (by kernel_rfl) (by kernel_rfl)
def Tryz.c240 := call_b (P := Tryz.prog) Tryz.func240 (by kernel_rfl) (by kernel_rfl)
def Tryz.c243 := call_b (P := Tryz.prog) Tryz.func243 (by kernel_rfl) (by kernel_rfl)
def Tryz.c247 := call_b (P := Tryz.prog) Tryz.func247 (by kernel_rfl) (by kernel_rfl)
def Tryz.c248 := call_b (P := Tryz.prog) Tryz.func248 (by kernel_rfl) (by kernel_rfl)
def Tryz.c249 := call_b (P := Tryz.prog) Tryz.func249 (by kernel_rfl) (by kernel_rfl)
def Tryz.c253 := call_b (P := Tryz.prog) Tryz.func253 (by kernel_rfl) (by kernel_rfl)
theorem Tryz.z3 : zero? Tryz.prog 3 = some (.int .i64 0) := by kernel_rfl
def Tryz.c255 := call_b (P := Tryz.prog) Tryz.func255 (by kernel_rfl) (by kernel_rfl)
def Tryz.c256 := call_b (P := Tryz.prog) Tryz.func256 (by kernel_rfl) (by kernel_rfl)
def Tryz.c258 := call_b (P := Tryz.prog) Tryz.func258 (by kernel_rfl) (by kernel_rfl)
def Tryz.c259 := call_b (P := Tryz.prog) Tryz.func259 (by kernel_rfl) (by kernel_rfl)
theorem Tryz.bs211_4 (id : Nat) (σ : St) (v0 : Value) (v1 : Value) (v2 : Value) (v3 : Value) (h0 : v0.cells = #[v0]) (h1 : v1.cells = #[v1]) (h2 : v2.cells = #[v2]) (h3 : v3.cells = #[v3]) : opBuildSlice Tryz.prog 211 4 id ⟨[(0, v0), (1, v1), (2, v2), (3, v3)]⟩ σ = some (.val (.slice (some ⟨id, 0, none⟩) 4 2) (σ.set id (.cells true 0 id [v0, v1, v2, v3]))) := by
  simp [opBuildSlice, Tryz.u211, Tryz.s32, Tryz.zc32, Instr.fill, cells_agg, zrow, sliceTo, opNew, h0, h1, h2, h3, show List.range 4 = [0, 1, 2, 3] from rfl]
def Tryz.c257 := call_b (P := Tryz.prog) Tryz.func257 (by kernel_rfl) (by kernel_rfl)
def Tryz.c260 := call_b (P := Tryz.prog) Tryz.func260 (by kernel_rfl) (by kernel_rfl)
def Tryz.c261 := call_b (P := Tryz.prog) Tryz.func261 (by kernel_rfl) (by kernel_rfl)
def Tryz.c279 := call_b (P := Tryz.prog) Tryz.func279 (by kernel_rfl) (by kernel_rfl)
def Tryz.c280 := call_b (P := Tryz.prog) Tryz.func280 (by kernel_rfl) (by kernel_rfl)
def Tryz.ld242 := ld_one (P := Tryz.prog) (t := 242) (by kernel_rfl)
def Tryz.c281 := call_b (P := Tryz.prog) Tryz.func281 (by kernel_rfl) (by kernel_rfl)
theorem Tryz.u280 : Tryz.prog.underlying 280 = some (.slice 9) := by kernel_rfl
def Tryz.ln280 := o_lenSlice (P := Tryz.prog) (t := 280) Tryz.u280
def Tryz.ia280 := ia_slice (P := Tryz.prog) (t := 280) Tryz.u280 Tryz.s9
def Tryz.c282 := call_b (P := Tryz.prog) Tryz.func282 (by kernel_rfl) (by kernel_rfl)
def Tryz.c245 := call_b (P := Tryz.prog) Tryz.func245 (by kernel_rfl) (by kernel_rfl)
def Tryz.c246 := call_b (P := Tryz.prog) Tryz.func246 (by kernel_rfl) (by kernel_rfl)
def Tryz.c244 := call_b (P := Tryz.prog) Tryz.func244 (by kernel_rfl) (by kernel_rfl)
def Tryz.c283 := call_b (P := Tryz.prog) Tryz.func283 (by kernel_rfl) (by kernel_rfl)
def Tryz.c284 := call_b (P := Tryz.prog) Tryz.func284 (by kernel_rfl) (by kernel_rfl)
def Tryz.ld207 := ld_one (P := Tryz.prog) (t := 207) (by kernel_rfl)
def Tryz.c285 := call_b (P := Tryz.prog) Tryz.func285 (by kernel_rfl) (by kernel_rfl)
def Tryz.c286 := call_b (P := Tryz.prog) Tryz.func286 (by kernel_rfl) (by kernel_rfl)
def Tryz.c287 := call_b (P := Tryz.prog) Tryz.func287 (by kernel_rfl) (by kernel_rfl)
def Tryz.c289 := call_b (P := Tryz.prog) Tryz.func289 (by kernel_rfl) (by kernel_rfl)
def Tryz.c290 := call_b (P := Tryz.prog) Tryz.func290 (by kernel_rfl) (by kernel_rfl)
def Tryz.c291 := call_b (P := Tryz.prog) Tryz.func291 (by kernel_rfl) (by kernel_rfl)
def Tryz.c292 := call_b (P := Tryz.prog) Tryz.func292 (by kernel_rfl) (by kernel_rfl)
def Tryz.c254 := call_b (P := Tryz.prog) Tryz.func254 (by kernel_rfl) (by kernel_rfl)
def Tryz.c293 := call_b (P := Tryz.prog) Tryz.func293 (by kernel_rfl) (by kernel_rfl)
def Tryz.c294 := call_b (P := Tryz.prog) Tryz.func294 (by kernel_rfl) (by kernel_rfl)
theorem Tryz.bs32_2 (id : Nat) (σ : St) (v0 : Value) (v1 : Value) (h0 : v0.cells = #[v0]) (h1 : v1.cells = #[v1]) : opBuildSlice Tryz.prog 32 2 id ⟨[(0, v0), (1, v1)]⟩ σ = some (.val (.slice (some ⟨id, 0, none⟩) 2 2) (σ.set id (.cells true 0 id [v0, v1]))) := by
  simp [opBuildSlice, Tryz.u32, Tryz.s5, Tryz.zc5, Instr.fill, cells_agg, zrow, sliceTo, opNew, h0, h1, show List.range 2 = [0, 1] from rfl]
def Tryz.cv22_5 := And.intro (cv_int (P := Tryz.prog) (s := 22) (e := 5) Tryz.u22) (cvi (P := Tryz.prog) (s := 22) (e := 5) Tryz.u22 Tryz.u5)
theorem Tryz.bs32_4 (id : Nat) (σ : St) (v0 : Value) (v1 : Value) (v2 : Value) (v3 : Value) (h0 : v0.cells = #[v0]) (h1 : v1.cells = #[v1]) (h2 : v2.cells = #[v2]) (h3 : v3.cells = #[v3]) : opBuildSlice Tryz.prog 32 4 id ⟨[(0, v0), (1, v1), (2, v2), (3, v3)]⟩ σ = some (.val (.slice (some ⟨id, 0, none⟩) 4 2) (σ.set id (.cells true 0 id [v0, v1, v2, v3]))) := by
  simp [opBuildSlice, Tryz.u32, Tryz.s5, Tryz.zc5, Instr.fill, cells_agg, zrow, sliceTo, opNew, h0, h1, h2, h3, show List.range 4 = [0, 1, 2, 3] from rfl]
def Tryz.cv5_22 := And.intro (cv_int (P := Tryz.prog) (s := 5) (e := 22) Tryz.u5) (cvi (P := Tryz.prog) (s := 5) (e := 22) Tryz.u5 Tryz.u22)
def Tryz.c295 := call_b (P := Tryz.prog) Tryz.func295 (by kernel_rfl) (by kernel_rfl)
theorem Tryz.zc9 : zcells? Tryz.prog 9 1 = some #[.string ⟨#[]⟩] := by kernel_rfl
theorem Tryz.bs280_1 (id : Nat) (σ : St) (v0 : Value) (h0 : v0.cells = #[v0]) : opBuildSlice Tryz.prog 280 1 id ⟨[(0, v0)]⟩ σ = some (.val (.slice (some ⟨id, 0, none⟩) 1 2) (σ.set id (.cells true 0 id [v0]))) := by
  simp [opBuildSlice, Tryz.u280, Tryz.s9, Tryz.zc9, Instr.fill, cells_agg, zrow, sliceTo, opNew, h0, show List.range 1 = [0] from rfl]
theorem Tryz.in9_is : (Tryz.prog.info? 9).isSome = true := by kernel_rfl
noncomputable def Tryz.in9 : TypeInfo := (Tryz.prog.info? 9).get Tryz.in9_is
theorem Tryz.in9_eq : Tryz.prog.info? 9 = some Tryz.in9 := (Option.some_get Tryz.in9_is).symm
theorem Tryz.in9_size : Tryz.in9.size = 1 := by kernel_rfl
theorem Tryz.in9_bytes : Tryz.in9.bytes = 16 := by kernel_rfl
def Tryz.ap280_280 := ap (P := Tryz.prog) (sT := 280) (xT := 280) (i := Tryz.in9) Tryz.u280 Tryz.in9_eq Tryz.zc9
def Tryz.as280 := And.intro (fun (i : TypeInfo) (z : Array Value) (σ : St) (B o n k : Nat) (h0 : n ≠ 0) => aps_slice (P := Tryz.prog) (xT := 280) (i := i) (z := z) (σ := σ) (B := B) (o := o) (n := n) (k := k) Tryz.u280 h0) (fun (i : TypeInfo) (z : Array Value) (σ : St) => aps_nil (P := Tryz.prog) (xT := 280) (i := i) (z := z) (σ := σ) Tryz.u280)
def Tryz.ap32_3 := ap (P := Tryz.prog) (sT := 32) (xT := 3) (i := Tryz.in5) Tryz.u32 Tryz.in5_eq Tryz.zc5
theorem Tryz.u338 : Tryz.prog.underlying 338 = some (.array 16 22) := by kernel_rfl
def Tryz.ia338 := ia_array (P := Tryz.prog) (t := 338) Tryz.u338 Tryz.s22
def Tryz.ty0 := And.intro Tryz.ld30 (And.intro Tryz.c12 (And.intro Tryz.st30 (And.intro Tryz.c13 (And.intro Tryz.c15 (And.intro Tryz.c14 (And.intro Tryz.c16 (And.intro Tryz.c17 (And.intro Tryz.eb4 (And.intro Tryz.c18 (And.intro Tryz.c19 (And.intro Tryz.u32 (And.intro Tryz.ln32 (And.intro Tryz.sl32 (And.intro Tryz.c20 (And.intro Tryz.z30 (And.intro Tryz.c21 (And.intro Tryz.z43 (And.intro Tryz.st43 (Tryz.ld43)))))))))))))))))))
def Tryz.ty1 := And.intro Tryz.c22 (And.intro Tryz.c65 (And.intro Tryz.c66 (And.intro Tryz.u5 (And.intro Tryz.u3 (And.intro Tryz.cv5_3 (And.intro Tryz.cv3_5 (And.intro Tryz.bs32_1 (And.intro Tryz.u9 (And.intro Tryz.cv32_9 (And.intro Tryz.bu24_0_1 (And.intro Tryz.bu58_0_1_2 (And.intro Tryz.bs27_1 (And.intro Tryz.ap27_27 (And.intro Tryz.in58_size (And.intro Tryz.in58_bytes (And.intro Tryz.as27 (And.intro Tryz.bs28_1 (And.intro Tryz.ap28_28 (Tryz.in3_size)))))))))))))))))))
def Tryz.ty2 := And.intro Tryz.in3_bytes (And.intro Tryz.as28 (And.intro Tryz.c68 (And.intro Tryz.c67 (And.intro Tryz.bu30_0_1_7 (And.intro Tryz.bs25_1 (And.intro Tryz.bu30_0_1_2_8_11_4_5 (And.intro Tryz.c69 (And.intro Tryz.c70 (And.intro Tryz.c71 (And.intro Tryz.c72 (And.intro Tryz.u69 (And.intro Tryz.cv69_3 (And.intro Tryz.c73 (And.intro Tryz.c74 (And.intro Tryz.z85 (And.intro Tryz.st85 (And.intro Tryz.fa85_8 (And.intro Tryz.ld83 (Tryz.u83)))))))))))))))))))
def Tryz.ty3 := And.intro Tryz.ln83 (And.intro Tryz.fa85_2 (And.intro Tryz.ld24 (And.intro Tryz.bu24_ (And.intro Tryz.fa85_4 (And.intro Tryz.ld9 (And.intro Tryz.fa85_1 (And.intro Tryz.ld2 (And.intro Tryz.fa85_5 (And.intro Tryz.ld4 (And.intro Tryz.ia83 (And.intro Tryz.ld89 (And.intro Tryz.z89 (And.intro Tryz.st89 (And.intro Tryz.fa89_0 (And.intro Tryz.ld5 (And.intro Tryz.c75 (And.intro Tryz.c77 (And.intro Tryz.c76 (Tryz.c79)))))))))))))))))))
def Tryz.ty4 := And.intro Tryz.u28 (And.intro Tryz.ln28 (And.intro Tryz.c80 (And.intro Tryz.c81 (And.intro Tryz.u97 (And.intro Tryz.ln97 (And.intro Tryz.ia97 (And.intro Tryz.ld100 (And.intro Tryz.z100 (And.intro Tryz.st100 (And.intro Tryz.fa100_0 (And.intro Tryz.ld3 (And.intro Tryz.c83 (And.intro Tryz.c82 (And.intro Tryz.c84 (And.intro Tryz.fa100_3 (And.intro Tryz.ld28 (And.intro Tryz.fa100_1 (And.intro Tryz.c85 (Tryz.c86)))))))))))))))))))
def Tryz.ty5 := And.intro Tryz.u92 (And.intro Tryz.ln92 (And.intro Tryz.ia92 (And.intro Tryz.ld85 (And.intro Tryz.fa85_0 (And.intro Tryz.ld22 (And.intro Tryz.c87 (And.intro Tryz.fa85_6 (And.intro Tryz.ld26 (And.intro Tryz.u26 (And.intro Tryz.ln26 (And.intro Tryz.fa85_7 (And.intro Tryz.ld27 (And.intro Tryz.u27 (And.intro Tryz.ln27 (And.intro Tryz.u105 (And.intro Tryz.ln105 (And.intro Tryz.c88 (And.intro Tryz.u22 (Tryz.u2)))))))))))))))))))
def Tryz.ty6 := And.intro Tryz.cv22_2 (And.intro Tryz.bu56_0_2 (And.intro Tryz.bs26_1 (And.intro Tryz.ap26_26 (And.intro Tryz.in56_size (And.intro Tryz.in56_bytes (And.intro Tryz.as26 (And.intro Tryz.bu30_0_1_6 (And.intro Tryz.ia105 (And.intro Tryz.bu30_0_1_8_10 (And.intro Tryz.bu114_0_1 (And.intro Tryz.bs112_1 (And.intro Tryz.ap112_112 (And.intro Tryz.in114_size (And.intro Tryz.in114_bytes (And.intro Tryz.as112 (And.intro Tryz.c90 (And.intro Tryz.c89 (And.intro Tryz.ia111 (Tryz.ld110)))))))))))))))))))
def Tryz.ty7 := And.intro Tryz.c92 (And.intro Tryz.z114 (And.intro Tryz.st114 (And.intro Tryz.u112 (And.intro Tryz.ln112 (And.intro Tryz.ld114 (And.intro Tryz.c93 (And.intro Tryz.fa114_1 (And.intro Tryz.bu30_0_1_8_9 (And.intro Tryz.bu126_ (And.intro Tryz.bu30_ (And.intro Tryz.bu56_0_1 (And.intro Tryz.z56 (And.intro Tryz.st56 (And.intro Tryz.z58 (And.intro Tryz.st58 (And.intro Tryz.bu127_0_1 (And.intro Tryz.bu30_0_1 (And.intro Tryz.ld56 (Tryz.ld58)))))))))))))))))))
def Tryz.ty8 := And.intro Tryz.bu30_0_1_6_7 (And.intro Tryz.bu30_0_1_8 (And.intro Tryz.bu30_0_1_2_8_10 (And.intro Tryz.bu30_0_1_8_11_4 (And.intro Tryz.bs28_2 (And.intro Tryz.u128 (And.intro Tryz.ln128 (And.intro Tryz.ia128 (And.intro Tryz.ld127 (And.intro Tryz.z127 (And.intro Tryz.st127 (And.intro Tryz.fa127_0 (And.intro Tryz.fa127_1 (And.intro Tryz.ld33 (And.intro Tryz.bs105_1 (And.intro Tryz.c94 (And.intro Tryz.bs27_2 (And.intro Tryz.c95 (And.intro Tryz.fa30_1 (Tryz.st22)))))))))))))))))))
def Tryz.ty9 := And.intro Tryz.fa30_0 (And.intro Tryz.fa30_11 (And.intro Tryz.fa30_2 (And.intro Tryz.st2 (And.intro Tryz.fa30_5 (And.intro Tryz.st9 (And.intro Tryz.c96 (And.intro Tryz.ap32_32 (And.intro Tryz.in5_size (And.intro Tryz.in5_bytes (And.intro Tryz.as32 (And.intro Tryz.ia32 (And.intro Tryz.st5 (And.intro Tryz.fa30_3 (And.intro Tryz.c97 (And.intro Tryz.c98 (And.intro Tryz.st24 (And.intro Tryz.fa30_4 (And.intro Tryz.st25 (Tryz.fa30_6)))))))))))))))))))
def Tryz.ty10 := And.intro Tryz.st26 (And.intro Tryz.fa30_7 (And.intro Tryz.st27 (And.intro Tryz.fa30_8 (And.intro Tryz.sl28 (And.intro Tryz.c99 (And.intro Tryz.st28 (And.intro Tryz.ld25 (And.intro Tryz.u25 (And.intro Tryz.ln25 (And.intro Tryz.sl25 (And.intro Tryz.ia25 (And.intro Tryz.z24 (And.intro Tryz.ap25_25 (And.intro Tryz.in24_size (And.intro Tryz.in24_bytes (And.intro Tryz.as25 (And.intro Tryz.sl26 (And.intro Tryz.ia26 (Tryz.fa56_0)))))))))))))))))))
def Tryz.ty11 := And.intro Tryz.fa56_1 (And.intro Tryz.fa56_2 (And.intro Tryz.fa56_3 (And.intro Tryz.fa56_4 (And.intro Tryz.fa56_5 (And.intro Tryz.bu56_0_1_2_3_4_5 (And.intro Tryz.sl27 (And.intro Tryz.ia27 (And.intro Tryz.fa58_0 (And.intro Tryz.fa58_1 (And.intro Tryz.fa58_2 (And.intro Tryz.bu137_ (And.intro Tryz.z135 (And.intro Tryz.st135 (And.intro Tryz.ld135 (And.intro Tryz.cv5_2 (And.intro Tryz.c100 (And.intro Tryz.c101 (And.intro Tryz.c105 (Tryz.c104)))))))))))))))))))
def Tryz.ty12 := And.intro Tryz.c107 (And.intro Tryz.c106 (And.intro Tryz.fa30_10 (And.intro Tryz.fa30_9 (And.intro Tryz.c108 (And.intro Tryz.c109 (And.intro Tryz.c110 (And.intro Tryz.fa137_0 (And.intro Tryz.ld32 (And.intro Tryz.fa43_0 (And.intro Tryz.fa43_1 (And.intro Tryz.u110 (And.intro Tryz.cv22_110 (And.intro Tryz.c111 (And.intro Tryz.fa43_2 (And.intro Tryz.cv2_110 (And.intro Tryz.fa43_6 (And.intro Tryz.ld40 (And.intro Tryz.u40 (Tryz.ln40)))))))))))))))))))
def Tryz.ty13 := And.intro Tryz.ia40 (And.intro Tryz.ld150 (And.intro Tryz.z150 (And.intro Tryz.st150 (And.intro Tryz.fa150_0 (And.intro Tryz.ld38 (And.intro Tryz.c112 (And.intro Tryz.fa150_1 (And.intro Tryz.c113 (And.intro Tryz.fa150_2 (And.intro Tryz.fa150_3 (And.intro Tryz.fa150_4 (And.intro Tryz.fa43_7 (And.intro Tryz.ld41 (And.intro Tryz.u41 (And.intro Tryz.ln41 (And.intro Tryz.ia41 (And.intro Tryz.ld154 (And.intro Tryz.z154 (Tryz.st154)))))))))))))))))))
def Tryz.ty14 := And.intro Tryz.fa154_0 (And.intro Tryz.fa154_1 (And.intro Tryz.cv3_110 (And.intro Tryz.fa154_2 (And.intro Tryz.fa43_8 (And.intro Tryz.ia28 (And.intro Tryz.fa43_3 (And.intro Tryz.fa43_10 (And.intro Tryz.fa43_9 (And.intro Tryz.fa43_11 (And.intro Tryz.fa43_4 (And.intro Tryz.ld39 (And.intro Tryz.u39 (And.intro Tryz.ln39 (And.intro Tryz.ia39 (And.intro Tryz.fa43_5 (And.intro Tryz.c114 (And.intro Tryz.bu43_0_1_2_3_5_8_9_10_11 (And.intro Tryz.bs39_1 (Tryz.ap39_39)))))))))))))))))))
def Tryz.ty15 := And.intro Tryz.in38_size (And.intro Tryz.in38_bytes (And.intro Tryz.as39 (And.intro Tryz.st39 (And.intro Tryz.c115 (And.intro Tryz.bs40_1 (And.intro Tryz.ap40_40 (And.intro Tryz.in150_size (And.intro Tryz.in150_bytes (And.intro Tryz.as40 (And.intro Tryz.st40 (And.intro Tryz.c116 (And.intro Tryz.bs41_1 (And.intro Tryz.ap41_41 (And.intro Tryz.in154_size (And.intro Tryz.in154_bytes (And.intro Tryz.as41 (And.intro Tryz.st41 (And.intro Tryz.c117 (Tryz.ln9)))))))))))))))))))
def Tryz.ty16 := And.intro Tryz.c119 (And.intro Tryz.c118 (And.intro Tryz.c120 (And.intro Tryz.c121 (And.intro Tryz.c122 (And.intro Tryz.c124 (And.intro Tryz.c126 (And.intro Tryz.c127 (And.intro Tryz.c128 (And.intro Tryz.c129 (And.intro Tryz.c130 (And.intro Tryz.c131 (And.intro Tryz.c132 (And.intro Tryz.bu30_0_1_2_8_9 (And.intro Tryz.bu173_0 (And.intro Tryz.z171 (And.intro Tryz.st171 (And.intro Tryz.ld171 (And.intro Tryz.c133 (Tryz.cv2_5)))))))))))))))))))
def Tryz.ty17 := And.intro Tryz.cv2_22 (And.intro Tryz.bu30_0_1_2 (And.intro Tryz.c135 (And.intro Tryz.c134 (And.intro Tryz.c137 (And.intro Tryz.c136 (And.intro Tryz.c139 (And.intro Tryz.c138 (And.intro Tryz.c140 (And.intro Tryz.c141 (And.intro Tryz.c142 (And.intro Tryz.fa173_1 (And.intro Tryz.fa173_0 (And.intro Tryz.bu185_0 (And.intro Tryz.bu43_ (And.intro Tryz.c143 (And.intro Tryz.cv110_3 (And.intro Tryz.st3 (And.intro Tryz.fa185_2 (Tryz.cv110_22)))))))))))))))))))
def Tryz.ty18 := And.intro Tryz.cv110_2 (And.intro Tryz.c144 (And.intro Tryz.c145 (And.intro Tryz.st38 (And.intro Tryz.c146 (And.intro Tryz.fa185_1 (And.intro Tryz.c147 (And.intro Tryz.c149 (And.intro Tryz.c151 (And.intro Tryz.c153 (And.intro Tryz.fa24_0 (And.intro Tryz.c160 (And.intro Tryz.fa24_1 (And.intro Tryz.c161 (And.intro Tryz.bu210_3_5 (And.intro Tryz.c162 (And.intro Tryz.bu126_0 (And.intro Tryz.u211 (And.intro Tryz.ln211 (Tryz.ia211)))))))))))))))))))
def Tryz.ty19 := And.intro Tryz.c163 (And.intro Tryz.c164 (And.intro Tryz.c165 (And.intro Tryz.fa126_0 (And.intro Tryz.ld123 (And.intro Tryz.c166 (And.intro Tryz.c167 (And.intro Tryz.bu30_0_1_3_4_5 (And.intro Tryz.c168 (And.intro Tryz.ld210 (And.intro Tryz.z210 (And.intro Tryz.st210 (And.intro Tryz.fa210_0 (And.intro Tryz.c169 (And.intro Tryz.fa210_1 (And.intro Tryz.fa210_2 (And.intro Tryz.ld208 (And.intro Tryz.c170 (And.intro Tryz.st32 (Tryz.st208)))))))))))))))))))
def Tryz.ty20 := And.intro Tryz.fa210_4 (And.intro Tryz.fa210_3 (And.intro Tryz.bu220_0_1 (And.intro Tryz.bs208_1 (And.intro Tryz.ap208_208 (And.intro Tryz.in220_size (And.intro Tryz.in220_bytes (And.intro Tryz.as208 (And.intro Tryz.c171 (And.intro Tryz.u208 (And.intro Tryz.ln208 (And.intro Tryz.ia208 (And.intro Tryz.ld220 (And.intro Tryz.z220 (And.intro Tryz.st220 (And.intro Tryz.fa220_0 (And.intro Tryz.fa220_1 (And.intro Tryz.c172 (And.intro Tryz.bu85_ (Tryz.fa85_3)))))))))))))))))))
def Tryz.ty21 := And.intro Tryz.c173 (And.intro Tryz.c24 (And.intro Tryz.c25 (And.intro Tryz.c174 (And.intro Tryz.st83 (And.intro Tryz.c175 (And.intro Tryz.bs92_1 (And.intro Tryz.ap92_92 (And.intro Tryz.in85_size (And.intro Tryz.in85_bytes (And.intro Tryz.as92 (And.intro Tryz.c176 (And.intro Tryz.c177 (And.intro Tryz.c178 (And.intro Tryz.c179 (And.intro Tryz.c180 (And.intro Tryz.fa100_2 (And.intro Tryz.ap97_97 (And.intro Tryz.in100_size (Tryz.in100_bytes)))))))))))))))))))
def Tryz.ty22 := And.intro Tryz.as97 (And.intro Tryz.fa100_4 (And.intro Tryz.c181 (And.intro Tryz.fa89_1 (And.intro Tryz.st4 (And.intro Tryz.fa126_1 (And.intro Tryz.ld124 (And.intro Tryz.u124 (And.intro Tryz.ln124 (And.intro Tryz.ia124 (And.intro Tryz.ld222 (And.intro Tryz.ap105_105 (And.intro Tryz.in22_size (And.intro Tryz.in22_bytes (And.intro Tryz.as105 (And.intro Tryz.c182 (And.intro Tryz.c183 (And.intro Tryz.ia112 (And.intro Tryz.fa89_2 (Tryz.fa114_0)))))))))))))))))))
def Tryz.ty23 := And.intro Tryz.bs233_1 (And.intro Tryz.ap233_233 (And.intro Tryz.in117_size (And.intro Tryz.in117_bytes (And.intro Tryz.as233 (And.intro Tryz.c184 (And.intro Tryz.bu114_ (And.intro Tryz.c185 (And.intro Tryz.c186 (And.intro Tryz.c187 (And.intro Tryz.c188 (And.intro Tryz.sl9 (And.intro Tryz.bu56_0_4 (And.intro Tryz.c189 (And.intro Tryz.u196 (And.intro Tryz.cv3_196 (And.intro Tryz.cv196_3 (And.intro Tryz.c37 (And.intro Tryz.c103 (Tryz.c102)))))))))))))))))))
def Tryz.ty24 := And.intro Tryz.ap32_9 (And.intro Tryz.as9 (And.intro Tryz.cv110_5 (And.intro Tryz.fa38_0 (And.intro Tryz.fa38_1 (And.intro Tryz.z38 (And.intro Tryz.bu150_0_1_2_3_4_5 (And.intro Tryz.bu154_0_1_2 (And.intro Tryz.c190 (And.intro Tryz.c64 (And.intro Tryz.c192 (And.intro Tryz.c191 (And.intro Tryz.c194 (And.intro Tryz.c193 (And.intro Tryz.c196 (And.intro Tryz.c195 (And.intro Tryz.c197 (And.intro Tryz.c198 (And.intro Tryz.c200 (Tryz.fa150_5)))))))))))))))))))
def Tryz.ty25 := And.intro Tryz.c201 (And.intro Tryz.c202 (And.intro Tryz.c203 (And.intro Tryz.bu56_0 (And.intro Tryz.bu58_0 (And.intro Tryz.fa185_0 (And.intro Tryz.cv5_110 (And.intro Tryz.bu150_ (And.intro Tryz.bu154_ (And.intro Tryz.bu38_ (And.intro Tryz.c206 (And.intro Tryz.rg9 (And.intro Tryz.u21 (And.intro Tryz.cv21_5 (And.intro Tryz.c209 (And.intro Tryz.c210 (And.intro Tryz.bu253_0_3 (And.intro Tryz.z211 (And.intro Tryz.c211 (Tryz.ld211)))))))))))))))))))
def Tryz.ty26 := And.intro Tryz.bs211_1 (And.intro Tryz.ap211_211 (And.intro Tryz.in32_size (And.intro Tryz.in32_bytes (And.intro Tryz.as211 (And.intro Tryz.st211 (And.intro Tryz.fa253_1 (And.intro Tryz.c212 (And.intro Tryz.fa253_3 (And.intro Tryz.fa253_4 (And.intro Tryz.c213 (And.intro Tryz.c214 (And.intro Tryz.c215 (And.intro Tryz.bu85_0_1_2_3_4 (And.intro Tryz.bs124_1 (And.intro Tryz.ap124_124 (And.intro Tryz.in222_size (And.intro Tryz.in222_bytes (And.intro Tryz.as124 (Tryz.st124)))))))))))))))))))
def Tryz.ty27 := And.intro Tryz.bu85_0_1_3_4 (And.intro Tryz.c216 (And.intro Tryz.fa253_2 (And.intro Tryz.c217 (And.intro Tryz.fa253_0 (And.intro Tryz.ld70 (And.intro Tryz.c218 (And.intro Tryz.fa210_5 (And.intro Tryz.ap83_83 (And.intro Tryz.in89_size (And.intro Tryz.in89_bytes (And.intro Tryz.as83 (And.intro Tryz.c219 (And.intro Tryz.cv3_22 (And.intro Tryz.c221 (And.intro Tryz.c222 (And.intro Tryz.c223 (And.intro Tryz.u233 (And.intro Tryz.ln233 (Tryz.ia233)))))))))))))))))))
def Tryz.ty28 := And.intro Tryz.ld117 (And.intro Tryz.c224 (And.intro Tryz.cv9_32 (And.intro Tryz.ix9 (And.intro Tryz.c225 (And.intro Tryz.c226 (And.intro Tryz.c228 (And.intro Tryz.c227 (And.intro Tryz.c232 (And.intro Tryz.ld68 (And.intro Tryz.c233 (And.intro Tryz.ld163 (And.intro Tryz.c234 (And.intro Tryz.ld165 (And.intro Tryz.c235 (And.intro Tryz.c237 (And.intro Tryz.c236 (And.intro Tryz.c238 (And.intro Tryz.c239 (Tryz.c240)))))))))))))))))))
def Tryz.ty29 := And.intro Tryz.c243 (And.intro Tryz.c247 (And.intro Tryz.c248 (And.intro Tryz.c249 (And.intro Tryz.c253 (And.intro Tryz.z3 (And.intro Tryz.c255 (And.intro Tryz.c256 (And.intro Tryz.c258 (And.intro Tryz.c259 (And.intro Tryz.bs211_4 (And.intro Tryz.c257 (And.intro Tryz.c260 (And.intro Tryz.c261 (And.intro Tryz.c279 (And.intro Tryz.c280 (And.intro Tryz.ld242 (And.intro Tryz.c281 (And.intro Tryz.u280 (Tryz.ln280)))))))))))))))))))
def Tryz.ty30 := And.intro Tryz.ia280 (And.intro Tryz.c282 (And.intro Tryz.c245 (And.intro Tryz.c246 (And.intro Tryz.c244 (And.intro Tryz.c283 (And.intro Tryz.c284 (And.intro Tryz.ld207 (And.intro Tryz.c285 (And.intro Tryz.c286 (And.intro Tryz.c287 (And.intro Tryz.c289 (And.intro Tryz.c290 (And.intro Tryz.c291 (And.intro Tryz.c292 (And.intro Tryz.c254 (And.intro Tryz.c293 (And.intro Tryz.c294 (And.intro Tryz.bs32_2 (Tryz.cv22_5)))))))))))))))))))
def Tryz.ty31 := And.intro Tryz.bs32_4 (And.intro Tryz.cv5_22 (And.intro Tryz.c295 (And.intro Tryz.bs280_1 (And.intro Tryz.ap280_280 (And.intro Tryz.in9_size (And.intro Tryz.in9_bytes (And.intro Tryz.as280 (And.intro Tryz.ap32_3 (Tryz.ia338)))))))))
end Go.Proofs
