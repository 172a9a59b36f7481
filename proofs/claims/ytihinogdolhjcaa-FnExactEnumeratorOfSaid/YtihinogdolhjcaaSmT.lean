/- MADE BY A PROGRAM (gentab.py): the types of the translation, as the symbolic state reads them. -/
import Derived.Test.YtihinogdolhjcaaProg
import Derived.Test.YtihinogdolhjcaaSmEq
namespace Go.Sm
open Go.RowKit

def ty2 : TI := ⟨.int .i64, 1, 8, [.v (.int .i64 0)]⟩
theorem tyOk2 : TyOk Go.Proofs.Try.prog 2 ty2 := ⟨by kernel_rfl, by kernel_rfl, by kernel_rfl, by kernel_rfl, by kernel_rfl, fun _ => by kernel_rfl⟩
def ty3 : TI := ⟨.int .i64, 1, 8, [.v (.int .i64 0)]⟩
theorem tyOk3 : TyOk Go.Proofs.Try.prog 3 ty3 := ⟨by kernel_rfl, by kernel_rfl, by kernel_rfl, by kernel_rfl, by kernel_rfl, fun _ => by kernel_rfl⟩
def ty4 : TI := ⟨.bool, 1, 1, [.v (.bool false)]⟩
theorem tyOk4 : TyOk Go.Proofs.Try.prog 4 ty4 := ⟨by kernel_rfl, by kernel_rfl, by kernel_rfl, by kernel_rfl, by kernel_rfl, fun _ => by kernel_rfl⟩
def ty5 : TI := ⟨.int .u8, 1, 1, [.v (.int .u8 0)]⟩
theorem tyOk5 : TyOk Go.Proofs.Try.prog 5 ty5 := ⟨by kernel_rfl, by kernel_rfl, by kernel_rfl, by kernel_rfl, by kernel_rfl, fun _ => by kernel_rfl⟩
def ty6 : TI := ⟨.int .u8, 1, 1, [.v (.int .u8 0)]⟩
theorem tyOk6 : TyOk Go.Proofs.Try.prog 6 ty6 := ⟨by kernel_rfl, by kernel_rfl, by kernel_rfl, by kernel_rfl, by kernel_rfl, fun _ => by kernel_rfl⟩
def ty7 : TI := ⟨.st [(0, some 1), (1, some 1), (2, some 1), (3, some 1)], 4, 24, [.v (.int .i64 0), .v (.int .i64 0), .v (.bool false), .v (.int .u8 0)]⟩
theorem tyOk7 : TyOk Go.Proofs.Try.prog 7 ty7 := ⟨by kernel_rfl, by kernel_rfl, by kernel_rfl, by kernel_rfl, by kernel_rfl, fun h => nomatch (show true = false from h)⟩
def ty8 : TI := ⟨.st [(0, some 1), (1, some 1), (2, some 1), (3, some 1)], 4, 24, [.v (.int .i64 0), .v (.int .i64 0), .v (.bool false), .v (.int .u8 0)]⟩
theorem tyOk8 : TyOk Go.Proofs.Try.prog 8 ty8 := ⟨by kernel_rfl, by kernel_rfl, by kernel_rfl, by kernel_rfl, by kernel_rfl, fun h => nomatch (show true = false from h)⟩
def ty9 : TI := ⟨.str, 1, 16, [.v (.string ⟨#[]⟩)]⟩
theorem tyOk9 : TyOk Go.Proofs.Try.prog 9 ty9 := ⟨by kernel_rfl, by kernel_rfl, by kernel_rfl, by kernel_rfl, by kernel_rfl, fun _ => by kernel_rfl⟩
def ty10 : TI := ⟨.str, 1, 16, [.v (.string ⟨#[]⟩)]⟩
theorem tyOk10 : TyOk Go.Proofs.Try.prog 10 ty10 := ⟨by kernel_rfl, by kernel_rfl, by kernel_rfl, by kernel_rfl, by kernel_rfl, fun _ => by kernel_rfl⟩
def ty11 : TI := ⟨.str, 1, 16, [.v (.string ⟨#[]⟩)]⟩
theorem tyOk11 : TyOk Go.Proofs.Try.prog 11 ty11 := ⟨by kernel_rfl, by kernel_rfl, by kernel_rfl, by kernel_rfl, by kernel_rfl, fun _ => by kernel_rfl⟩
def ty12 : TI := ⟨.int .u64, 1, 8, [.v (.int .u64 0)]⟩
theorem tyOk12 : TyOk Go.Proofs.Try.prog 12 ty12 := ⟨by kernel_rfl, by kernel_rfl, by kernel_rfl, by kernel_rfl, by kernel_rfl, fun _ => by kernel_rfl⟩
def ty13 : TI := ⟨.st [(0, some 1), (1, some 1)], 2, 24, [.v (.string ⟨#[]⟩), .v (.int .u64 0)]⟩
theorem tyOk13 : TyOk Go.Proofs.Try.prog 13 ty13 := ⟨by kernel_rfl, by kernel_rfl, by kernel_rfl, by kernel_rfl, by kernel_rfl, fun h => nomatch (show true = false from h)⟩
def ty14 : TI := ⟨.st [(0, some 1), (1, some 1)], 2, 24, [.v (.string ⟨#[]⟩), .v (.int .u64 0)]⟩
theorem tyOk14 : TyOk Go.Proofs.Try.prog 14 ty14 := ⟨by kernel_rfl, by kernel_rfl, by kernel_rfl, by kernel_rfl, by kernel_rfl, fun h => nomatch (show true = false from h)⟩
def ty21 : TI := ⟨.int .i32, 1, 4, [.v (.int .i32 0)]⟩
theorem tyOk21 : TyOk Go.Proofs.Try.prog 21 ty21 := ⟨by kernel_rfl, by kernel_rfl, by kernel_rfl, by kernel_rfl, by kernel_rfl, fun _ => by kernel_rfl⟩
def ty22 : TI := ⟨.sl 2, 1, 24, [.nilS 2 1]⟩
theorem tyOk22 : TyOk Go.Proofs.Try.prog 22 ty22 := ⟨by kernel_rfl, by kernel_rfl, by kernel_rfl, by kernel_rfl, by kernel_rfl, fun _ => by kernel_rfl⟩
def ty29 : TI := ⟨.sl 50, 1, 24, [.nilS 50 3]⟩
theorem tyOk29 : TyOk Go.Proofs.Try.prog 29 ty29 := ⟨by kernel_rfl, by kernel_rfl, by kernel_rfl, by kernel_rfl, by kernel_rfl, fun _ => by kernel_rfl⟩
def ty32 : TI := ⟨.sl 39, 1, 24, [.nilS 39 3]⟩
theorem tyOk32 : TyOk Go.Proofs.Try.prog 32 ty32 := ⟨by kernel_rfl, by kernel_rfl, by kernel_rfl, by kernel_rfl, by kernel_rfl, fun _ => by kernel_rfl⟩
def ty37 : TI := ⟨.sl 108, 1, 24, [.nilS 108 4]⟩
theorem tyOk37 : TyOk Go.Proofs.Try.prog 37 ty37 := ⟨by kernel_rfl, by kernel_rfl, by kernel_rfl, by kernel_rfl, by kernel_rfl, fun _ => by kernel_rfl⟩
def ty38 : TI := ⟨.st [(0, some 1), (1, some 1), (2, some 1)], 3, 40, [.v (.int .i64 0), .v (.int .i64 0), .nilS 108 4]⟩
theorem tyOk38 : TyOk Go.Proofs.Try.prog 38 ty38 := ⟨by kernel_rfl, by kernel_rfl, by kernel_rfl, by kernel_rfl, by kernel_rfl, fun h => nomatch (show true = false from h)⟩
def ty39 : TI := ⟨.st [(0, some 1), (1, some 1), (2, some 1)], 3, 40, [.v (.int .i64 0), .v (.int .i64 0), .nilS 108 4]⟩
theorem tyOk39 : TyOk Go.Proofs.Try.prog 39 ty39 := ⟨by kernel_rfl, by kernel_rfl, by kernel_rfl, by kernel_rfl, by kernel_rfl, fun h => nomatch (show true = false from h)⟩
def ty48 : TI := ⟨.sl 133, 1, 24, [.nilS 133 4]⟩
theorem tyOk48 : TyOk Go.Proofs.Try.prog 48 ty48 := ⟨by kernel_rfl, by kernel_rfl, by kernel_rfl, by kernel_rfl, by kernel_rfl, fun _ => by kernel_rfl⟩
def ty49 : TI := ⟨.st [(0, some 1), (1, some 1), (2, some 1)], 3, 40, [.v (.int .i64 0), .v (.int .i64 0), .nilS 133 4]⟩
theorem tyOk49 : TyOk Go.Proofs.Try.prog 49 ty49 := ⟨by kernel_rfl, by kernel_rfl, by kernel_rfl, by kernel_rfl, by kernel_rfl, fun h => nomatch (show true = false from h)⟩
def ty50 : TI := ⟨.st [(0, some 1), (1, some 1), (2, some 1)], 3, 40, [.v (.int .i64 0), .v (.int .i64 0), .nilS 133 4]⟩
theorem tyOk50 : TyOk Go.Proofs.Try.prog 50 ty50 := ⟨by kernel_rfl, by kernel_rfl, by kernel_rfl, by kernel_rfl, by kernel_rfl, fun h => nomatch (show true = false from h)⟩
def ty56 : TI := ⟨.sl 22, 1, 24, [.nilS 22 1]⟩
theorem tyOk56 : TyOk Go.Proofs.Try.prog 56 ty56 := ⟨by kernel_rfl, by kernel_rfl, by kernel_rfl, by kernel_rfl, by kernel_rfl, fun _ => by kernel_rfl⟩
def ty58 : TI := ⟨.st [(0, some 1), (1, some 1), (2, some 1)], 3, 40, [.v (.int .i64 0), .v (.int .i64 0), .nilS 22 1]⟩
theorem tyOk58 : TyOk Go.Proofs.Try.prog 58 ty58 := ⟨by kernel_rfl, by kernel_rfl, by kernel_rfl, by kernel_rfl, by kernel_rfl, fun h => nomatch (show true = false from h)⟩
def ty59 : TI := ⟨.st [(0, some 1), (1, some 1), (2, some 1)], 3, 40, [.v (.int .i64 0), .v (.int .i64 0), .nilS 22 1]⟩
theorem tyOk59 : TyOk Go.Proofs.Try.prog 59 ty59 := ⟨by kernel_rfl, by kernel_rfl, by kernel_rfl, by kernel_rfl, by kernel_rfl, fun h => nomatch (show true = false from h)⟩
def ty67 : TI := ⟨.st [(0, some 1), (1, some 1), (2, some 1)], 3, 40, [.v (.int .i64 0), .v (.int .i64 0), .nilS 22 1]⟩
theorem tyOk67 : TyOk Go.Proofs.Try.prog 67 ty67 := ⟨by kernel_rfl, by kernel_rfl, by kernel_rfl, by kernel_rfl, by kernel_rfl, fun h => nomatch (show true = false from h)⟩
def ty83 : TI := ⟨.sl 88, 1, 24, [.nilS 88 3]⟩
theorem tyOk83 : TyOk Go.Proofs.Try.prog 83 ty83 := ⟨by kernel_rfl, by kernel_rfl, by kernel_rfl, by kernel_rfl, by kernel_rfl, fun _ => by kernel_rfl⟩
def ty87 : TI := ⟨.ar 3 5, 3, 3, [.v (.int .u8 0), .v (.int .u8 0), .v (.int .u8 0)]⟩
theorem tyOk87 : TyOk Go.Proofs.Try.prog 87 ty87 := ⟨by kernel_rfl, by kernel_rfl, by kernel_rfl, by kernel_rfl, by kernel_rfl, fun h => nomatch (show true = false from h)⟩
def ty88 : TI := ⟨.ar 3 5, 3, 3, [.v (.int .u8 0), .v (.int .u8 0), .v (.int .u8 0)]⟩
theorem tyOk88 : TyOk Go.Proofs.Try.prog 88 ty88 := ⟨by kernel_rfl, by kernel_rfl, by kernel_rfl, by kernel_rfl, by kernel_rfl, fun h => nomatch (show true = false from h)⟩
def ty89 : TI := ⟨.mp 88 2, 1, 8, [.v (.map none)]⟩
theorem tyOk89 : TyOk Go.Proofs.Try.prog 89 ty89 := ⟨by kernel_rfl, by kernel_rfl, by kernel_rfl, by kernel_rfl, by kernel_rfl, fun _ => by kernel_rfl⟩
def ty90 : TI := ⟨.mp 88 2, 1, 8, [.v (.map none)]⟩
theorem tyOk90 : TyOk Go.Proofs.Try.prog 90 ty90 := ⟨by kernel_rfl, by kernel_rfl, by kernel_rfl, by kernel_rfl, by kernel_rfl, fun _ => by kernel_rfl⟩
def ty105 : TI := ⟨.int .u64, 1, 8, [.v (.int .u64 0)]⟩
theorem tyOk105 : TyOk Go.Proofs.Try.prog 105 ty105 := ⟨by kernel_rfl, by kernel_rfl, by kernel_rfl, by kernel_rfl, by kernel_rfl, fun _ => by kernel_rfl⟩
def ty107 : TI := ⟨.st [(0, some 3), (3, some 1)], 4, 16, [.v (.int .u8 0), .v (.int .u8 0), .v (.int .u8 0), .v (.int .i64 0)]⟩
theorem tyOk107 : TyOk Go.Proofs.Try.prog 107 ty107 := ⟨by kernel_rfl, by kernel_rfl, by kernel_rfl, by kernel_rfl, by kernel_rfl, fun h => nomatch (show true = false from h)⟩
def ty108 : TI := ⟨.st [(0, some 3), (3, some 1)], 4, 16, [.v (.int .u8 0), .v (.int .u8 0), .v (.int .u8 0), .v (.int .i64 0)]⟩
theorem tyOk108 : TyOk Go.Proofs.Try.prog 108 ty108 := ⟨by kernel_rfl, by kernel_rfl, by kernel_rfl, by kernel_rfl, by kernel_rfl, fun h => nomatch (show true = false from h)⟩
def ty119 : TI := ⟨.sl 122, 1, 24, [.nilS 122 1]⟩
theorem tyOk119 : TyOk Go.Proofs.Try.prog 119 ty119 := ⟨by kernel_rfl, by kernel_rfl, by kernel_rfl, by kernel_rfl, by kernel_rfl, fun _ => by kernel_rfl⟩
def ty122 : TI := ⟨.sl 3, 1, 24, [.nilS 3 1]⟩
theorem tyOk122 : TyOk Go.Proofs.Try.prog 122 ty122 := ⟨by kernel_rfl, by kernel_rfl, by kernel_rfl, by kernel_rfl, by kernel_rfl, fun _ => by kernel_rfl⟩
def ty132 : TI := ⟨.st [(0, some 3), (3, some 1)], 4, 16, [.v (.int .u8 0), .v (.int .u8 0), .v (.int .u8 0), .v (.int .i64 0)]⟩
theorem tyOk132 : TyOk Go.Proofs.Try.prog 132 ty132 := ⟨by kernel_rfl, by kernel_rfl, by kernel_rfl, by kernel_rfl, by kernel_rfl, fun h => nomatch (show true = false from h)⟩
def ty133 : TI := ⟨.st [(0, some 3), (3, some 1)], 4, 16, [.v (.int .u8 0), .v (.int .u8 0), .v (.int .u8 0), .v (.int .i64 0)]⟩
theorem tyOk133 : TyOk Go.Proofs.Try.prog 133 ty133 := ⟨by kernel_rfl, by kernel_rfl, by kernel_rfl, by kernel_rfl, by kernel_rfl, fun h => nomatch (show true = false from h)⟩
def ty150 : TI := ⟨.int .i64, 1, 8, [.v (.int .i64 0)]⟩
theorem tyOk150 : TyOk Go.Proofs.Try.prog 150 ty150 := ⟨by kernel_rfl, by kernel_rfl, by kernel_rfl, by kernel_rfl, by kernel_rfl, fun _ => by kernel_rfl⟩
def ty158 : TI := ⟨.int .u32, 1, 4, [.v (.int .u32 0)]⟩
theorem tyOk158 : TyOk Go.Proofs.Try.prog 158 ty158 := ⟨by kernel_rfl, by kernel_rfl, by kernel_rfl, by kernel_rfl, by kernel_rfl, fun _ => by kernel_rfl⟩
def ty160 : TI := ⟨.int .u64, 1, 8, [.v (.int .u64 0)]⟩
theorem tyOk160 : TyOk Go.Proofs.Try.prog 160 ty160 := ⟨by kernel_rfl, by kernel_rfl, by kernel_rfl, by kernel_rfl, by kernel_rfl, fun _ => by kernel_rfl⟩
def ty166 : TI := ⟨.int .u64, 1, 8, [.v (.int .u64 0)]⟩
theorem tyOk166 : TyOk Go.Proofs.Try.prog 166 ty166 := ⟨by kernel_rfl, by kernel_rfl, by kernel_rfl, by kernel_rfl, by kernel_rfl, fun _ => by kernel_rfl⟩
def ty185 : TI := ⟨.int .u8, 1, 1, [.v (.int .u8 0)]⟩
theorem tyOk185 : TyOk Go.Proofs.Try.prog 185 ty185 := ⟨by kernel_rfl, by kernel_rfl, by kernel_rfl, by kernel_rfl, by kernel_rfl, fun _ => by kernel_rfl⟩
def ty186 : TI := ⟨.int .u8, 1, 1, [.v (.int .u8 0)]⟩
theorem tyOk186 : TyOk Go.Proofs.Try.prog 186 ty186 := ⟨by kernel_rfl, by kernel_rfl, by kernel_rfl, by kernel_rfl, by kernel_rfl, fun _ => by kernel_rfl⟩
def ty189 : TI := ⟨.int .i32, 1, 4, [.v (.int .i32 0)]⟩
theorem tyOk189 : TyOk Go.Proofs.Try.prog 189 ty189 := ⟨by kernel_rfl, by kernel_rfl, by kernel_rfl, by kernel_rfl, by kernel_rfl, fun _ => by kernel_rfl⟩
def ty190 : TI := ⟨.int .i32, 1, 4, [.v (.int .i32 0)]⟩
theorem tyOk190 : TyOk Go.Proofs.Try.prog 190 ty190 := ⟨by kernel_rfl, by kernel_rfl, by kernel_rfl, by kernel_rfl, by kernel_rfl, fun _ => by kernel_rfl⟩

def tab : Tab := [(2, ty2), (3, ty3), (4, ty4), (5, ty5), (6, ty6), (7, ty7), (8, ty8), (9, ty9), (10, ty10), (11, ty11), (12, ty12), (13, ty13), (14, ty14), (21, ty21), (22, ty22), (29, ty29), (32, ty32), (37, ty37), (38, ty38), (39, ty39), (48, ty48), (49, ty49), (50, ty50), (56, ty56), (58, ty58), (59, ty59), (67, ty67), (83, ty83), (87, ty87), (88, ty88), (89, ty89), (90, ty90), (105, ty105), (107, ty107), (108, ty108), (119, ty119), (122, ty122), (132, ty132), (133, ty133), (150, ty150), (158, ty158), (160, ty160), (166, ty166), (185, ty185), (186, ty186), (189, ty189), (190, ty190)]
@[simp] theorem lkT2 : lk tab 2 = some ty2 := rfl
@[simp] theorem lkT3 : lk tab 3 = some ty3 := rfl
@[simp] theorem lkT4 : lk tab 4 = some ty4 := rfl
@[simp] theorem lkT5 : lk tab 5 = some ty5 := rfl
@[simp] theorem lkT6 : lk tab 6 = some ty6 := rfl
@[simp] theorem lkT7 : lk tab 7 = some ty7 := rfl
@[simp] theorem lkT8 : lk tab 8 = some ty8 := rfl
@[simp] theorem lkT9 : lk tab 9 = some ty9 := rfl
@[simp] theorem lkT10 : lk tab 10 = some ty10 := rfl
@[simp] theorem lkT11 : lk tab 11 = some ty11 := rfl
@[simp] theorem lkT12 : lk tab 12 = some ty12 := rfl
@[simp] theorem lkT13 : lk tab 13 = some ty13 := rfl
@[simp] theorem lkT14 : lk tab 14 = some ty14 := rfl
@[simp] theorem lkT21 : lk tab 21 = some ty21 := rfl
@[simp] theorem lkT22 : lk tab 22 = some ty22 := rfl
@[simp] theorem lkT29 : lk tab 29 = some ty29 := rfl
@[simp] theorem lkT32 : lk tab 32 = some ty32 := rfl
@[simp] theorem lkT37 : lk tab 37 = some ty37 := rfl
@[simp] theorem lkT38 : lk tab 38 = some ty38 := rfl
@[simp] theorem lkT39 : lk tab 39 = some ty39 := rfl
@[simp] theorem lkT48 : lk tab 48 = some ty48 := rfl
@[simp] theorem lkT49 : lk tab 49 = some ty49 := rfl
@[simp] theorem lkT50 : lk tab 50 = some ty50 := rfl
@[simp] theorem lkT56 : lk tab 56 = some ty56 := rfl
@[simp] theorem lkT58 : lk tab 58 = some ty58 := rfl
@[simp] theorem lkT59 : lk tab 59 = some ty59 := rfl
@[simp] theorem lkT67 : lk tab 67 = some ty67 := rfl
@[simp] theorem lkT83 : lk tab 83 = some ty83 := rfl
@[simp] theorem lkT87 : lk tab 87 = some ty87 := rfl
@[simp] theorem lkT88 : lk tab 88 = some ty88 := rfl
@[simp] theorem lkT89 : lk tab 89 = some ty89 := rfl
@[simp] theorem lkT90 : lk tab 90 = some ty90 := rfl
@[simp] theorem lkT105 : lk tab 105 = some ty105 := rfl
@[simp] theorem lkT107 : lk tab 107 = some ty107 := rfl
@[simp] theorem lkT108 : lk tab 108 = some ty108 := rfl
@[simp] theorem lkT119 : lk tab 119 = some ty119 := rfl
@[simp] theorem lkT122 : lk tab 122 = some ty122 := rfl
@[simp] theorem lkT132 : lk tab 132 = some ty132 := rfl
@[simp] theorem lkT133 : lk tab 133 = some ty133 := rfl
@[simp] theorem lkT150 : lk tab 150 = some ty150 := rfl
@[simp] theorem lkT158 : lk tab 158 = some ty158 := rfl
@[simp] theorem lkT160 : lk tab 160 = some ty160 := rfl
@[simp] theorem lkT166 : lk tab 166 = some ty166 := rfl
@[simp] theorem lkT185 : lk tab 185 = some ty185 := rfl
@[simp] theorem lkT186 : lk tab 186 = some ty186 := rfl
@[simp] theorem lkT189 : lk tab 189 = some ty189 := rfl
@[simp] theorem lkT190 : lk tab 190 = some ty190 := rfl
attribute [simp] ty2 ty3 ty4 ty5 ty6 ty7 ty8 ty9 ty10 ty11 ty12 ty13 ty14 ty21 ty22 ty29 ty32 ty37 ty38 ty39 ty48 ty49 ty50 ty56 ty58 ty59 ty67 ty83 ty87 ty88 ty89 ty90 ty105 ty107 ty108 ty119 ty122 ty132 ty133 ty150 ty158 ty160 ty166 ty185 ty186 ty189 ty190
theorem eqi2 : EqI Go.Proofs.Try.prog 1 2 1 false := eqI_int (tyOk2.int rfl)
theorem eqi3 : EqI Go.Proofs.Try.prog 1 3 1 false := eqI_int (tyOk3.int rfl)
theorem eqi5 : EqI Go.Proofs.Try.prog 1 5 1 false := eqI_int (tyOk5.int rfl)
theorem eqi6 : EqI Go.Proofs.Try.prog 1 6 1 false := eqI_int (tyOk6.int rfl)
theorem eqi12 : EqI Go.Proofs.Try.prog 1 12 1 false := eqI_int (tyOk12.int rfl)
theorem eqi21 : EqI Go.Proofs.Try.prog 1 21 1 false := eqI_int (tyOk21.int rfl)
theorem eqi87 : EqI Go.Proofs.Try.prog 2 87 3 true := eqI_arr (tyOk87.ar rfl) tyOk5 eqi5 (fun _ => rfl)
theorem eqi88 : EqI Go.Proofs.Try.prog 2 88 3 true := eqI_arr (tyOk88.ar rfl) tyOk5 eqi5 (fun _ => rfl)
theorem eqi105 : EqI Go.Proofs.Try.prog 1 105 1 false := eqI_int (tyOk105.int rfl)
theorem eqi107 : EqI Go.Proofs.Try.prog 3 107 4 true := eqI_struct (l := [(true, 0, 88), (true, 3, 2)]) ⟨by kernel_rfl, by kernel_rfl⟩ (by kernel_rfl) (by kernel_rfl) (.cons tyOk88 eqi88 (fun h => nomatch (show true = false from h)) <| .cons tyOk2 (EqI.up eqi2) (fun _ => rfl) <| .nil _)
theorem eqi108 : EqI Go.Proofs.Try.prog 3 108 4 true := eqI_struct (l := [(true, 0, 88), (true, 3, 2)]) ⟨by kernel_rfl, by kernel_rfl⟩ (by kernel_rfl) (by kernel_rfl) (.cons tyOk88 eqi88 (fun h => nomatch (show true = false from h)) <| .cons tyOk2 (EqI.up eqi2) (fun _ => rfl) <| .nil _)
theorem eqi132 : EqI Go.Proofs.Try.prog 3 132 4 true := eqI_struct (l := [(true, 0, 87), (true, 3, 2)]) ⟨by kernel_rfl, by kernel_rfl⟩ (by kernel_rfl) (by kernel_rfl) (.cons tyOk87 eqi87 (fun h => nomatch (show true = false from h)) <| .cons tyOk2 (EqI.up eqi2) (fun _ => rfl) <| .nil _)
theorem eqi133 : EqI Go.Proofs.Try.prog 3 133 4 true := eqI_struct (l := [(true, 0, 87), (true, 3, 2)]) ⟨by kernel_rfl, by kernel_rfl⟩ (by kernel_rfl) (by kernel_rfl) (.cons tyOk87 eqi87 (fun h => nomatch (show true = false from h)) <| .cons tyOk2 (EqI.up eqi2) (fun _ => rfl) <| .nil _)
theorem eqi150 : EqI Go.Proofs.Try.prog 1 150 1 false := eqI_int (tyOk150.int rfl)
theorem eqi158 : EqI Go.Proofs.Try.prog 1 158 1 false := eqI_int (tyOk158.int rfl)
theorem eqi160 : EqI Go.Proofs.Try.prog 1 160 1 false := eqI_int (tyOk160.int rfl)
theorem eqi166 : EqI Go.Proofs.Try.prog 1 166 1 false := eqI_int (tyOk166.int rfl)
theorem eqi185 : EqI Go.Proofs.Try.prog 1 185 1 false := eqI_int (tyOk185.int rfl)
theorem eqi186 : EqI Go.Proofs.Try.prog 1 186 1 false := eqI_int (tyOk186.int rfl)
theorem eqi189 : EqI Go.Proofs.Try.prog 1 189 1 false := eqI_int (tyOk189.int rfl)
theorem eqi190 : EqI Go.Proofs.Try.prog 1 190 1 false := eqI_int (tyOk190.int rfl)
theorem eqOk87 : EqOk Go.Proofs.Try.prog 87 3 := eqOk_of eqi87 (by kernel_rfl) (by decide)
theorem eqOk88 : EqOk Go.Proofs.Try.prog 88 3 := eqOk_of eqi88 (by kernel_rfl) (by decide)
theorem eqOk107 : EqOk Go.Proofs.Try.prog 107 4 := eqOk_of eqi107 (by kernel_rfl) (by decide)
theorem eqOk108 : EqOk Go.Proofs.Try.prog 108 4 := eqOk_of eqi108 (by kernel_rfl) (by decide)
theorem eqOk132 : EqOk Go.Proofs.Try.prog 132 4 := eqOk_of eqi132 (by kernel_rfl) (by decide)
theorem eqOk133 : EqOk Go.Proofs.Try.prog 133 4 := eqOk_of eqi133 (by kernel_rfl) (by decide)
def etab : List (Nat × Nat) := [(87, 3), (88, 3), (107, 4), (108, 4), (132, 4), (133, 4)]
@[simp] theorem lkE87 : lk etab 87 = some 3 := rfl
@[simp] theorem lkE88 : lk etab 88 = some 3 := rfl
@[simp] theorem lkE107 : lk etab 107 = some 4 := rfl
@[simp] theorem lkE108 : lk etab 108 = some 4 := rfl
@[simp] theorem lkE132 : lk etab 132 = some 4 := rfl
@[simp] theorem lkE133 : lk etab 133 = some 4 := rfl
theorem etab_ok : ∀ t n, lk etab t = some n → EqOk Go.Proofs.Try.prog t n := eqTab_cons eqOk87 <|
  eqTab_cons eqOk88 <|
  eqTab_cons eqOk107 <|
  eqTab_cons eqOk108 <|
  eqTab_cons eqOk132 <|
  eqTab_cons eqOk133 <| fun _ _ h => by simp [lk] at h
theorem tab_ok : TabOk Go.Proofs.Try.prog tab :=
  tabOk_cons tyOk2 <|
  tabOk_cons tyOk3 <|
  tabOk_cons tyOk4 <|
  tabOk_cons tyOk5 <|
  tabOk_cons tyOk6 <|
  tabOk_cons tyOk7 <|
  tabOk_cons tyOk8 <|
  tabOk_cons tyOk9 <|
  tabOk_cons tyOk10 <|
  tabOk_cons tyOk11 <|
  tabOk_cons tyOk12 <|
  tabOk_cons tyOk13 <|
  tabOk_cons tyOk14 <|
  tabOk_cons tyOk21 <|
  tabOk_cons tyOk22 <|
  tabOk_cons tyOk29 <|
  tabOk_cons tyOk32 <|
  tabOk_cons tyOk37 <|
  tabOk_cons tyOk38 <|
  tabOk_cons tyOk39 <|
  tabOk_cons tyOk48 <|
  tabOk_cons tyOk49 <|
  tabOk_cons tyOk50 <|
  tabOk_cons tyOk56 <|
  tabOk_cons tyOk58 <|
  tabOk_cons tyOk59 <|
  tabOk_cons tyOk67 <|
  tabOk_cons tyOk83 <|
  tabOk_cons tyOk87 <|
  tabOk_cons tyOk88 <|
  tabOk_cons tyOk89 <|
  tabOk_cons tyOk90 <|
  tabOk_cons tyOk105 <|
  tabOk_cons tyOk107 <|
  tabOk_cons tyOk108 <|
  tabOk_cons tyOk119 <|
  tabOk_cons tyOk122 <|
  tabOk_cons tyOk132 <|
  tabOk_cons tyOk133 <|
  tabOk_cons tyOk150 <|
  tabOk_cons tyOk158 <|
  tabOk_cons tyOk160 <|
  tabOk_cons tyOk166 <|
  tabOk_cons tyOk185 <|
  tabOk_cons tyOk186 <|
  tabOk_cons tyOk189 <|
  tabOk_cons tyOk190 <| tabOk_nil

end Go.Sm
