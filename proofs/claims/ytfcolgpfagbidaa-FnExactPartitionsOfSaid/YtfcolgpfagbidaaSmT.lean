/- MADE BY A PROGRAM (gentab.py): the types of the translation, as the symbolic state reads them. -/
import Derived.Test.YtfcolgpfagbidaaProg
import Derived.Test.YtfcolgpfagbidaaSmQ
namespace Go.Sm
open Go.RowKit

def ty2 : TI := ⟨.int .i64, 1, 8, [.v (.int .i64 0)]⟩
theorem tyOk2 : TyOk Go.Proofs.Try.prog 2 ty2 := ⟨by kernel_rfl, by kernel_rfl, by kernel_rfl, by kernel_rfl, by kernel_rfl⟩
def ty3 : TI := ⟨.int .i64, 1, 8, [.v (.int .i64 0)]⟩
theorem tyOk3 : TyOk Go.Proofs.Try.prog 3 ty3 := ⟨by kernel_rfl, by kernel_rfl, by kernel_rfl, by kernel_rfl, by kernel_rfl⟩
def ty4 : TI := ⟨.bool, 1, 1, [.v (.bool false)]⟩
theorem tyOk4 : TyOk Go.Proofs.Try.prog 4 ty4 := ⟨by kernel_rfl, by kernel_rfl, by kernel_rfl, by kernel_rfl, by kernel_rfl⟩
def ty5 : TI := ⟨.int .u8, 1, 1, [.v (.int .u8 0)]⟩
theorem tyOk5 : TyOk Go.Proofs.Try.prog 5 ty5 := ⟨by kernel_rfl, by kernel_rfl, by kernel_rfl, by kernel_rfl, by kernel_rfl⟩
def ty6 : TI := ⟨.int .u8, 1, 1, [.v (.int .u8 0)]⟩
theorem tyOk6 : TyOk Go.Proofs.Try.prog 6 ty6 := ⟨by kernel_rfl, by kernel_rfl, by kernel_rfl, by kernel_rfl, by kernel_rfl⟩
def ty7 : TI := ⟨.st [(0, some 1), (1, some 1), (2, some 1), (3, some 1)], 4, 24, [.v (.int .i64 0), .v (.int .i64 0), .v (.bool false), .v (.int .u8 0)]⟩
theorem tyOk7 : TyOk Go.Proofs.Try.prog 7 ty7 := ⟨by kernel_rfl, by kernel_rfl, by kernel_rfl, by kernel_rfl, by kernel_rfl⟩
def ty8 : TI := ⟨.st [(0, some 1), (1, some 1), (2, some 1), (3, some 1)], 4, 24, [.v (.int .i64 0), .v (.int .i64 0), .v (.bool false), .v (.int .u8 0)]⟩
theorem tyOk8 : TyOk Go.Proofs.Try.prog 8 ty8 := ⟨by kernel_rfl, by kernel_rfl, by kernel_rfl, by kernel_rfl, by kernel_rfl⟩
def ty9 : TI := ⟨.str, 1, 16, [.v (.string ⟨#[]⟩)]⟩
theorem tyOk9 : TyOk Go.Proofs.Try.prog 9 ty9 := ⟨by kernel_rfl, by kernel_rfl, by kernel_rfl, by kernel_rfl, by kernel_rfl⟩
def ty10 : TI := ⟨.str, 1, 16, [.v (.string ⟨#[]⟩)]⟩
theorem tyOk10 : TyOk Go.Proofs.Try.prog 10 ty10 := ⟨by kernel_rfl, by kernel_rfl, by kernel_rfl, by kernel_rfl, by kernel_rfl⟩
def ty11 : TI := ⟨.str, 1, 16, [.v (.string ⟨#[]⟩)]⟩
theorem tyOk11 : TyOk Go.Proofs.Try.prog 11 ty11 := ⟨by kernel_rfl, by kernel_rfl, by kernel_rfl, by kernel_rfl, by kernel_rfl⟩
def ty12 : TI := ⟨.int .u64, 1, 8, [.v (.int .u64 0)]⟩
theorem tyOk12 : TyOk Go.Proofs.Try.prog 12 ty12 := ⟨by kernel_rfl, by kernel_rfl, by kernel_rfl, by kernel_rfl, by kernel_rfl⟩
def ty13 : TI := ⟨.st [(0, some 1), (1, some 1)], 2, 24, [.v (.string ⟨#[]⟩), .v (.int .u64 0)]⟩
theorem tyOk13 : TyOk Go.Proofs.Try.prog 13 ty13 := ⟨by kernel_rfl, by kernel_rfl, by kernel_rfl, by kernel_rfl, by kernel_rfl⟩
def ty14 : TI := ⟨.st [(0, some 1), (1, some 1)], 2, 24, [.v (.string ⟨#[]⟩), .v (.int .u64 0)]⟩
theorem tyOk14 : TyOk Go.Proofs.Try.prog 14 ty14 := ⟨by kernel_rfl, by kernel_rfl, by kernel_rfl, by kernel_rfl, by kernel_rfl⟩
def ty21 : TI := ⟨.int .i32, 1, 4, [.v (.int .i32 0)]⟩
theorem tyOk21 : TyOk Go.Proofs.Try.prog 21 ty21 := ⟨by kernel_rfl, by kernel_rfl, by kernel_rfl, by kernel_rfl, by kernel_rfl⟩
def ty22 : TI := ⟨.sl 28, 1, 24, [.nilS 28 1]⟩
theorem tyOk22 : TyOk Go.Proofs.Try.prog 22 ty22 := ⟨by kernel_rfl, by kernel_rfl, by kernel_rfl, by kernel_rfl, by kernel_rfl⟩
def ty28 : TI := ⟨.sl 2, 1, 24, [.nilS 2 1]⟩
theorem tyOk28 : TyOk Go.Proofs.Try.prog 28 ty28 := ⟨by kernel_rfl, by kernel_rfl, by kernel_rfl, by kernel_rfl, by kernel_rfl⟩
def ty35 : TI := ⟨.sl 61, 1, 24, [.nilS 61 3]⟩
theorem tyOk35 : TyOk Go.Proofs.Try.prog 35 ty35 := ⟨by kernel_rfl, by kernel_rfl, by kernel_rfl, by kernel_rfl, by kernel_rfl⟩
def ty38 : TI := ⟨.sl 45, 1, 24, [.nilS 45 3]⟩
theorem tyOk38 : TyOk Go.Proofs.Try.prog 38 ty38 := ⟨by kernel_rfl, by kernel_rfl, by kernel_rfl, by kernel_rfl, by kernel_rfl⟩
def ty43 : TI := ⟨.sl 87, 1, 24, [.nilS 87 4]⟩
theorem tyOk43 : TyOk Go.Proofs.Try.prog 43 ty43 := ⟨by kernel_rfl, by kernel_rfl, by kernel_rfl, by kernel_rfl, by kernel_rfl⟩
def ty44 : TI := ⟨.st [(0, some 1), (1, some 1), (2, some 1)], 3, 40, [.v (.int .i64 0), .v (.int .i64 0), .nilS 87 4]⟩
theorem tyOk44 : TyOk Go.Proofs.Try.prog 44 ty44 := ⟨by kernel_rfl, by kernel_rfl, by kernel_rfl, by kernel_rfl, by kernel_rfl⟩
def ty45 : TI := ⟨.st [(0, some 1), (1, some 1), (2, some 1)], 3, 40, [.v (.int .i64 0), .v (.int .i64 0), .nilS 87 4]⟩
theorem tyOk45 : TyOk Go.Proofs.Try.prog 45 ty45 := ⟨by kernel_rfl, by kernel_rfl, by kernel_rfl, by kernel_rfl, by kernel_rfl⟩
def ty59 : TI := ⟨.sl 104, 1, 24, [.nilS 104 4]⟩
theorem tyOk59 : TyOk Go.Proofs.Try.prog 59 ty59 := ⟨by kernel_rfl, by kernel_rfl, by kernel_rfl, by kernel_rfl, by kernel_rfl⟩
def ty60 : TI := ⟨.st [(0, some 1), (1, some 1), (2, some 1)], 3, 40, [.v (.int .i64 0), .v (.int .i64 0), .nilS 104 4]⟩
theorem tyOk60 : TyOk Go.Proofs.Try.prog 60 ty60 := ⟨by kernel_rfl, by kernel_rfl, by kernel_rfl, by kernel_rfl, by kernel_rfl⟩
def ty61 : TI := ⟨.st [(0, some 1), (1, some 1), (2, some 1)], 3, 40, [.v (.int .i64 0), .v (.int .i64 0), .nilS 104 4]⟩
theorem tyOk61 : TyOk Go.Proofs.Try.prog 61 ty61 := ⟨by kernel_rfl, by kernel_rfl, by kernel_rfl, by kernel_rfl, by kernel_rfl⟩
def ty69 : TI := ⟨.sl 74, 1, 24, [.nilS 74 3]⟩
theorem tyOk69 : TyOk Go.Proofs.Try.prog 69 ty69 := ⟨by kernel_rfl, by kernel_rfl, by kernel_rfl, by kernel_rfl, by kernel_rfl⟩
def ty73 : TI := ⟨.ar 3 5, 3, 3, [.v (.int .u8 0), .v (.int .u8 0), .v (.int .u8 0)]⟩
theorem tyOk73 : TyOk Go.Proofs.Try.prog 73 ty73 := ⟨by kernel_rfl, by kernel_rfl, by kernel_rfl, by kernel_rfl, by kernel_rfl⟩
def ty74 : TI := ⟨.ar 3 5, 3, 3, [.v (.int .u8 0), .v (.int .u8 0), .v (.int .u8 0)]⟩
theorem tyOk74 : TyOk Go.Proofs.Try.prog 74 ty74 := ⟨by kernel_rfl, by kernel_rfl, by kernel_rfl, by kernel_rfl, by kernel_rfl⟩
def ty75 : TI := ⟨.mp 74 2, 1, 8, [.v (.map none)]⟩
theorem tyOk75 : TyOk Go.Proofs.Try.prog 75 ty75 := ⟨by kernel_rfl, by kernel_rfl, by kernel_rfl, by kernel_rfl, by kernel_rfl⟩
def ty76 : TI := ⟨.mp 74 2, 1, 8, [.v (.map none)]⟩
theorem tyOk76 : TyOk Go.Proofs.Try.prog 76 ty76 := ⟨by kernel_rfl, by kernel_rfl, by kernel_rfl, by kernel_rfl, by kernel_rfl⟩
def ty81 : TI := ⟨.int .u64, 1, 8, [.v (.int .u64 0)]⟩
theorem tyOk81 : TyOk Go.Proofs.Try.prog 81 ty81 := ⟨by kernel_rfl, by kernel_rfl, by kernel_rfl, by kernel_rfl, by kernel_rfl⟩
def ty86 : TI := ⟨.st [(0, some 3), (3, some 1)], 4, 16, [.v (.int .u8 0), .v (.int .u8 0), .v (.int .u8 0), .v (.int .i64 0)]⟩
theorem tyOk86 : TyOk Go.Proofs.Try.prog 86 ty86 := ⟨by kernel_rfl, by kernel_rfl, by kernel_rfl, by kernel_rfl, by kernel_rfl⟩
def ty87 : TI := ⟨.st [(0, some 3), (3, some 1)], 4, 16, [.v (.int .u8 0), .v (.int .u8 0), .v (.int .u8 0), .v (.int .i64 0)]⟩
theorem tyOk87 : TyOk Go.Proofs.Try.prog 87 ty87 := ⟨by kernel_rfl, by kernel_rfl, by kernel_rfl, by kernel_rfl, by kernel_rfl⟩
def ty98 : TI := ⟨.sl 101, 1, 24, [.nilS 101 1]⟩
theorem tyOk98 : TyOk Go.Proofs.Try.prog 98 ty98 := ⟨by kernel_rfl, by kernel_rfl, by kernel_rfl, by kernel_rfl, by kernel_rfl⟩
def ty101 : TI := ⟨.sl 3, 1, 24, [.nilS 3 1]⟩
theorem tyOk101 : TyOk Go.Proofs.Try.prog 101 ty101 := ⟨by kernel_rfl, by kernel_rfl, by kernel_rfl, by kernel_rfl, by kernel_rfl⟩
def ty103 : TI := ⟨.st [(0, some 3), (3, some 1)], 4, 16, [.v (.int .u8 0), .v (.int .u8 0), .v (.int .u8 0), .v (.int .i64 0)]⟩
theorem tyOk103 : TyOk Go.Proofs.Try.prog 103 ty103 := ⟨by kernel_rfl, by kernel_rfl, by kernel_rfl, by kernel_rfl, by kernel_rfl⟩
def ty104 : TI := ⟨.st [(0, some 3), (3, some 1)], 4, 16, [.v (.int .u8 0), .v (.int .u8 0), .v (.int .u8 0), .v (.int .i64 0)]⟩
theorem tyOk104 : TyOk Go.Proofs.Try.prog 104 ty104 := ⟨by kernel_rfl, by kernel_rfl, by kernel_rfl, by kernel_rfl, by kernel_rfl⟩
def ty111 : TI := ⟨.int .i64, 1, 8, [.v (.int .i64 0)]⟩
theorem tyOk111 : TyOk Go.Proofs.Try.prog 111 ty111 := ⟨by kernel_rfl, by kernel_rfl, by kernel_rfl, by kernel_rfl, by kernel_rfl⟩
def ty119 : TI := ⟨.int .u32, 1, 4, [.v (.int .u32 0)]⟩
theorem tyOk119 : TyOk Go.Proofs.Try.prog 119 ty119 := ⟨by kernel_rfl, by kernel_rfl, by kernel_rfl, by kernel_rfl, by kernel_rfl⟩
def ty121 : TI := ⟨.int .u64, 1, 8, [.v (.int .u64 0)]⟩
theorem tyOk121 : TyOk Go.Proofs.Try.prog 121 ty121 := ⟨by kernel_rfl, by kernel_rfl, by kernel_rfl, by kernel_rfl, by kernel_rfl⟩
def ty122 : TI := ⟨.int .u64, 1, 8, [.v (.int .u64 0)]⟩
theorem tyOk122 : TyOk Go.Proofs.Try.prog 122 ty122 := ⟨by kernel_rfl, by kernel_rfl, by kernel_rfl, by kernel_rfl, by kernel_rfl⟩
def ty138 : TI := ⟨.int .u8, 1, 1, [.v (.int .u8 0)]⟩
theorem tyOk138 : TyOk Go.Proofs.Try.prog 138 ty138 := ⟨by kernel_rfl, by kernel_rfl, by kernel_rfl, by kernel_rfl, by kernel_rfl⟩
def ty139 : TI := ⟨.int .u8, 1, 1, [.v (.int .u8 0)]⟩
theorem tyOk139 : TyOk Go.Proofs.Try.prog 139 ty139 := ⟨by kernel_rfl, by kernel_rfl, by kernel_rfl, by kernel_rfl, by kernel_rfl⟩
def ty142 : TI := ⟨.int .i32, 1, 4, [.v (.int .i32 0)]⟩
theorem tyOk142 : TyOk Go.Proofs.Try.prog 142 ty142 := ⟨by kernel_rfl, by kernel_rfl, by kernel_rfl, by kernel_rfl, by kernel_rfl⟩
def ty143 : TI := ⟨.int .i32, 1, 4, [.v (.int .i32 0)]⟩
theorem tyOk143 : TyOk Go.Proofs.Try.prog 143 ty143 := ⟨by kernel_rfl, by kernel_rfl, by kernel_rfl, by kernel_rfl, by kernel_rfl⟩

def tab : Tab := [(2, ty2), (3, ty3), (4, ty4), (5, ty5), (6, ty6), (7, ty7), (8, ty8), (9, ty9), (10, ty10), (11, ty11), (12, ty12), (13, ty13), (14, ty14), (21, ty21), (22, ty22), (28, ty28), (35, ty35), (38, ty38), (43, ty43), (44, ty44), (45, ty45), (59, ty59), (60, ty60), (61, ty61), (69, ty69), (73, ty73), (74, ty74), (75, ty75), (76, ty76), (81, ty81), (86, ty86), (87, ty87), (98, ty98), (101, ty101), (103, ty103), (104, ty104), (111, ty111), (119, ty119), (121, ty121), (122, ty122), (138, ty138), (139, ty139), (142, ty142), (143, ty143)]
@[simp] theorem lkT2 : lk tab 2 = some ty2 := rfl
@[simp] theorem lkT3 : lk tab 3 = some ty3 := rfl
@[simp] theorem lkT4 : lk tab 4 = some ty4 := rfl
@[simp] theorem lkT5 : lk tab 5 = some ty5 := rfl
@[simp] theorem lkT6 : lk tab 6 = some ty6 := rfl
@[simp] theorem lkT7 : lk tab 7 = some ty7 := rfl
@[simp] theorem lkT8 : lk tab 8 = some ty8 := rfl
@[simp] theorem lkT9 : lk tab 9 = some ty9 := rfl
@[simp] theorem lkT10 : lk tab 10 = some ty10 := rfl
@[simp] theorem lkT11 : lk tab 11 = some ty11 := rfl
@[simp] theorem lkT12 : lk tab 12 = some ty12 := rfl
@[simp] theorem lkT13 : lk tab 13 = some ty13 := rfl
@[simp] theorem lkT14 : lk tab 14 = some ty14 := rfl
@[simp] theorem lkT21 : lk tab 21 = some ty21 := rfl
@[simp] theorem lkT22 : lk tab 22 = some ty22 := rfl
@[simp] theorem lkT28 : lk tab 28 = some ty28 := rfl
@[simp] theorem lkT35 : lk tab 35 = some ty35 := rfl
@[simp] theorem lkT38 : lk tab 38 = some ty38 := rfl
@[simp] theorem lkT43 : lk tab 43 = some ty43 := rfl
@[simp] theorem lkT44 : lk tab 44 = some ty44 := rfl
@[simp] theorem lkT45 : lk tab 45 = some ty45 := rfl
@[simp] theorem lkT59 : lk tab 59 = some ty59 := rfl
@[simp] theorem lkT60 : lk tab 60 = some ty60 := rfl
@[simp] theorem lkT61 : lk tab 61 = some ty61 := rfl
@[simp] theorem lkT69 : lk tab 69 = some ty69 := rfl
@[simp] theorem lkT73 : lk tab 73 = some ty73 := rfl
@[simp] theorem lkT74 : lk tab 74 = some ty74 := rfl
@[simp] theorem lkT75 : lk tab 75 = some ty75 := rfl
@[simp] theorem lkT76 : lk tab 76 = some ty76 := rfl
@[simp] theorem lkT81 : lk tab 81 = some ty81 := rfl
@[simp] theorem lkT86 : lk tab 86 = some ty86 := rfl
@[simp] theorem lkT87 : lk tab 87 = some ty87 := rfl
@[simp] theorem lkT98 : lk tab 98 = some ty98 := rfl
@[simp] theorem lkT101 : lk tab 101 = some ty101 := rfl
@[simp] theorem lkT103 : lk tab 103 = some ty103 := rfl
@[simp] theorem lkT104 : lk tab 104 = some ty104 := rfl
@[simp] theorem lkT111 : lk tab 111 = some ty111 := rfl
@[simp] theorem lkT119 : lk tab 119 = some ty119 := rfl
@[simp] theorem lkT121 : lk tab 121 = some ty121 := rfl
@[simp] theorem lkT122 : lk tab 122 = some ty122 := rfl
@[simp] theorem lkT138 : lk tab 138 = some ty138 := rfl
@[simp] theorem lkT139 : lk tab 139 = some ty139 := rfl
@[simp] theorem lkT142 : lk tab 142 = some ty142 := rfl
@[simp] theorem lkT143 : lk tab 143 = some ty143 := rfl
attribute [simp] ty2 ty3 ty4 ty5 ty6 ty7 ty8 ty9 ty10 ty11 ty12 ty13 ty14 ty21 ty22 ty28 ty35 ty38 ty43 ty44 ty45 ty59 ty60 ty61 ty69 ty73 ty74 ty75 ty76 ty81 ty86 ty87 ty98 ty101 ty103 ty104 ty111 ty119 ty121 ty122 ty138 ty139 ty142 ty143
theorem tab_ok : TabOk Go.Proofs.Try.prog tab :=
  tabOk_cons tyOk2 <|
  tabOk_cons tyOk3 <|
  tabOk_cons tyOk4 <|
  tabOk_cons tyOk5 <|
  tabOk_cons tyOk6 <|
  tabOk_cons tyOk7 <|
  tabOk_cons tyOk8 <|
  tabOk_cons tyOk9 <|
  tabOk_cons tyOk10 <|
  tabOk_cons tyOk11 <|
  tabOk_cons tyOk12 <|
  tabOk_cons tyOk13 <|
  tabOk_cons tyOk14 <|
  tabOk_cons tyOk21 <|
  tabOk_cons tyOk22 <|
  tabOk_cons tyOk28 <|
  tabOk_cons tyOk35 <|
  tabOk_cons tyOk38 <|
  tabOk_cons tyOk43 <|
  tabOk_cons tyOk44 <|
  tabOk_cons tyOk45 <|
  tabOk_cons tyOk59 <|
  tabOk_cons tyOk60 <|
  tabOk_cons tyOk61 <|
  tabOk_cons tyOk69 <|
  tabOk_cons tyOk73 <|
  tabOk_cons tyOk74 <|
  tabOk_cons tyOk75 <|
  tabOk_cons tyOk76 <|
  tabOk_cons tyOk81 <|
  tabOk_cons tyOk86 <|
  tabOk_cons tyOk87 <|
  tabOk_cons tyOk98 <|
  tabOk_cons tyOk101 <|
  tabOk_cons tyOk103 <|
  tabOk_cons tyOk104 <|
  tabOk_cons tyOk111 <|
  tabOk_cons tyOk119 <|
  tabOk_cons tyOk121 <|
  tabOk_cons tyOk122 <|
  tabOk_cons tyOk138 <|
  tabOk_cons tyOk139 <|
  tabOk_cons tyOk142 <|
  tabOk_cons tyOk143 <| tabOk_nil

end Go.Sm
