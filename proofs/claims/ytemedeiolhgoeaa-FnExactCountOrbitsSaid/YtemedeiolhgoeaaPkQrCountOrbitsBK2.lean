/- Towards the rows of this seat: what the functions do, as contracts over plain data. -/
import Derived.Test.YtemedeiolhgoeaaProg
import Derived.LoopN
import Derived.Test.YtemedeiolhgoeaaPkQrCountOrbitsBK1
namespace Go.Sm
open Go.RowKit

def ty2 : TI := ⟨.int .i64, 1, 8, [.v (.int .i64 0)]⟩
theorem tyOk2 : TyOk Go.Proofs.Try.prog 2 ty2 := ⟨by kernel_rfl, by kernel_rfl, by kernel_rfl, by kernel_rfl, by kernel_rfl, fun _ => by kernel_rfl⟩
def ty3 : TI := ⟨.int .i64, 1, 8, [.v (.int .i64 0)]⟩
theorem tyOk3 : TyOk Go.Proofs.Try.prog 3 ty3 := ⟨by kernel_rfl, by kernel_rfl, by kernel_rfl, by kernel_rfl, by kernel_rfl, fun _ => by kernel_rfl⟩
def ty4 : TI := ⟨.bool, 1, 1, [.v (.bool false)]⟩
theorem tyOk4 : TyOk Go.Proofs.Try.prog 4 ty4 := ⟨by kernel_rfl, by kernel_rfl, by kernel_rfl, by kernel_rfl, by kernel_rfl, fun _ => by kernel_rfl⟩
def ty5 : TI := ⟨.int .u8, 1, 1, [.v (.int .u8 0)]⟩
theorem tyOk5 : TyOk Go.Proofs.Try.prog 5 ty5 := ⟨by kernel_rfl, by kernel_rfl, by kernel_rfl, by kernel_rfl, by kernel_rfl, fun _ => by kernel_rfl⟩
def ty6 : TI := ⟨.int .u8, 1, 1, [.v (.int .u8 0)]⟩
theorem tyOk6 : TyOk Go.Proofs.Try.prog 6 ty6 := ⟨by kernel_rfl, by kernel_rfl, by kernel_rfl, by kernel_rfl, by kernel_rfl, fun _ => by kernel_rfl⟩
def ty7 : TI := ⟨.st [(0, some 1), (1, some 1), (2, some 1), (3, some 1)] [2, 3, 4, 6], 4, 24, [.v (.int .i64 0), .v (.int .i64 0), .v (.bool false), .v (.int .u8 0)]⟩
theorem tyOk7 : TyOk Go.Proofs.Try.prog 7 ty7 := ⟨by kernel_rfl, by kernel_rfl, by kernel_rfl, by kernel_rfl, by kernel_rfl, fun h => nomatch (show true = false from h)⟩
def ty8 : TI := ⟨.st [(0, some 1), (1, some 1), (2, some 1), (3, some 1)] [2, 3, 4, 6], 4, 24, [.v (.int .i64 0), .v (.int .i64 0), .v (.bool false), .v (.int .u8 0)]⟩
theorem tyOk8 : TyOk Go.Proofs.Try.prog 8 ty8 := ⟨by kernel_rfl, by kernel_rfl, by kernel_rfl, by kernel_rfl, by kernel_rfl, fun h => nomatch (show true = false from h)⟩
def ty9 : TI := ⟨.str, 1, 16, [.v (.string ⟨#[]⟩)]⟩
theorem tyOk9 : TyOk Go.Proofs.Try.prog 9 ty9 := ⟨by kernel_rfl, by kernel_rfl, by kernel_rfl, by kernel_rfl, by kernel_rfl, fun _ => by kernel_rfl⟩
def ty10 : TI := ⟨.str, 1, 16, [.v (.string ⟨#[]⟩)]⟩
theorem tyOk10 : TyOk Go.Proofs.Try.prog 10 ty10 := ⟨by kernel_rfl, by kernel_rfl, by kernel_rfl, by kernel_rfl, by kernel_rfl, fun _ => by kernel_rfl⟩
def ty11 : TI := ⟨.str, 1, 16, [.v (.string ⟨#[]⟩)]⟩
theorem tyOk11 : TyOk Go.Proofs.Try.prog 11 ty11 := ⟨by kernel_rfl, by kernel_rfl, by kernel_rfl, by kernel_rfl, by kernel_rfl, fun _ => by kernel_rfl⟩
def ty12 : TI := ⟨.int .u64, 1, 8, [.v (.int .u64 0)]⟩
theorem tyOk12 : TyOk Go.Proofs.Try.prog 12 ty12 := ⟨by kernel_rfl, by kernel_rfl, by kernel_rfl, by kernel_rfl, by kernel_rfl, fun _ => by kernel_rfl⟩
def ty13 : TI := ⟨.st [(0, some 1), (1, some 1)] [9, 12], 2, 24, [.v (.string ⟨#[]⟩), .v (.int .u64 0)]⟩
theorem tyOk13 : TyOk Go.Proofs.Try.prog 13 ty13 := ⟨by kernel_rfl, by kernel_rfl, by kernel_rfl, by kernel_rfl, by kernel_rfl, fun h => nomatch (show true = false from h)⟩
def ty14 : TI := ⟨.st [(0, some 1), (1, some 1)] [9, 12], 2, 24, [.v (.string ⟨#[]⟩), .v (.int .u64 0)]⟩
theorem tyOk14 : TyOk Go.Proofs.Try.prog 14 ty14 := ⟨by kernel_rfl, by kernel_rfl, by kernel_rfl, by kernel_rfl, by kernel_rfl, fun h => nomatch (show true = false from h)⟩
def ty21 : TI := ⟨.int .i32, 1, 4, [.v (.int .i32 0)]⟩
theorem tyOk21 : TyOk Go.Proofs.Try.prog 21 ty21 := ⟨by kernel_rfl, by kernel_rfl, by kernel_rfl, by kernel_rfl, by kernel_rfl, fun _ => by kernel_rfl⟩
def ty22 : TI := ⟨.sl 56, 1, 24, [.nilS 56 9]⟩
theorem tyOk22 : TyOk Go.Proofs.Try.prog 22 ty22 := ⟨by kernel_rfl, by kernel_rfl, by kernel_rfl, by kernel_rfl, by kernel_rfl, fun _ => by kernel_rfl⟩
def ty23 : TI := ⟨.st [(0, some 1), (1, some 1), (2, some 1)] [2, 2, 22], 3, 40, [.v (.int .i64 0), .v (.int .i64 0), .nilS 56 9]⟩
theorem tyOk23 : TyOk Go.Proofs.Try.prog 23 ty23 := ⟨by kernel_rfl, by kernel_rfl, by kernel_rfl, by kernel_rfl, by kernel_rfl, fun h => nomatch (show true = false from h)⟩
def ty24 : TI := ⟨.st [(0, some 1), (1, some 1), (2, some 1)] [2, 2, 22], 3, 40, [.v (.int .i64 0), .v (.int .i64 0), .nilS 56 9]⟩
theorem tyOk24 : TyOk Go.Proofs.Try.prog 24 ty24 := ⟨by kernel_rfl, by kernel_rfl, by kernel_rfl, by kernel_rfl, by kernel_rfl, fun h => nomatch (show true = false from h)⟩
def ty25 : TI := ⟨.sl 2, 1, 24, [.nilS 2 1]⟩
theorem tyOk25 : TyOk Go.Proofs.Try.prog 25 ty25 := ⟨by kernel_rfl, by kernel_rfl, by kernel_rfl, by kernel_rfl, by kernel_rfl, fun _ => by kernel_rfl⟩
def ty29 : TI := ⟨.sl 57, 1, 24, [.nilS 57 9]⟩
theorem tyOk29 : TyOk Go.Proofs.Try.prog 29 ty29 := ⟨by kernel_rfl, by kernel_rfl, by kernel_rfl, by kernel_rfl, by kernel_rfl, fun _ => by kernel_rfl⟩
def ty30 : TI := ⟨.st [(0, some 1), (1, some 1), (2, some 1)] [2, 2, 29], 3, 40, [.v (.int .i64 0), .v (.int .i64 0), .nilS 57 9]⟩
theorem tyOk30 : TyOk Go.Proofs.Try.prog 30 ty30 := ⟨by kernel_rfl, by kernel_rfl, by kernel_rfl, by kernel_rfl, by kernel_rfl, fun h => nomatch (show true = false from h)⟩
def ty31 : TI := ⟨.st [(0, some 1), (1, some 1), (2, some 1)] [2, 2, 29], 3, 40, [.v (.int .i64 0), .v (.int .i64 0), .nilS 57 9]⟩
theorem tyOk31 : TyOk Go.Proofs.Try.prog 31 ty31 := ⟨by kernel_rfl, by kernel_rfl, by kernel_rfl, by kernel_rfl, by kernel_rfl, fun h => nomatch (show true = false from h)⟩
def ty46 : TI := ⟨.sl 25, 1, 24, [.nilS 25 1]⟩
theorem tyOk46 : TyOk Go.Proofs.Try.prog 46 ty46 := ⟨by kernel_rfl, by kernel_rfl, by kernel_rfl, by kernel_rfl, by kernel_rfl, fun _ => by kernel_rfl⟩
def ty55 : TI := ⟨.ar 3 5, 3, 3, [.v (.int .u8 0), .v (.int .u8 0), .v (.int .u8 0)]⟩
theorem tyOk55 : TyOk Go.Proofs.Try.prog 55 ty55 := ⟨by kernel_rfl, by kernel_rfl, by kernel_rfl, by kernel_rfl, by kernel_rfl, fun h => nomatch (show true = false from h)⟩
def ty56 : TI := ⟨.ar 3 55, 9, 9, [.v (.int .u8 0), .v (.int .u8 0), .v (.int .u8 0), .v (.int .u8 0), .v (.int .u8 0), .v (.int .u8 0), .v (.int .u8 0), .v (.int .u8 0), .v (.int .u8 0)]⟩
theorem tyOk56 : TyOk Go.Proofs.Try.prog 56 ty56 := ⟨by kernel_rfl, by kernel_rfl, by kernel_rfl, by kernel_rfl, by kernel_rfl, fun h => nomatch (show true = false from h)⟩
def ty57 : TI := ⟨.ar 3 55, 9, 9, [.v (.int .u8 0), .v (.int .u8 0), .v (.int .u8 0), .v (.int .u8 0), .v (.int .u8 0), .v (.int .u8 0), .v (.int .u8 0), .v (.int .u8 0), .v (.int .u8 0)]⟩
theorem tyOk57 : TyOk Go.Proofs.Try.prog 57 ty57 := ⟨by kernel_rfl, by kernel_rfl, by kernel_rfl, by kernel_rfl, by kernel_rfl, fun h => nomatch (show true = false from h)⟩
def ty79 : TI := ⟨.int .u64, 1, 8, [.v (.int .u64 0)]⟩
theorem tyOk79 : TyOk Go.Proofs.Try.prog 79 ty79 := ⟨by kernel_rfl, by kernel_rfl, by kernel_rfl, by kernel_rfl, by kernel_rfl, fun _ => by kernel_rfl⟩
def ty83 : TI := ⟨.sl 5, 1, 24, [.nilS 5 1]⟩
theorem tyOk83 : TyOk Go.Proofs.Try.prog 83 ty83 := ⟨by kernel_rfl, by kernel_rfl, by kernel_rfl, by kernel_rfl, by kernel_rfl, fun _ => by kernel_rfl⟩
def ty88 : TI := ⟨.int .i64, 1, 8, [.v (.int .i64 0)]⟩
theorem tyOk88 : TyOk Go.Proofs.Try.prog 88 ty88 := ⟨by kernel_rfl, by kernel_rfl, by kernel_rfl, by kernel_rfl, by kernel_rfl, fun _ => by kernel_rfl⟩
def ty96 : TI := ⟨.int .u32, 1, 4, [.v (.int .u32 0)]⟩
theorem tyOk96 : TyOk Go.Proofs.Try.prog 96 ty96 := ⟨by kernel_rfl, by kernel_rfl, by kernel_rfl, by kernel_rfl, by kernel_rfl, fun _ => by kernel_rfl⟩
def ty98 : TI := ⟨.int .u64, 1, 8, [.v (.int .u64 0)]⟩
theorem tyOk98 : TyOk Go.Proofs.Try.prog 98 ty98 := ⟨by kernel_rfl, by kernel_rfl, by kernel_rfl, by kernel_rfl, by kernel_rfl, fun _ => by kernel_rfl⟩
def ty103 : TI := ⟨.int .u64, 1, 8, [.v (.int .u64 0)]⟩
theorem tyOk103 : TyOk Go.Proofs.Try.prog 103 ty103 := ⟨by kernel_rfl, by kernel_rfl, by kernel_rfl, by kernel_rfl, by kernel_rfl, fun _ => by kernel_rfl⟩
def ty109 : TI := ⟨.other, 1, 8, [.v .nilFunc]⟩
theorem tyOk109 : TyOk Go.Proofs.Try.prog 109 ty109 := ⟨by kernel_rfl, by kernel_rfl, by kernel_rfl, by kernel_rfl, by kernel_rfl, fun _ => by kernel_rfl⟩
def ty120 : TI := ⟨.int .u8, 1, 1, [.v (.int .u8 0)]⟩
theorem tyOk120 : TyOk Go.Proofs.Try.prog 120 ty120 := ⟨by kernel_rfl, by kernel_rfl, by kernel_rfl, by kernel_rfl, by kernel_rfl, fun _ => by kernel_rfl⟩
def ty121 : TI := ⟨.int .u8, 1, 1, [.v (.int .u8 0)]⟩
theorem tyOk121 : TyOk Go.Proofs.Try.prog 121 ty121 := ⟨by kernel_rfl, by kernel_rfl, by kernel_rfl, by kernel_rfl, by kernel_rfl, fun _ => by kernel_rfl⟩
def ty124 : TI := ⟨.int .i32, 1, 4, [.v (.int .i32 0)]⟩
theorem tyOk124 : TyOk Go.Proofs.Try.prog 124 ty124 := ⟨by kernel_rfl, by kernel_rfl, by kernel_rfl, by kernel_rfl, by kernel_rfl, fun _ => by kernel_rfl⟩
def ty125 : TI := ⟨.int .i32, 1, 4, [.v (.int .i32 0)]⟩
theorem tyOk125 : TyOk Go.Proofs.Try.prog 125 ty125 := ⟨by kernel_rfl, by kernel_rfl, by kernel_rfl, by kernel_rfl, by kernel_rfl, fun _ => by kernel_rfl⟩

def tab : Tab := [(2, ty2), (3, ty3), (4, ty4), (5, ty5), (6, ty6), (7, ty7), (8, ty8), (9, ty9), (10, ty10), (11, ty11), (12, ty12), (13, ty13), (14, ty14), (21, ty21), (22, ty22), (23, ty23), (24, ty24), (25, ty25), (29, ty29), (30, ty30), (31, ty31), (46, ty46), (55, ty55), (56, ty56), (57, ty57), (79, ty79), (83, ty83), (88, ty88), (96, ty96), (98, ty98), (103, ty103), (109, ty109), (120, ty120), (121, ty121), (124, ty124), (125, ty125)]
@[simp] theorem lkT2 : lk tab 2 = some ty2 := rfl
@[simp] theorem lkT3 : lk tab 3 = some ty3 := rfl
@[simp] theorem lkT4 : lk tab 4 = some ty4 := rfl
@[simp] theorem lkT5 : lk tab 5 = some ty5 := rfl
@[simp] theorem lkT6 : lk tab 6 = some ty6 := rfl
@[simp] theorem lkT7 : lk tab 7 = some ty7 := rfl
@[simp] theorem lkT8 : lk tab 8 = some ty8 := rfl
@[simp] theorem lkT9 : lk tab 9 = some ty9 := rfl
@[simp] theorem lkT10 : lk tab 10 = some ty10 := rfl
@[simp] theorem lkT11 : lk tab 11 = some ty11 := rfl
@[simp] theorem lkT12 : lk tab 12 = some ty12 := rfl
@[simp] theorem lkT13 : lk tab 13 = some ty13 := rfl
@[simp] theorem lkT14 : lk tab 14 = some ty14 := rfl
@[simp] theorem lkT21 : lk tab 21 = some ty21 := rfl
@[simp] theorem lkT22 : lk tab 22 = some ty22 := rfl
@[simp] theorem lkT23 : lk tab 23 = some ty23 := rfl
@[simp] theorem lkT24 : lk tab 24 = some ty24 := rfl
@[simp] theorem lkT25 : lk tab 25 = some ty25 := rfl
@[simp] theorem lkT29 : lk tab 29 = some ty29 := rfl
@[simp] theorem lkT30 : lk tab 30 = some ty30 := rfl
@[simp] theorem lkT31 : lk tab 31 = some ty31 := rfl
@[simp] theorem lkT46 : lk tab 46 = some ty46 := rfl
@[simp] theorem lkT55 : lk tab 55 = some ty55 := rfl
@[simp] theorem lkT56 : lk tab 56 = some ty56 := rfl
@[simp] theorem lkT57 : lk tab 57 = some ty57 := rfl
@[simp] theorem lkT79 : lk tab 79 = some ty79 := rfl
@[simp] theorem lkT83 : lk tab 83 = some ty83 := rfl
@[simp] theorem lkT88 : lk tab 88 = some ty88 := rfl
@[simp] theorem lkT96 : lk tab 96 = some ty96 := rfl
@[simp] theorem lkT98 : lk tab 98 = some ty98 := rfl
@[simp] theorem lkT103 : lk tab 103 = some ty103 := rfl
@[simp] theorem lkT109 : lk tab 109 = some ty109 := rfl
@[simp] theorem lkT120 : lk tab 120 = some ty120 := rfl
@[simp] theorem lkT121 : lk tab 121 = some ty121 := rfl
@[simp] theorem lkT124 : lk tab 124 = some ty124 := rfl
@[simp] theorem lkT125 : lk tab 125 = some ty125 := rfl
attribute [simp] ty2 ty3 ty4 ty5 ty6 ty7 ty8 ty9 ty10 ty11 ty12 ty13 ty14 ty21 ty22 ty23 ty24 ty25 ty29 ty30 ty31 ty46 ty55 ty56 ty57 ty79 ty83 ty88 ty96 ty98 ty103 ty109 ty120 ty121 ty124 ty125
theorem eqi5 : EqI Go.Proofs.Try.prog 1 5 1 false := eqI_int (tyOk5.int rfl)
theorem eqi55 : EqI Go.Proofs.Try.prog 2 55 3 true := eqI_arr (tyOk55.ar rfl) tyOk5 eqi5 (fun _ => rfl)
theorem eqi56 : EqI Go.Proofs.Try.prog 3 56 9 true := eqI_arr (tyOk56.ar rfl) tyOk55 eqi55 (fun h => nomatch (show true = false from h))
theorem eqi57 : EqI Go.Proofs.Try.prog 3 57 9 true := eqI_arr (tyOk57.ar rfl) tyOk55 eqi55 (fun h => nomatch (show true = false from h))
theorem eqOk55 : EqOk Go.Proofs.Try.prog 55 3 := eqOk_of eqi55 (by kernel_rfl) (by decide)
theorem eqOk56 : EqOk Go.Proofs.Try.prog 56 9 := eqOk_of eqi56 (by kernel_rfl) (by decide)
theorem eqOk57 : EqOk Go.Proofs.Try.prog 57 9 := eqOk_of eqi57 (by kernel_rfl) (by decide)
def etab : List (Nat × Nat) := [(55, 3), (56, 9), (57, 9)]
@[simp] theorem lkE55 : lk etab 55 = some 3 := rfl
@[simp] theorem lkE56 : lk etab 56 = some 9 := rfl
@[simp] theorem lkE57 : lk etab 57 = some 9 := rfl
theorem etab_ok : ∀ t n, lk etab t = some n → EqOk Go.Proofs.Try.prog t n := eqTab_cons eqOk55 <|
  eqTab_cons eqOk56 <|
  eqTab_cons eqOk57 <| fun _ _ h => by simp [lk] at h
theorem tab_ok : TabOk Go.Proofs.Try.prog tab :=
  tabOk_cons tyOk2 <|
  tabOk_cons tyOk3 <|
  tabOk_cons tyOk4 <|
  tabOk_cons tyOk5 <|
  tabOk_cons tyOk6 <|
  tabOk_cons tyOk7 <|
  tabOk_cons tyOk8 <|
  tabOk_cons tyOk9 <|
  tabOk_cons tyOk10 <|
  tabOk_cons tyOk11 <|
  tabOk_cons tyOk12 <|
  tabOk_cons tyOk13 <|
  tabOk_cons tyOk14 <|
  tabOk_cons tyOk21 <|
  tabOk_cons tyOk22 <|
  tabOk_cons tyOk23 <|
  tabOk_cons tyOk24 <|
  tabOk_cons tyOk25 <|
  tabOk_cons tyOk29 <|
  tabOk_cons tyOk30 <|
  tabOk_cons tyOk31 <|
  tabOk_cons tyOk46 <|
  tabOk_cons tyOk55 <|
  tabOk_cons tyOk56 <|
  tabOk_cons tyOk57 <|
  tabOk_cons tyOk79 <|
  tabOk_cons tyOk83 <|
  tabOk_cons tyOk88 <|
  tabOk_cons tyOk96 <|
  tabOk_cons tyOk98 <|
  tabOk_cons tyOk103 <|
  tabOk_cons tyOk109 <|
  tabOk_cons tyOk120 <|
  tabOk_cons tyOk121 <|
  tabOk_cons tyOk124 <|
  tabOk_cons tyOk125 <| tabOk_nil

end Go.Sm

namespace Go.Sm
open Go.RowKit

@[simp ↓] theorem br_tt (A B : Prop) : br true true A B = A := by simp [br, Later]
@[simp ↓] theorem br_tf (A B : Prop) : br true false A B = B := by simp [br, Later]
@[simp ↓] theorem br_ft (A B : Prop) : br false true A B = B := by simp [br, Later]
@[simp ↓] theorem br_ff (A B : Prop) : br false false A B = A := by simp [br, Later]
@[simp] theorem br_tt' (A B : Prop) : br true true A B = A := br_tt A B
@[simp] theorem br_tf' (A B : Prop) : br true false A B = B := br_tf A B
@[simp] theorem br_ft' (A B : Prop) : br false true A B = B := br_ft A B
@[simp] theorem br_ff' (A B : Prop) : br false false A B = A := br_ff A B
@[simp low] theorem br_open (b w : Bool) (A B : Prop) : br b w A B = (Later (b = w → A) ∧ Later (b = (!w) → B)) := rfl

theorem blt_eq (a b : Nat) : (Nat.blt a b = true) = (a < b) := by
  simp [Nat.blt_eq]

attribute [simp] mapF ownMap mapTy evLk evMU evME evES evEn evMM' evRg keyKind keyF intsC scF keyFV
attribute [simp] base dr tmB opdB obB nsOk vc unw ev evAssign isNil optF St.opd constFV lk evLoad evFA evFd evIA evInt eqCs eqVs evBin freshOs zCs zOs fillC places evBuild dataC elemsOf evBS Z.toD evMake evStore
  cellsR argC argCs' argF impCs impOs impPs impF partsC evUn evConv evLen evMM okNo okNoC evApp winAt srcAt evCopy bnd evSlice argsV argsR ldV expOs rnC rnCs rnF rnTm rnOb autoRn fitFix St.put resC expC expCs expF expRs toRV RetVC rvF argTm
  RV.plain ren renC C.keyIn renF renFs FV.keysIn keysInFs renO Ob.keysIn fitTm fitOb Fit FV.cells TK.agg D.arg argCs argEs D.loc locCs locEs D.fresh freshCs freshEs D.isOwn noOwn Ob.live blt_eq Z.val

end Go.Sm

namespace Go.Sm
open Go.RowKit

/-! ### data that a change elsewhere leaves as it is -/

mutual
/-- Data of arguments alone. -/
def stA : D → Bool
  | .v _ => true
  | .vw a _ xs => a && stAEs xs
  | .own _ _ _ => false
  | .mp _ => true
def stACs : List D → Bool
  | [] => true
  | x :: xs => stA x && stACs xs
def stAEs : List (List D) → Bool
  | [] => true
  | e :: es => stACs e && stAEs es
end
mutual
/-- Data of arguments and of one's own. -/
def stO : D → Bool
  | .v _ => true
  | .vw a _ xs => a && stAEs xs
  | .own _ _ xs => stOEs xs
  | .mp _ => true
def stOCs : List D → Bool
  | [] => true
  | x :: xs => stO x && stOCs xs
def stOEs : List (List D) → Bool
  | [] => true
  | e :: es => stOCs e && stOEs es
end
/-- From w to w' the blocks in X alone have changed, and there may be new ones. -/
structure Chg (X : Nat → Prop) (w w' : World) : Prop where
  size : w.heap.size ≤ w'.heap.size
  block : ∀ b, b < w.heap.size → ¬ X b → w'.heap[b]? = w.heap[b]?
  cells : ∀ b, X b → ∃ cur e, w.heap[b]? = some (.cells cur e (0, 0))

theorem Chg.cell {X : Nat → Prop} {w w' : World} (h : Chg X w w') {b off : Nat} (hb : b < w.heap.size) (hx : ¬ X b) : w'.cell? ⟨b, off, none⟩ = w.cell? ⟨b, off, none⟩ := World.cell?_of_block (w := w) (h.block b hb hx)

variable {X : Nat → Prop} {w w' : World} {B M M' : Nat → Prop}

mutual
theorem Rd.stA (h : Chg X w w') (hB : ∀ b, B b → ¬ X b) (hM : ∀ b, M' b → M b ∨ X b ∨ w.heap.size ≤ b) : ∀ (d : D) (c : Value), stA d = true → Rd w B M d c → Rd w' B M' d c
  | .v _, _, _, hr => by simpa only [Rd] using hr
  | .vw a k xs, c, hs, hr => by
    simp only [Sm.stA, Bool.and_eq_true] at hs
    simp only [Rd] at hr ⊢
    rcases hr with hr | ⟨b, off, cap, hc, hl, hm, hb, ha, he⟩
    · exact .inl hr
    · exact .inr ⟨b, off, cap, hc, hl, fun hm' => (hM b hm').elim hm (fun q => q.elim (hB b (ha hs.1)) (fun q => by omega)), Nat.lt_of_lt_of_le hb h.size, ha, RdEs.stA h hB hM (fun _ => h.cell hb (hB b (ha hs.1))) xs off hs.2 he⟩
  | .own e k xs, c, hs, _ => by simp [Sm.stA] at hs
  | .mp xs, c, _, hr => by
    simp only [Rd] at hr ⊢
    obtain ⟨r, es, clock, hc, hm, hh, ho⟩ := hr
    have hx : ¬ X r := fun hx => by obtain ⟨cur, e, h1⟩ := h.cells r hx; rw [hh] at h1; cases h1
    have hlt := lt_of_heap hh
    exact ⟨r, es, clock, hc, fun hm' => (hM r hm').elim hm (fun q => q.elim hx (fun q => by omega)), by rw [h.block r hlt hx]; exact hh, ho⟩
theorem RdCs.stA (h : Chg X w w') (hB : ∀ b, B b → ¬ X b) (hM : ∀ b, M' b → M b ∨ X b ∨ w.heap.size ≤ b) {b : Nat} (hq : ∀ off, w'.cell? ⟨b, off, none⟩ = w.cell? ⟨b, off, none⟩) :
    ∀ (xs : List D) (off : Nat), stACs xs = true → RdCs w B M xs b off → RdCs w' B M' xs b off
  | [], _, _, _ => by simp only [RdCs]
  | x :: xs, off, hs, hr => by
    simp only [stACs, Bool.and_eq_true] at hs
    simp only [RdCs] at hr ⊢
    obtain ⟨⟨c, hc, hr1⟩, h2⟩ := hr
    exact ⟨⟨c, by rw [hq]; exact hc, Rd.stA h hB hM x c hs.1 hr1⟩, RdCs.stA h hB hM hq xs (off + 1) hs.2 h2⟩
theorem RdEs.stA (h : Chg X w w') (hB : ∀ b, B b → ¬ X b) (hM : ∀ b, M' b → M b ∨ X b ∨ w.heap.size ≤ b) {b k : Nat} (hq : ∀ off, w'.cell? ⟨b, off, none⟩ = w.cell? ⟨b, off, none⟩) :
    ∀ (xs : List (List D)) (off : Nat), stAEs xs = true → RdEs w B M k xs b off → RdEs w' B M' k xs b off
  | [], _, _, _ => by simp only [RdEs]
  | e :: es, off, hs, hr => by
    simp only [stAEs, Bool.and_eq_true] at hs
    simp only [RdEs] at hr ⊢
    exact ⟨hr.1, RdCs.stA h hB hM hq e off hs.1 hr.2.1, RdEs.stA h hB hM hq es (off + k) hs.2 hr.2.2⟩
end
mutual
theorem Rd.stO (h : Chg X w w') (hB : ∀ b, B b → ¬ X b) (hM : ∀ b, M' b → M b ∨ X b ∨ w.heap.size ≤ b) : ∀ (d : D) (c : Value), stO d = true → (∀ b ∈ fp w d c, ¬ X b) → Rd w B M d c → Rd w' B M' d c ∧ fp w' d c = fp w d c
  | .v _, _, _, _, hr => by simpa only [Rd, fp, and_true] using hr
  | .vw a k xs, c, hs, _, hr => ⟨Rd.stA h hB hM (.vw a k xs) c (by simpa only [Sm.stA, Sm.stO] using hs) hr, by simp [fp]⟩
  | .own e k xs, c, hs, hx, hr => by
    simp only [Sm.stO] at hs
    simp only [Rd] at hr ⊢
    rcases hr with ⟨rfl, rfl⟩ | ⟨b, cap, cur, rfl, hl, hm, hh, h1, h2, he⟩
    · exact ⟨.inl ⟨rfl, rfl⟩, by simp [fp]⟩
    · have hb := lt_of_heap hh
      rw [fp_own_some] at hx
      have hxb : ¬ X b := hx b (List.mem_cons_self ..)
      obtain ⟨r1, r2⟩ := RdEs.stO h hB hM (fun _ => h.cell hb hxb) xs 0 hs (fun y hy => hx y (List.mem_cons_of_mem _ hy)) he
      exact ⟨.inr ⟨b, cap, cur, rfl, hl, fun hm' => (hM b hm').elim hm (fun q => q.elim hxb (fun q => by omega)), by rw [h.block b hb hxb]; exact hh, h1, h2, r1⟩, by rw [fp_own_some, fp_own_some, r2]⟩
  | .mp xs, c, hs, _, hr => ⟨Rd.stA h hB hM (.mp xs) c (by simp only [Sm.stA]) hr, by simp [fp]⟩
theorem RdCs.stO (h : Chg X w w') (hB : ∀ b, B b → ¬ X b) (hM : ∀ b, M' b → M b ∨ X b ∨ w.heap.size ≤ b) {b : Nat} (hq : ∀ off, w'.cell? ⟨b, off, none⟩ = w.cell? ⟨b, off, none⟩) :
    ∀ (xs : List D) (off : Nat), stOCs xs = true → (∀ y ∈ fpCs w xs b off, ¬ X y) → RdCs w B M xs b off → RdCs w' B M' xs b off ∧ fpCs w' xs b off = fpCs w xs b off
  | [], _, _, _, _ => by simp only [RdCs, fpCs, and_self]
  | x :: xs, off, hs, hx, hr => by
    simp only [stOCs, Bool.and_eq_true] at hs
    simp only [RdCs] at hr ⊢
    obtain ⟨⟨c, hc, hr1⟩, h2⟩ := hr
    simp only [fpCs, hc, Option.getD_some, List.mem_append] at hx
    obtain ⟨a1, a2⟩ := Rd.stO h hB hM x c hs.1 (fun y hy => hx y (.inl hy)) hr1
    obtain ⟨b1, b2⟩ := RdCs.stO h hB hM hq xs (off + 1) hs.2 (fun y hy => hx y (.inr hy)) h2
    exact ⟨⟨⟨c, by rw [hq]; exact hc, a1⟩, b1⟩, by simp only [fpCs, hq, hc, Option.getD_some, a2, b2]⟩
theorem RdEs.stO (h : Chg X w w') (hB : ∀ b, B b → ¬ X b) (hM : ∀ b, M' b → M b ∨ X b ∨ w.heap.size ≤ b) {b k : Nat} (hq : ∀ off, w'.cell? ⟨b, off, none⟩ = w.cell? ⟨b, off, none⟩) :
    ∀ (xs : List (List D)) (off : Nat), stOEs xs = true → (∀ y ∈ fpEs w k xs b off, ¬ X y) → RdEs w B M k xs b off → RdEs w' B M' k xs b off ∧ fpEs w' k xs b off = fpEs w k xs b off
  | [], _, _, _, _ => by simp only [RdEs, fpEs, and_self]
  | e :: es, off, hs, hx, hr => by
    simp only [stOEs, Bool.and_eq_true] at hs
    simp only [RdEs] at hr ⊢
    simp only [fpEs, List.mem_append] at hx
    obtain ⟨a1, a2⟩ := RdCs.stO h hB hM hq e off hs.1 (fun y hy => hx y (.inl hy)) hr.2.1
    obtain ⟨b1, b2⟩ := RdEs.stO h hB hM hq es (off + k) hs.2 (fun y hy => hx y (.inr hy)) hr.2.2
    exact ⟨⟨hr.1, a1, b1⟩, by simp only [fpEs, a2, b2]⟩
end
/-! ### the contract -/

/-- A cell of an argument: one's own is handed over. -/
def ArgX (w : World) (X : Nat → Prop) : D → Value → Prop
  | .own e z xs, c => Rd w (fun _ => False) (fun _ => False) (.own e z xs) c ∧ freshEs xs = true ∧ ∀ b ∈ fp w (.own e z xs) c, X b
  | d, c => Rd w (fun b => Old w b ∧ ¬ X b) X d c

def AVsX (w : World) (X : Nat → Prop) : List RV → List Value → List Value → Prop
  | [], vs, us => vs = [] ∧ us = []
  | r :: rs, vs, us => ∃ v q x c, vs = v :: q ∧ us = x ++ c ∧ RShape r v x ∧ DsV (ArgX w X) (cellsR r) x ∧ AVsX w X rs q c

def fixOf (ds : List D) (us : List Value) (i : Nat) : Option Value :=
  match ds[i]? with
  | some (.own _ _ _) => us[i]?
  | _ => none

/-- THE CONTRACT of a function that may change the arguments that are handed over. -/
def CallX (P : Program) (f : FuncId) (args : List RV) (r : Res) : Prop :=
  Entered P f ∧ ∀ (w : World) (X : Nat → Prop) (vs us : List Value), AVsX w X args vs us → (fpDs w (args.flatMap cellsR) us).Nodup →
    Calls P f vs.toArray w fun e w' => ∃ v, e = .returned v ∧ OwnR w' ⟨w, X, fixOf (args.flatMap cellsR) us⟩ r v ∧ Low ⟨w, X, fixOf (args.flatMap cellsR) us⟩ w w'

/-! ### the callee's side -/

def argTmX : Nat → Nat → List RV → List (Nat × FV)
  | _, _, [] => []
  | i, k, r :: rs => (i, impF k r) :: argTmX (i + 1) (k + (cellsR r).length) rs

theorem AVsX.length {w : World} {X : Nat → Prop} : ∀ {rs : List RV} {vs us : List Value}, AVsX w X rs vs us → vs.length = rs.length
  | [], vs, us, h => by obtain ⟨rfl, _⟩ := h; rfl
  | r :: rs, vs, us, h => by obtain ⟨v, q, x, c, rfl, _, _, _, h2⟩ := h; simp [h2.length]

theorem CsRel.left {en : En} : ∀ {cs ds : List C} {vs us : List Value}, cs.length = vs.length → CsRel en (cs ++ ds) (vs ++ us) → CsRel en cs vs ∧ CsRel en ds us
  | [], _, [], _, _, h => ⟨trivial, h⟩
  | [], _, _ :: _, _, h, _ => by simp at h
  | _ :: _, _, [], _, h, _ => by simp at h
  | c :: cs, ds, v :: vs, us, hl, h => by
    obtain ⟨h1, h2⟩ := CsRel.left (by simpa using hl) h.2
    exact ⟨⟨h.1, h1⟩, h2⟩

end Go.Sm

namespace Go.Sm
open Go.RowKit

variable {P : Program} {N : Nat} {w0 : Base} {s : St} {a : Act} {w w' : World} {β : Nat → Value} {X : Nat → Prop} {B M M' : Nat → Prop}

/-! ### arguments -/

mutual
theorem Rd.argA (hB : ∀ b, B b → ¬ X b) (hc : ∀ b, X b → ∃ cur e, w.heap[b]? = some (.cells cur e (0, 0))) : ∀ (d : D) (c : Value), stA d = true → Rd w B M d c → Rd w (fun b => Old w b ∧ ¬ X b) X d c
  | .v _, _, _, h => by simpa only [Rd] using h
  | .vw a k xs, c, hs, h => by
    simp only [Sm.stA, Bool.and_eq_true] at hs
    simp only [Rd] at h ⊢
    rcases h with h | ⟨b, off, cap, h1, hl, hm, hb, ha, he⟩
    · exact .inl h
    · exact .inr ⟨b, off, cap, h1, hl, hB b (ha hs.1), hb, fun _ => ⟨hb, hB b (ha hs.1)⟩, RdEs.argA hB hc xs off hs.2 he⟩
  | .own e k xs, c, hs, _ => by simp [Sm.stA] at hs
  | .mp xs, c, _, h => by
    simp only [Rd] at h ⊢
    obtain ⟨r, es, clock, h1, hm, hh, ho⟩ := h
    have hx : ¬ X r := by
      intro hx
      obtain ⟨cur, e, h2⟩ := hc r hx
      rw [hh] at h2; cases h2
    exact ⟨r, es, clock, h1, hx, hh, ho⟩
theorem RdCs.argA (hB : ∀ b, B b → ¬ X b) (hc : ∀ b, X b → ∃ cur e, w.heap[b]? = some (.cells cur e (0, 0))) {b : Nat} : ∀ (xs : List D) (off : Nat), stACs xs = true → RdCs w B M xs b off → RdCs w (fun b => Old w b ∧ ¬ X b) X xs b off
  | [], _, _, _ => by simp only [RdCs]
  | x :: xs, off, hs, h => by
    simp only [stACs, Bool.and_eq_true] at hs
    simp only [RdCs] at h ⊢
    obtain ⟨⟨c, h1, hr⟩, h2⟩ := h
    exact ⟨⟨c, h1, Rd.argA hB hc x c hs.1 hr⟩, RdCs.argA hB hc xs (off + 1) hs.2 h2⟩
theorem RdEs.argA (hB : ∀ b, B b → ¬ X b) (hc : ∀ b, X b → ∃ cur e, w.heap[b]? = some (.cells cur e (0, 0))) {b k : Nat} : ∀ (xs : List (List D)) (off : Nat), stAEs xs = true → RdEs w B M k xs b off → RdEs w (fun b => Old w b ∧ ¬ X b) X k xs b off
  | [], _, _, _ => by simp only [RdEs]
  | e :: es, off, hs, h => by
    simp only [stAEs, Bool.and_eq_true] at hs
    simp only [RdEs] at h ⊢
    exact ⟨h.1, RdCs.argA hB hc e off hs.1 h.2.1, RdEs.argA hB hc es (off + k) hs.2 h.2.2⟩
end
def argXC (ks : List Nat) (ob : Nat → Option Ob) : C → Option D
  | .d x => match stA x with
    | true => some x
    | false => none
  | .ob k => match ob k, ks.elem k with
    | some (.arr e z xs), true => match freshEs xs with
      | true => some (.own e z xs)
      | false => none
    | _, _ => none
  | _ => none
def argXCs (ks : List Nat) (ob : Nat → Option Ob) : List C → Option (List D)
  | [] => some []
  | c :: cs => match argXC ks ob c, argXCs ks ob cs with
    | some d, some ds => some (d :: ds)
    | _, _ => none
def argXF (ks : List Nat) (ob : Nat → Option Ob) : FV → Option RV
  | .c x => match argXC ks ob x with
    | some d => some (.one d)
    | none => none
  | .g xs => match argXCs ks ob xs with
    | some ds => some (.agg ds)
    | none => none
  | _ => none
def argsX (ks : List Nat) (ob : Nat → Option Ob) : List FV → Option (List RV)
  | [] => some []
  | f :: r => match argXF ks ob f, argsX ks ob r with
    | some d, some ds => some (d :: ds)
    | _, _ => none
def cellsF : List FV → List C
  | [] => []
  | .c x :: r => x :: cellsF r
  | .g xs :: r => xs ++ cellsF r
  | _ :: r => cellsF r
/-- The keys that are handed over, in order. -/
def ownKeys : List C → List Nat
  | [] => []
  | .ob k :: r => k :: ownKeys r
  | _ :: r => ownKeys r

/-- The blocks of the objects that are handed over. -/
def XOf (en : En) (ks : List Nat) (b : Nat) : Prop := ∃ k ∈ ks, b ∈ obFp en k

theorem XOf.cells (R : Rel N w0 s a w β) {ks : List Nat} (hk : ∀ k ∈ ks, ∃ e z xs, lk s.ob k = some (.arr e z xs)) : ∀ b, XOf (s.en w w0.arg β) ks b → ∃ cur e, w.heap[b]? = some (.cells cur e (0, 0)) := by
  rintro b ⟨k, hk', hb⟩
  obtain ⟨e, z, xs, ho⟩ := hk k hk'
  have hr : OwnRel w w0.arg (s.en w w0.arg β).M e z xs (β k) := R.ob k _ ho
  rw [obFp_arr (en := s.en w w0.arg β) ho] at hb
  have hb : b ∈ fp w (.own e z xs) (β k) := hb
  rcases hr with ⟨_, h⟩ | ⟨g, cap, cur, h1, _, h3, _, _, h6⟩
  · rw [h, fp_own_nil] at hb; cases hb
  · rw [h1, fp_own_some] at hb
    rcases List.mem_cons.1 hb with rfl | hb
    · exact ⟨cur, e, h3⟩
    · exact (fpEs.mem xs 0 h6 b hb).2

theorem XOf.mine (R : Rel N w0 s a w β) {ks : List Nat} {b : Nat} (h : XOf (s.en w w0.arg β) ks b) : w0.mine b := by
  obtain ⟨k, _, hb⟩ := h; exact R.ge k b hb

theorem arg_not_mine {b : Nat} (h : w0.arg b) : ¬ w0.mine b := fun hm => hm.elim (fun h' => Nat.lt_irrefl _ (Nat.lt_of_lt_of_le h.1 h')) h.2

def keyC : C → List Nat
  | .ob k => [k]
  | _ => []

theorem argXC_sound (R : Rel N w0 s a w β) {ks : List Nat} (hk : ∀ k ∈ ks, ∃ e z xs, lk s.ob k = some (.arr e z xs)) {c : C} {d : D} {v : Value} (h : argXC ks (lk s.ob) c = some d) (hv : CRel (s.en w w0.arg β) c v) :
    ArgX w (XOf (s.en w w0.arg β) ks) d v ∧ fp w d v = (keyC c).flatMap (obFp (s.en w w0.arg β)) ∧ (∀ e z xs, d = .own e z xs → ∃ k, c = .ob k ∧ v = β k) := by
  have hcl := XOf.cells R hk
  have hA : ∀ {x : D}, stA x = true → Rd w w0.arg (s.en w w0.arg β).M x v → Rd w (fun b => Old w b ∧ ¬ XOf (s.en w w0.arg β) ks b) (XOf (s.en w w0.arg β) ks) x v :=
    fun {x} hs hr => Rd.argA (fun b hb hX => arg_not_mine hb (XOf.mine R hX)) hcl x v hs hr
  unfold argXC at h
  split at h
  · rename_i x
    split at h
    · rename_i hs
      simp only [Option.some.injEq] at h; subst h
      have hr := hA hs hv.2.2
      cases x with
      | own e z xs => simp [stA] at hs
      | v y => exact ⟨hr, by simp [fp, keyC], fun _ _ _ h => by cases h⟩
      | vw b z xs => exact ⟨hr, by simp [fp, keyC], fun _ _ _ h => by cases h⟩
      | mp es => exact ⟨hr, by simp [fp, keyC], fun _ _ _ h => by cases h⟩
    · cases h
  · rename_i k
    split at h
    · rename_i e z xs hob hel
      split at h
      · rename_i hf
        simp only [Option.some.injEq] at h; subst h
        obtain ⟨_, rfl, _⟩ := hv
        have hr : OwnRel w w0.arg (s.en w w0.arg β).M e z xs (β k) := R.ob k _ hob
        have hfp := obFp_arr (en := s.en w w0.arg β) hob
        refine ⟨⟨?_, hf, fun b hb => ⟨k, elem_iff.1 hel, by rw [hfp]; exact hb⟩⟩, ?_, fun _ _ _ _ => ⟨k, rfl, rfl⟩⟩
        · show Rd w _ _ _ (β k)
          simp only [Rd]
          rcases hr with hr | ⟨b, cap, cur, h1, h2, h3, h4, h5, h6⟩
          · exact .inl hr
          · exact .inr ⟨b, cap, cur, h1, h2, not_false, h3, h4, h5, RdEs.free xs 0 hf h6 fun _ _ => not_false⟩
        · simp only [keyC, List.flatMap_cons, List.flatMap_nil, List.append_nil]
          exact hfp.symm
      · cases h
    · cases h
  · cases h

theorem argXCs_sound (R : Rel N w0 s a w β) {ks : List Nat} (hk : ∀ k ∈ ks, ∃ e z xs, lk s.ob k = some (.arr e z xs)) : ∀ {cs : List C} {ds : List D} {vs : List Value}, argXCs ks (lk s.ob) cs = some ds → CsRel (s.en w w0.arg β) cs vs →
    DsV (ArgX w (XOf (s.en w w0.arg β) ks)) ds vs ∧ fpDs w ds vs = (ownKeys cs).flatMap (obFp (s.en w w0.arg β)) ∧
      ∀ (i : Nat) (e z : Nat) (xs : List (List D)) (v : Value), ds[i]? = some (.own e z xs) → vs[i]? = some v → ∃ k, cs[i]? = some (.ob k) ∧ v = β k
  | [], ds, [], h, _ => by simp [argXCs] at h; subst h; exact ⟨rfl, rfl, fun i e z xs v h => by simp at h⟩
  | [], _, _ :: _, _, h => h.elim
  | _ :: _, _, [], _, h => h.elim
  | c :: cs, ds, v :: vs, h, hv => by
    simp only [argXCs] at h
    split at h
    · rename_i d ds' h1 h2
      simp only [Option.some.injEq] at h; subst h
      obtain ⟨a1, a2, a3⟩ := argXC_sound R hk h1 hv.1
      obtain ⟨b1, b2, b3⟩ := argXCs_sound R hk h2 hv.2
      refine ⟨⟨v, vs, rfl, a1, b1⟩, ?_, ?_⟩
      · simp only [fpDs, List.headD_cons, List.tail_cons, b2]
        rw [a2]
        cases c <;> simp [ownKeys, keyC]
      · intro i e z xs u hi hu
        cases i with
        | zero =>
          simp at hi hu; subst hu
          obtain ⟨k, hk1, hk2⟩ := a3 e z xs hi
          exact ⟨k, by simp [hk1], hk2⟩
        | succ i => simpa using b3 i e z xs u (by simpa using hi) (by simpa using hu)
    · cases h

theorem argsX_sound (R : Rel N w0 s a w β) {ks : List Nat} (hk : ∀ k ∈ ks, ∃ e z xs, lk s.ob k = some (.arr e z xs)) : ∀ {fs : List FV} {rs : List RV} {vs : List Value}, argsX ks (lk s.ob) fs = some rs → FVsV (s.en w w0.arg β) fs vs →
    ∃ us, AVsX w (XOf (s.en w w0.arg β) ks) rs vs us ∧ argXCs ks (lk s.ob) (cellsF fs) = some (rs.flatMap cellsR) ∧ CsRel (s.en w w0.arg β) (cellsF fs) us
  | [], rs, vs, h, hv => by simp [argsX] at h; subst h; exact ⟨[], ⟨hv, rfl⟩, rfl, trivial⟩
  | f :: fs, rs, vs, h, hv => by
    simp only [argsX] at h
    obtain ⟨v, q, rfl, h3, h4⟩ := hv
    split at h
    · rename_i r rs' h1 h2
      simp only [Option.some.injEq] at h; subst h
      obtain ⟨us, u1, u2, u3⟩ := argsX_sound R hk h2 h4
      have happ : ∀ {cs cs' : List C} {ds ds' : List D}, argXCs ks (lk s.ob) cs = some ds → argXCs ks (lk s.ob) cs' = some ds' → argXCs ks (lk s.ob) (cs ++ cs') = some (ds ++ ds') := by
        intro cs
        induction cs with
        | nil => intro cs' ds ds' g1 g2; simp [argXCs] at g1; subst g1; simpa using g2
        | cons c cs ih =>
          intro cs' ds ds' g1 g2
          simp only [argXCs] at g1
          split at g1
          · rename_i d ds1 e1 e2
            simp only [Option.some.injEq] at g1; subst g1
            simp only [List.cons_append, argXCs, e1, ih e2 g2]
          · cases g1
      unfold argXF at h1
      split at h1
      · rename_i x
        split at h1
        · rename_i d hd
          simp only [Option.some.injEq] at h1; subst h1
          simp only [FVRel] at h3
          obtain ⟨a1, _, _⟩ := argXC_sound R hk hd h3
          exact ⟨v :: us, ⟨v, q, [v], us, rfl, rfl, rfl, ⟨v, [], rfl, a1, rfl⟩, u1⟩, by simp only [cellsF, argXCs, hd, u2, List.flatMap_cons, cellsR, List.singleton_append], ⟨h3, u3⟩⟩
        · cases h1
      · rename_i xs
        split at h1
        · rename_i ds hd
          simp only [Option.some.injEq] at h1; subst h1
          simp only [FVRel] at h3
          obtain ⟨x, rfl, hx⟩ := h3
          obtain ⟨a1, _, _⟩ := argXCs_sound R hk hd hx
          exact ⟨x ++ us, ⟨_, q, x, us, rfl, rfl, rfl, a1, u1⟩, by simp only [cellsF, List.flatMap_cons, cellsR]; exact happ hd u2, hx.append u3⟩
        · cases h1
      · cases h1
    · cases h

end Go.Sm

namespace Go.Sm
open Go.RowKit

variable {P : Program} {N : Nat} {w0 : Base} {s : St} {a : Act} {w w' : World} {β : Nat → Value}

def stC : C → Bool
  | .d x => stA x
  | .rd _ => false
  | _ => true
mutual
def stF : FV → Bool
  | .c x => stC x
  | .g xs => xs.all stC
  | .t xs => stFs xs
  | .und => true
def stFs : List FV → Bool
  | [] => true
  | x :: xs => stF x && stFs xs
end
def stOb : Ob → Bool
  | .dead => true
  | .var cs => cs.all stC
  | .arr _ _ xs => stOEs xs
  | .mp _ => true
  | .it _ _ _ => true
def stTm : List (Nat × FV) → Bool
  | [] => true
  | (_, f) :: r => stF f && stTm r
def stObs (ks : List Nat) : List (Nat × Ob) → Bool
  | [] => true
  | (k, o) :: r => (ks.elem k || stOb o) && stObs ks r
def keysOk (ob : Nat → Option Ob) : List Nat → Bool
  | [] => true
  | k :: r => (match ob k with | some (.arr _ _ _) => true | _ => false) && keysOk ob r
def keyAt (cs : List C) (i : Nat) : Nat := match cs[i]? with
  | some (.ob k) => k
  | _ => 0
def outObs (cs : List C) : List (Nat × D) → List (Nat × Ob)
  | [] => []
  | (i, .own e z xs) :: r => (keyAt cs i, .arr e z xs) :: outObs cs r
  | _ :: r => outObs cs r
def deads : List Nat → List (Nat × Ob)
  | [] => []
  | k :: r => (k, .dead) :: deads r

theorem stTm_lk : ∀ {l : List (Nat × FV)} {t : Nat} {f : FV}, stTm l = true → lk l t = some f → stF f = true
  | [], _, _, _, h => by simp [lk] at h
  | (x, g) :: l, t, f, hs, h => by
    simp only [stTm, Bool.and_eq_true] at hs
    simp only [lk_cons] at h
    split at h
    · simp only [Option.some.injEq] at h; subst h; exact hs.1
    · exact stTm_lk hs.2 h
theorem stObs_lk {ks : List Nat} : ∀ {l : List (Nat × Ob)} {k : Nat} {o : Ob}, stObs ks l = true → lk l k = some o → k ∉ ks → stOb o = true
  | [], _, _, _, h, _ => by simp [lk] at h
  | (x, g) :: l, t, f, hs, h, hn => by
    simp only [stObs, Bool.and_eq_true, Bool.or_eq_true] at hs
    simp only [lk_cons] at h
    split at h
    · rename_i e; subst e
      simp only [Option.some.injEq] at h; subst h
      exact hs.1.resolve_left fun h => hn (elem_iff.1 h)
    · exact stObs_lk hs.2 h hn
theorem keysOk_get {ob : Nat → Option Ob} : ∀ {ks : List Nat}, keysOk ob ks = true → ∀ k ∈ ks, ∃ e z xs, ob k = some (.arr e z xs)
  | [], _, k, h => by cases h
  | x :: ks, hk, k, h => by
    simp only [keysOk, Bool.and_eq_true] at hk
    rcases List.mem_cons.1 h with rfl | h
    · split at hk
      · rename_i e z xs ho; exact ⟨e, z, xs, ho⟩
      · simp at hk
    · exact keysOk_get hk.2 k h
theorem deads_lk (l : List (Nat × Ob)) (k : Nat) : ∀ (ks : List Nat), lk (deads ks ++ l) k = if k ∈ ks then some .dead else lk l k
  | [] => by simp [deads]
  | x :: ks => by
    simp only [deads, List.cons_append, lk_cons, deads_lk l k ks, List.mem_cons]
    by_cases e : x = k
    · subst e; simp
    · have : ¬ k = x := fun h => e h.symm
      simp [e, this]
theorem outObs_lk (cs : List C) (l : List (Nat × Ob)) (k : Nat) : ∀ (outs : List (Nat × D)), (∃ (j i e z : Nat) (xs : List (List D)), outs[j]? = some (i, .own e z xs) ∧ keyAt cs i = k ∧ lk (outObs cs outs ++ l) k = some (.arr e z xs)) ∨
    ((∀ (j i e z : Nat) (xs : List (List D)), outs[j]? = some (i, .own e z xs) → keyAt cs i ≠ k) ∧ lk (outObs cs outs ++ l) k = lk l k)
  | [] => .inr ⟨fun j i e z xs h => by simp at h, rfl⟩
  | (i0, d0) :: outs => by
    have ih := outObs_lk cs l k outs
    have next : lk (outObs cs ((i0, d0) :: outs) ++ l) k = lk (outObs cs outs ++ l) k → (∀ e z xs, d0 = .own e z xs → keyAt cs i0 ≠ k) →
        (∃ (j i e z : Nat) (xs : List (List D)), ((i0, d0) :: outs)[j]? = some (i, .own e z xs) ∧ keyAt cs i = k ∧ lk (outObs cs ((i0, d0) :: outs) ++ l) k = some (.arr e z xs)) ∨
        ((∀ (j i e z : Nat) (xs : List (List D)), ((i0, d0) :: outs)[j]? = some (i, .own e z xs) → keyAt cs i ≠ k) ∧ lk (outObs cs ((i0, d0) :: outs) ++ l) k = lk l k) := by
      intro he hne
      rcases ih with ⟨j, i, e, z, xs, h1, h2, h3⟩ | ⟨h1, h2⟩
      · exact .inl ⟨j + 1, i, e, z, xs, by simpa using h1, h2, by rw [he]; exact h3⟩
      · refine .inr ⟨fun j i e z xs h => ?_, by rw [he]; exact h2⟩
        cases j with
        | zero => simp at h; obtain ⟨rfl, rfl⟩ := h; exact hne e z xs rfl
        | succ j => exact h1 j i e z xs (by simpa using h)
    cases d0 with
    | own e z xs =>
      by_cases hk : keyAt cs i0 = k
      · exact .inl ⟨0, i0, e, z, xs, rfl, hk, by simp only [outObs, List.cons_append, hk, lk_cons_self]⟩
      · exact next (by simp only [outObs, List.cons_append]; exact lk_cons_ne _ _ hk) fun _ _ _ _ => hk
    | v x => exact next (by simp only [outObs]) fun _ _ _ h => by cases h
    | vw b z xs => exact next (by simp only [outObs]) fun _ _ _ h => by cases h
    | mp es => exact next (by simp only [outObs]) fun _ _ _ h => by cases h

theorem CRel.st {en en' : En} {X : Nat → Prop} (hX : Chg X en.w en'.w) (hB : ∀ b, en.B b → ¬ X b) (hBe : en'.B = en.B) (hM : ∀ b, en'.M b → en.M b ∨ X b ∨ en.w.heap.size ≤ b)
    (hβ : ∀ k, (en.ob k).isSome = true → (en'.ob k).isSome = true ∧ en'.β k = en.β k) {c : C} {v : Value} (hs : stC c = true) (h : CRel en c v) : CRel en' c v := by
  cases c with
  | d x =>
    refine ⟨h.1, h.2.1, ?_⟩
    rw [hBe]; exact Rd.stA hX hB hM x v hs h.2.2
  | ob k => obtain ⟨h1, h2, h3⟩ := h; obtain ⟨a, b⟩ := hβ k h1; exact ⟨a, by rw [b]; exact h2, h3⟩
  | win k sz lo n => obtain ⟨h1, h2⟩ := h; obtain ⟨a, b⟩ := hβ k h1; exact ⟨a, by rw [b]; exact h2⟩
  | ref k off => obtain ⟨h1, h2⟩ := h; obtain ⟨a, b⟩ := hβ k h1; exact ⟨a, by rw [b]; exact h2⟩
  | re k sz i j => obtain ⟨h1, h2⟩ := h; obtain ⟨a, b⟩ := hβ k h1; exact ⟨a, by rw [b]; exact h2⟩
  | rd xs => simp [stC] at hs
theorem CsRel.st {en en' : En} (hc : ∀ c v, stC c = true → CRel en c v → CRel en' c v) : ∀ {cs : List C} {vs : List Value}, cs.all stC = true → CsRel en cs vs → CsRel en' cs vs
  | [], [], _, _ => trivial
  | [], _ :: _, _, h => h.elim
  | _ :: _, [], _, h => h.elim
  | c :: cs, v :: vs, hs, h => by
    simp only [List.all_cons, Bool.and_eq_true] at hs
    exact ⟨hc c v hs.1 h.1, CsRel.st hc hs.2 h.2⟩
mutual
theorem FVRel.st {en en' : En} (hc : ∀ c v, stC c = true → CRel en c v → CRel en' c v) : ∀ (f : FV) (v : Value), stF f = true → FVRel en f v → FVRel en' f v
  | .c x, v, hs, h => by simp only [FVRel] at h ⊢; exact hc x v hs h
  | .g xs, v, hs, h => by simp only [FVRel] at h ⊢; obtain ⟨vs, h1, h2⟩ := h; exact ⟨vs, h1, CsRel.st hc hs h2⟩
  | .t xs, v, hs, h => by simp only [FVRel] at h ⊢; obtain ⟨vs, h1, h2⟩ := h; exact ⟨vs, h1, FVsRel.st hc xs vs hs h2⟩
  | .und, v, _, h => by simpa only [FVRel] using h
theorem FVsRel.st {en en' : En} (hc : ∀ c v, stC c = true → CRel en c v → CRel en' c v) : ∀ (f : List FV) (v : List Value), stFs f = true → FVsRel en f v → FVsRel en' f v
  | [], v, _, h => by simpa only [FVsRel] using h
  | x :: xs, v, hs, h => by
    simp only [stFs, Bool.and_eq_true] at hs
    simp only [FVsRel] at h ⊢
    obtain ⟨u, r, h1, h2, h3⟩ := h
    exact ⟨u, r, h1, FVRel.st hc x u hs.1 h2, FVsRel.st hc xs r hs.2 h3⟩
end
theorem DsV.right {Q : D → Value → Prop} : ∀ {xs ys : List D} {us vs : List Value}, us.length = xs.length → DsV Q (xs ++ ys) (us ++ vs) → DsV Q ys vs
  | [], ys, [], vs, _, h => h
  | [], _, _ :: _, _, h, _ => by simp at h
  | _ :: _, _, [], _, h, _ => by simp at h
  | x :: xs, ys, u :: us, vs, hl, h => by
    obtain ⟨v, r, he, _, h⟩ := h
    simp only [List.cons_append, List.cons.injEq] at he
    obtain ⟨rfl, rfl⟩ := he
    exact DsV.right (by simpa using hl) h

theorem ownKeys_get : ∀ {cs : List C} {i k : Nat}, cs[i]? = some (.ob k) → k ∈ ownKeys cs
  | [], i, k, h => by simp at h
  | c :: cs, i, k, h => by
    cases i with
    | zero => simp at h; subst h; simp [ownKeys]
    | succ i =>
      have := ownKeys_get (cs := cs) (i := i) (k := k) (by simpa using h)
      cases c <;> simp [ownKeys, this]
/-- A call of a function that changes the arguments that are handed over. -/
theorem CallW.mut {Q : Exit → Act → World → Prop} {k : List It} {d f : Nat} {fs : List FV} {args : List RV} {q : RV} {outs : List (Nat × D)} (hc : CallX P f args ⟨q, outs⟩) (hd : d < N)
    (ha : argsX (ownKeys (cellsF fs)) (lk s.ob) fs = some args) (hko : keysOk (lk s.ob) (ownKeys (cellsF fs)) = true) (hkn : nodupB (ownKeys (cellsF fs)) = true) (hst : stTm s.tm = true) (hso : stObs (ownKeys (cellsF fs)) s.ob = true)
    (hfr : freshOs s.ob (impOs (d * 64) (cellsR q)) = true)
    (hj : J P N w0 Q k ⟨(d, impF (d * 64) q) :: s.tm, impOs (d * 64) (cellsR q) ++ (outObs (cellsF fs) outs ++ (deads (ownKeys (cellsF fs)) ++ s.ob))⟩) : CallW P N w0 Q k s d f fs := by
  refine ⟨hc.1, fun a w β R vs hv => ?_⟩
  generalize hks : ownKeys (cellsF fs) = ks at *
  have hk := keysOk_get hko
  have hknd := nodupB_iff hkn
  obtain ⟨us, u1, u2, u3⟩ := argsX_sound R hk ha hv
  obtain ⟨c1, c2, c3⟩ := argXCs_sound R hk u2 u3
  rw [hks] at c2
  generalize hcs : cellsF fs = cs at *
  let X := XOf (s.en w w0.arg β) ks
  refine Calls.mono (hc.2 w X vs us u1 (by rw [c2]; exact nodup_obFp R hknd)) fun e w' ⟨v, hve, ⟨us', vs', o1, o2, o3, o4, o5, o6⟩, hlow⟩ => ?_
  refine ⟨v, hve, ?_⟩
  -- what comes back
  have hul : us'.length = outs.length := by have := congrArg List.length o2; simpa using this
  have hX : Chg X w w' := ⟨hlow.size, fun b hb hx => hlow.block b ⟨hb, hx⟩, XOf.cells R hk⟩
  have hB : ∀ b, w0.arg b → ¬ X b := fun b hb hx => arg_not_mine hb (XOf.mine R hx)
  have hout : ∀ (j i : Nat) (e z : Nat) (xs : List (List D)), outs[j]? = some (i, .own e z xs) → ∃ ky, cs[i]? = some (.ob ky) ∧ keyAt cs i = ky ∧ us'[j]? = some (β ky) ∧ ky ∈ ks := by
    intro j i e z xs h
    have h1 : (us'.map some)[j]? = some (fixOf (args.flatMap cellsR) us i) := by rw [o2, List.getElem?_map, h]; rfl
    rw [List.getElem?_map] at h1
    cases hu : us'[j]? with
    | none => rw [hu] at h1; simp at h1
    | some u =>
      rw [hu] at h1
      simp only [Option.map_some, Option.some.injEq] at h1
      have h1 := h1.symm
      unfold fixOf at h1
      split at h1
      · rename_i e' z' xs' hdi
        obtain ⟨ky, k1, k2⟩ := c3 i e' z' xs' u hdi h1
        exact ⟨ky, k1, by simp [keyAt, k1], by rw [k2], hks ▸ ownKeys_get k1⟩
      · cases h1
  have hlkN : ∀ ky, ky ∈ (impOs (d * 64) (cellsR q)).map (·.1) → lk s.ob ky = none := fresh_lk s.ob _ hfr
  have hksome : ∀ ky ∈ ks, (lk s.ob ky).isSome = true := fun ky h => by obtain ⟨e, z, xs, h⟩ := hk ky h; rw [h]; rfl
  let β' := impB β (d * 64) (cellsR q) vs'
  let s' : St := ⟨s.tm, impOs (d * 64) (cellsR q) ++ (outObs cs outs ++ (deads ks ++ s.ob))⟩
  have hβold : ∀ ky, (lk s.ob ky).isSome = true → ownAt (cellsR q) (d * 64) ky = none := by
    intro ky h
    cases hq : ownAt (cellsR q) (d * 64) ky with
    | none => rfl
    | some x => rw [hlkN ky ((impOs_mem ky _ _).2 ⟨x, hq⟩)] at h; cases h
  have hβ' : ∀ ky, (lk s.ob ky).isSome = true → β' ky = β ky := fun ky h => by simp only [β', impB, hβold ky h]
  have hdv := DsV.right (by rw [hul, List.length_map]) o4
  -- the objects that are made or changed: their place among what comes back
  have hEnt : ∀ ky o, lk s'.ob ky = some o → o.live = true →
      (∃ (j e z : Nat) (xs : List (List D)), (outs.map (·.2) ++ cellsR q)[j]? = some (.own e z xs) ∧ (us' ++ vs')[j]? = some (β' ky) ∧ o = .arr e z xs ∧ ((∃ i, ky = d * 64 + i ∧ j = outs.length + i) ∨ (ky ∈ ks ∧ ∃ i, outs[j]? = some (i, .own e z xs) ∧ cs[i]? = some (.ob ky)))) ∨
      (ky ∉ ks ∧ lk s.ob ky = some o) := by
    intro ky o ho hl
    have ho' : lk (impOs (d * 64) (cellsR q) ++ (outObs cs outs ++ (deads ks ++ s.ob))) ky = some o := ho
    rw [impOs_lk] at ho'
    cases hq : ownAt (cellsR q) (d * 64) ky with
    | some x =>
      obtain ⟨e, z, xs⟩ := x
      rw [hq] at ho'
      simp only [Option.some.injEq] at ho'
      have hq' := hq
      unfold ownAt at hq'
      split at hq'
      · rename_i hle
        split at hq'
        · rename_i e' z' xs' hdi
          simp only [Option.some.injEq, Prod.mk.injEq] at hq'
          obtain ⟨rfl, rfl, rfl⟩ := hq'
          obtain ⟨u, hu, _⟩ := hdv.get _ _ hdi
          refine .inl ⟨outs.length + (ky - d * 64), e', z', xs', ?_, ?_, ho'.symm, .inl ⟨ky - d * 64, by omega, rfl⟩⟩
          · rw [List.getElem?_append_right (by simp), List.length_map, Nat.add_sub_cancel_left]; exact hdi
          · rw [List.getElem?_append_right (by omega), hul, Nat.add_sub_cancel_left]
            simp only [β', impB, hq, hu, Option.getD_some]
        · cases hq'
      · cases hq'
    | none =>
      rw [hq] at ho'
      simp only at ho'
      rcases outObs_lk cs (deads ks ++ s.ob) ky outs with ⟨j, i, e, z, xs, g1, g2, g3⟩ | ⟨g1, g2⟩
      · rw [g3] at ho'
        simp only [Option.some.injEq] at ho'
        obtain ⟨ky', k1, k2, k3, k4⟩ := hout j i e z xs g1
        have : ky' = ky := k2.symm.trans g2
        subst this
        have hjl := (List.getElem?_eq_some_iff.1 g1).1
        refine .inl ⟨j, e, z, xs, ?_, ?_, ho'.symm, .inr ⟨k4, i, g1, k1⟩⟩
        · rw [List.getElem?_append_left (by simpa using hjl), List.getElem?_map, g1]; rfl
        · rw [List.getElem?_append_left (by omega), k3, hβ' ky' (hksome ky' k4)]
      · rw [g2, deads_lk] at ho'
        split at ho'
        · simp only [Option.some.injEq] at ho'; subst ho'; simp [Ob.live] at hl
        · rename_i hn; exact .inr ⟨hn, ho'⟩
  have hnd := fun (j : Nat) (dd : D) (vv : Value) h1 h2 => fpDs_nd o4 o5 j dd vv h1 h2
  have hmem := fun (j : Nat) (dd : D) (vv : Value) (b : Nat) h1 h2 h3 => o6 b (fpDs_mem o4 j dd vv h1 h2 h3)
  have hrd := fun (j : Nat) (dd : D) h1 => o4.get j dd h1
  have hinj : ∀ {ky j e z xs j' e' z' xs'}, ((∃ i, ky = d * 64 + i ∧ j = outs.length + i) ∨ (ky ∈ ks ∧ ∃ i, outs[j]? = some (i, D.own e z xs) ∧ cs[i]? = some (.ob ky))) →
      ∀ {ky'}, ((∃ i, ky' = d * 64 + i ∧ j' = outs.length + i) ∨ (ky' ∈ ks ∧ ∃ i, outs[j']? = some (i, D.own e' z' xs') ∧ cs[i]? = some (.ob ky'))) → j = j' → ky = ky' := by
    intro ky j e z xs j' e' z' xs' h ky' h' hjj
    subst hjj
    rcases h with ⟨i, rfl, h1⟩ | ⟨_, i, h1, h2⟩
    · rcases h' with ⟨i', rfl, h1'⟩ | ⟨_, i', h1', h2'⟩
      · omega
      · have := (List.getElem?_eq_some_iff.1 h1').1; omega
    · rcases h' with ⟨i', rfl, h1'⟩ | ⟨_, i', h1', h2'⟩
      · have := (List.getElem?_eq_some_iff.1 h1).1; omega
      · rw [h1] at h1'
        simp only [Option.some.injEq, Prod.mk.injEq] at h1'
        rw [← h1'.1, h2] at h2'
        simp only [Option.some.injEq, C.ob.injEq] at h2'
        exact h2'
  have hhead : ∀ {dd : D} {u : Value} {b : Nat}, Rd w' (fun _ => False) (fun _ => False) dd u → (∃ e z xs, dd = .own e z xs) → blk u = some b → b ∈ fp w' dd u := by
    rintro dd u b hr ⟨e, z, xs, rfl⟩ hb
    simp only [Rd] at hr
    rcases hr with ⟨_, rfl⟩ | ⟨g, cap, cur, rfl, _⟩
    · simp [blk] at hb
    · simp [blk] at hb; subst hb; rw [fp_own_some]; simp
  have hsome' : ∀ ky, (lk s.ob ky).isSome = true → (lk s'.ob ky).isSome = true := by
    intro ky h
    show (lk (impOs (d * 64) (cellsR q) ++ (outObs cs outs ++ (deads ks ++ s.ob))) ky).isSome = true
    rw [lk_append, lk_append, lk_append]
    obtain ⟨o, ho⟩ := Option.isSome_iff_exists.1 h
    rw [ho]; simp
  have hold : ∀ ky o b, ky ∉ ks → lk s.ob ky = some o → b ∈ obFp (s.en w w0.arg β) ky → b < w.heap.size ∧ ¬ X b := by
    intro ky o b hn ho hb
    refine ⟨obFp_lt (en := s.en w w0.arg β) (fun o ho => R.ob ky o ho) b hb, ?_⟩
    rintro ⟨k2, hk2, hb2⟩
    exact R.dj ky k2 (fun e => hn (e ▸ hk2)) b hb hb2
  have hM : ∀ b, (s'.en w' w0.arg β').M b → (s.en w w0.arg β).M b ∨ X b ∨ w.heap.size ≤ b := by
    rintro b ⟨ky, o, ho, hl, hb⟩
    rcases hEnt ky o ho hl with ⟨j, e, z, xs, h1, h2, h3, _⟩ | ⟨hn, ho2⟩
    · obtain ⟨u, hu, hr⟩ := hrd j _ h1
      rw [h2] at hu
      simp only [Option.some.injEq] at hu
      have hb' : blk (β' ky) = some b := hb
      have := hmem j _ _ b h1 h2 (hhead (hu ▸ hr) ⟨e, z, xs, rfl⟩ hb')
      exact this.elim (fun h => .inr (.inr h)) (fun h => .inr (.inl h))
    · have hb' : blk (β' ky) = some b := hb
      rw [hβ' ky (by rw [ho2]; rfl)] at hb'
      exact .inl ⟨ky, o, ho2, hl, hb'⟩
  have hBe : (s'.en w' w0.arg β').B = (s.en w w0.arg β).B := rfl
  have hcst : ∀ c v, stC c = true → CRel (s.en w w0.arg β) c v → CRel (s'.en w' w0.arg β') c v := fun c v hs h =>
    CRel.st (en := s.en w w0.arg β) (en' := s'.en w' w0.arg β') (X := X) hX hB hBe hM (fun ky h => ⟨hsome' ky h, hβ' ky h⟩) hs h
  -- objects of old
  have hobOld : ∀ ky o, ky ∉ ks → lk s.ob ky = some o → ObRel (s'.en w' w0.arg β') ky o ∧ (∀ h : lk s'.ob ky = some o, obFp (s'.en w' w0.arg β') ky = obFp (s.en w w0.arg β) ky) := by
    intro ky o hn ho
    have hr := R.ob ky o ho
    have hs := stObs_lk hso ho hn
    have hbe := hβ' ky (by rw [ho]; rfl)
    cases o with
    | dead => exact ⟨trivial, fun h => by rw [obFp_dead (en := s'.en w' w0.arg β') h, obFp_dead (en := s.en w w0.arg β) ho]⟩
    | var vcs =>
      obtain ⟨g, cur, T, h1, h2, h3⟩ := hr
      have hb : g ∈ obFp (s.en w w0.arg β) ky := by rw [obFp_var (en := s.en w w0.arg β) ho, h1]; simp [blk]
      obtain ⟨hlt, hx⟩ := hold ky _ g hn ho hb
      refine ⟨⟨g, cur, T, hbe.trans h1, (hX.block g hlt hx).trans h2, CsRel.st hcst hs h3⟩, fun h => ?_⟩
      rw [obFp_var (en := s'.en w' w0.arg β') h, obFp_var (en := s.en w w0.arg β) ho]
      show (blk (β' ky)).toList = (blk (β ky)).toList
      rw [hbe]
    | mp es =>
      obtain ⟨r, ents, clock, h1, h2, h3⟩ := hr
      have hb : r ∈ obFp (s.en w w0.arg β) ky := by rw [obFp_mp (en := s.en w w0.arg β) ho, h1]; simp [blk]
      obtain ⟨hlt, hx⟩ := hold ky _ r hn ho hb
      refine ⟨⟨r, ents, clock, hbe.trans h1, (hX.block r hlt hx).trans h2, h3⟩, fun h => ?_⟩
      rw [obFp_mp (en := s'.en w' w0.arg β') h, obFp_mp (en := s.en w w0.arg β) ho]
      show (blk (β' ky)).toList = (blk (β ky)).toList
      rw [hbe]
    | it m rem last =>
      obtain ⟨g, r, since, seen, st, h1, h2, h3, h4⟩ := hr
      have hb : g ∈ obFp (s.en w w0.arg β) ky := by rw [obFp_it (en := s.en w w0.arg β) ho, h1]; simp [blk]
      obtain ⟨hlt, hx⟩ := hold ky _ g hn ho hb
      refine ⟨⟨g, r, since, seen, st, hbe.trans h1, (hX.block g hlt hx).trans h2, Rd.stA hX hB hM (.mp m) _ rfl h3, h4⟩, fun h => ?_⟩
      rw [obFp_it (en := s'.en w' w0.arg β') h, obFp_it (en := s.en w w0.arg β) ho]
      show (blk (β' ky)).toList = (blk (β ky)).toList
      rw [hbe]
    | arr e z xs =>
      have hfpo := obFp_arr (en := s.en w w0.arg β) ho
      have hr : OwnRel w w0.arg (s.en w w0.arg β).M e z xs (β ky) := hr
      rcases hr with ⟨rfl, h1⟩ | ⟨g, cap, cur, h1, h2, h3, h4, h5, h6⟩
      · refine ⟨.inl ⟨rfl, hbe.trans h1⟩, fun h => ?_⟩
        rw [obFp_arr (en := s'.en w' w0.arg β') h, hfpo]
        show fp w' _ (β' ky) = fp w _ (β ky)
        rw [hbe, h1, fp_own_nil, fp_own_nil]
      · have hfpe : obFp (s.en w w0.arg β) ky = g :: fpEs w z xs g 0 := by
          rw [hfpo]; show fp w _ (β ky) = _; rw [h1, fp_own_some]
        obtain ⟨hlt, hx⟩ := hold ky _ g hn ho (by rw [hfpe]; exact List.mem_cons_self ..)
        obtain ⟨r1, r2⟩ := RdEs.stO hX hB hM (fun _ => hX.cell hlt hx) xs 0 hs (fun y hy => (hold ky _ y hn ho (by rw [hfpe]; exact List.mem_cons_of_mem _ hy)).2) h6
        refine ⟨.inr ⟨g, cap, cur, hbe.trans h1, h2, (hX.block g hlt hx).trans h3, h4, h5, r1⟩, fun h => ?_⟩
        rw [obFp_arr (en := s'.en w' w0.arg β') h, hfpe]
        show fp w' _ (β' ky) = _
        rw [hbe, h1, fp_own_some, r2]
  -- objects that came back
  have hobNew : ∀ ky e z xs j, lk s'.ob ky = some (.arr e z xs) → (outs.map (·.2) ++ cellsR q)[j]? = some (.own e z xs) → (us' ++ vs')[j]? = some (β' ky) →
      ((∃ i, ky = d * 64 + i ∧ j = outs.length + i) ∨ (ky ∈ ks ∧ ∃ i, outs[j]? = some (i, .own e z xs) ∧ cs[i]? = some (.ob ky))) →
      ObRel (s'.en w' w0.arg β') ky (.arr e z xs) ∧ obFp (s'.en w' w0.arg β') ky = fp w' (.own e z xs) (β' ky) := by
    intro ky e z xs j ho h1 h2 h3
    refine ⟨?_, obFp_arr (en := s'.en w' w0.arg β') ho⟩
    obtain ⟨u, hu, hr⟩ := hrd j _ h1
    rw [h2] at hu
    simp only [Option.some.injEq] at hu
    subst hu
    show OwnRel w' w0.arg _ e z xs (β' ky)
    have hfi : freshEs xs = true := freshCs_get o3 j _ h1
    have hr0 := hr
    simp only [Rd] at hr
    rcases hr with hr | ⟨g, cap, cur, hβe, g1, g2, g3, g4, g5, g6⟩
    · exact .inl hr
    · refine .inr ⟨g, cap, cur, hβe, g1, g3, g4, g5, RdEs.free xs 0 hfi g6 fun b hb hMb => ?_⟩
      have hbF : b ∈ fp w' (.own e z xs) (β' ky) := by rw [hβe, fp_own_some]; exact List.mem_cons_of_mem _ hb
      obtain ⟨ky', o', ho', hl', hb'⟩ := hMb
      rcases hEnt ky' o' ho' hl' with ⟨j', e', z', xs', h1', h2', h3', h4'⟩ | ⟨hn, ho2⟩
      · obtain ⟨u', hu', hr'⟩ := hrd j' _ h1'
        rw [h2'] at hu'
        simp only [Option.some.injEq] at hu'
        subst hu'
        have hb2 := hhead hr' ⟨e', z', xs', rfl⟩ hb'
        by_cases hjj : j' = j
        · have hkk := hinj h4' h3 hjj
          subst hjj; subst hkk
          have := (hnd j' _ _ h1 h2).1
          rw [hβe, fp_own_some] at this
          have hb3 : blk (β' ky') = some b := hb'
          rw [hβe] at hb3
          simp [blk] at hb3; subst hb3
          exact (List.nodup_cons.1 this).1 hb
        · exact (hnd j _ _ h1 h2).2 j' _ _ hjj h1' h2' b hbF hb2
      · have hb3 : blk (β' ky') = some b := hb'
        rw [hβ' ky' (by rw [ho2]; rfl)] at hb3
        obtain ⟨hlt, hx⟩ := hold ky' o' b hn ho2 (R.live_block ho2 hl' hb3)
        exact (hmem j _ _ b h1 h2 hbF).elim (fun h => Nat.lt_irrefl _ (Nat.lt_of_lt_of_le hlt h)) hx
  have hdeadFp : ∀ ky, (∀ o, lk s'.ob ky = some o → o.live = false) → obFp (s'.en w' w0.arg β') ky = [] := by
    intro ky h
    unfold obFp
    show (match lk s'.ob ky with | some (.var _) => _ | some (.mp _) => _ | some (.it _ _ _) => _ | some (.arr e s xs) => _ | _ => []) = []
    cases ho : lk s'.ob ky with
    | none => rfl
    | some o =>
      have := h o ho
      cases o <;> simp [Ob.live] at this
      rfl
  -- each place: dead, back, or old
  have hcase : ∀ ky, obFp (s'.en w' w0.arg β') ky = [] ∨ (∃ (j e z : Nat) (xs : List (List D)), (outs.map (·.2) ++ cellsR q)[j]? = some (.own e z xs) ∧ (us' ++ vs')[j]? = some (β' ky) ∧ obFp (s'.en w' w0.arg β') ky = fp w' (.own e z xs) (β' ky) ∧
      ((∃ i, ky = d * 64 + i ∧ j = outs.length + i) ∨ (ky ∈ ks ∧ ∃ i, outs[j]? = some (i, .own e z xs) ∧ cs[i]? = some (.ob ky)))) ∨
      (ky ∉ ks ∧ (∃ o, lk s.ob ky = some o) ∧ obFp (s'.en w' w0.arg β') ky = obFp (s.en w w0.arg β) ky) := by
    intro ky
    cases ho : lk s'.ob ky with
    | none => exact .inl (hdeadFp ky fun o h => by rw [ho] at h; cases h)
    | some o =>
      cases hl : o.live with
      | false => exact .inl (hdeadFp ky fun o' h => by rw [ho] at h; simp only [Option.some.injEq] at h; subst h; exact hl)
      | true =>
        rcases hEnt ky o ho hl with ⟨j, e, z, xs, h1, h2, rfl, h4⟩ | ⟨hn, ho2⟩
        · exact .inr (.inl ⟨j, e, z, xs, h1, h2, (hobNew ky e z xs j ho h1 h2 h4).2, h4⟩)
        · exact .inr (.inr ⟨hn, ⟨o, ho2⟩, (hobOld ky o hn ho2).2 ho⟩)
  have R' : Rel N w0 s' a w' β' := by
    refine ⟨R.sz, R.df, ?_, ?_, ?_, ?_, ?_, R.low.trans ⟨hlow.os, hlow.tape, hlow.output, hlow.size, fun b hb => hX.block b (Nat.lt_of_lt_of_le hb.1 R.base_le) (hB b hb), hlow.drawn⟩, ?_⟩
    · intro t g hg
      exact FVRel.st hcst g _ (stTm_lk hst hg) (R.tm t g hg)
    · intro ky o ho
      cases hl : o.live with
      | false => cases o <;> simp [Ob.live] at hl; trivial
      | true =>
        rcases hEnt ky o ho hl with ⟨j, e, z, xs, h1, h2, rfl, h4⟩ | ⟨hn, ho2⟩
        · exact (hobNew ky e z xs j ho h1 h2 h4).1
        · exact (hobOld ky o hn ho2).1
    · intro ky
      rcases hcase ky with h | ⟨j, e, z, xs, h1, h2, h3, _⟩ | ⟨_, _, h⟩
      · rw [h]; exact List.nodup_nil
      · rw [h3]; exact (hnd j _ _ h1 h2).1
      · rw [h]; exact R.nd ky
    · intro ky ky' hne b hb hb'
      rcases hcase ky with h | ⟨j, e, z, xs, h1, h2, h3, h4⟩ | ⟨hn, ⟨o, ho⟩, h⟩
      · rw [h] at hb; cases hb
      · rcases hcase ky' with h' | ⟨j', e', z', xs', h1', h2', h3', h4'⟩ | ⟨hn', ⟨o', ho'⟩, h'⟩
        · rw [h'] at hb'; cases hb'
        · rw [h3] at hb; rw [h3'] at hb'
          exact (hnd j _ _ h1 h2).2 j' _ _ (fun e => hne (hinj h4 h4' e.symm)) h1' h2' b hb hb'
        · rw [h3] at hb; rw [h'] at hb'
          obtain ⟨hlt, hx⟩ := hold ky' o' b hn' ho' hb'
          exact (hmem j _ _ b h1 h2 hb).elim (fun h => Nat.lt_irrefl _ (Nat.lt_of_lt_of_le hlt h)) hx
      · rcases hcase ky' with h' | ⟨j', e', z', xs', h1', h2', h3', h4'⟩ | ⟨hn', ⟨o', ho'⟩, h'⟩
        · rw [h'] at hb'; cases hb'
        · rw [h] at hb; rw [h3'] at hb'
          obtain ⟨hlt, hx⟩ := hold ky o b hn ho hb
          exact (hmem j' _ _ b h1' h2' hb').elim (fun h => Nat.lt_irrefl _ (Nat.lt_of_lt_of_le hlt h)) hx
        · rw [h] at hb; rw [h'] at hb'; exact R.dj ky ky' hne b hb hb'
    · intro ky b hb
      rcases hcase ky with h | ⟨j, e, z, xs, h1, h2, h3, _⟩ | ⟨_, _, h⟩
      · rw [h] at hb; cases hb
      · rw [h3] at hb
        exact (hmem j _ _ b h1 h2 hb).elim (fun h => .inl (Nat.le_trans R.base_le h)) (fun h => XOf.mine R h)
      · rw [h] at hb; exact R.ge ky b hb
    · intro ky c hf
      obtain ⟨f2, f3⟩ := R.fx ky c hf
      exact ⟨hsome' ky f2, (hβ' ky f2).trans f3⟩
  refine ⟨⟨(d, impF (d * 64) q) :: s.tm, s'.ob⟩, β', R'.setTm hd (impF_rel o1 ?_), hj⟩
  refine impCs_rel (key0 := 0) (cellsR q) vs' (d * 64) (hdv.mono fun _ _ _ => trivial) fun i dd u hdi hui => ?_
  obtain ⟨u', hu', hr⟩ := hdv.get i dd hdi
  rw [hui] at hu'
  simp only [Option.some.injEq] at hu'; subst hu'
  have hone := hr.one
  have hfrd : dd.fresh = true := freshCs_get (by rw [freshCs_append] at o3; simp only [Bool.and_eq_true] at o3; exact o3.2) i dd hdi
  cases dd with
  | own e z xs =>
    have hq : ownAt (cellsR q) (d * 64) (d * 64 + i) = some (e, z, xs) := by
      unfold ownAt
      rw [if_pos (by omega), show d * 64 + i - d * 64 = i by omega, hdi]
    refine ⟨?_, ?_, hone⟩
    · show (lk (impOs (d * 64) (cellsR q) ++ (outObs cs outs ++ (deads ks ++ s.ob))) (d * 64 + i)).isSome = true
      rw [impOs_lk, hq]; rfl
    · show u = impB β (d * 64) (cellsR q) vs' (d * 64 + i)
      simp only [impB, hq, show d * 64 + i - d * 64 = i by omega, hui, Option.getD_some]
  | v x => exact ⟨rfl, hone, by simpa only [Rd] using hr⟩
  | vw aa z xs => simp [D.fresh] at hfrd
  | mp es => simp [D.fresh] at hfrd

end Go.Sm

namespace Go.Sm
open Go.RowKit

variable {P : Program} {N : Nat} {w0 : Base} {s : St} {a : Act} {w w' : World} {β : Nat → Value} {X : Nat → Prop} {B M M' : Nat → Prop}

/-! ### weaker demands -/

theorem Oper.wp_mono2 {o : Oper} {K K' : Act → World → Prop} {Q Q' : Exit → Act → World → Prop} (h : ∀ a w, K a w → K' a w) (hq : ∀ e a w, Q e a w → Q' e a w) (hh : o.wp P a w K Q) : o.wp P a w K' Q' := by
  unfold Oper.wp at *
  generalize (execOp a.eval o).run P w = r at *
  cases r with
  | ok n w' =>
    cases n <;> simp only [Oper.upon] at hh ⊢ <;>
      first
        | exact h _ _ hh
        | exact Calls.mono hh (fun e w'' he => by cases e <;> first | exact h _ _ he | exact hq _ _ _ he | exact he.imp fun a ⟨w, h⟩ => ⟨w, hq _ _ _ h⟩)
        | exact Rows.mono hh (fun _ _ he => h _ _ he)
  | halt x w' => cases x <;> simp only [Oper.upon] at hh ⊢ <;> first | exact hh | exact hq _ _ _ hh

theorem wpList_mono {ops : Array Oper} {Q Q' : Exit → Act → World → Prop} (hq : ∀ e a w, Q e a w → Q' e a w) : ∀ (l : List Oper) (a : Act) (w : World), wpList P ops Q l a w → wpList P ops Q' l a w
  | [], a, w, h => hq _ _ _ h
  | o :: l, a, w, h => by
    unfold wpList at h ⊢
    split at h
    · rename_i hw
      rw [if_pos hw]
      exact h.imp (Oper.wp_mono2 (fun a w => wpList_mono hq l a w) hq) fun ⟨h1, h2⟩ => ⟨h1, h2.imp fun a ⟨w, h⟩ => ⟨w, hq _ _ _ h⟩⟩
    · rename_i hw
      rw [if_neg hw]
      exact wpList_mono hq l _ _ h

theorem cont_weaken {w0' : Base} {Q Q' : Exit → Act → World → Prop} (hq : ∀ e a w, Q' e a w → Q e a w) (hr : ∀ s a w β, Rel N w0' s a w β → Rel N w0 s a w β) : ∀ (k : List It) (e : Exit) (a : Act) (w : World), cont P N w0' Q' k e a w → cont P N w0 Q k e a w
  | [], e, a, w, h => by simp only [cont] at h ⊢; exact hq _ _ _ h
  | x :: k, e, a, w, h => by
    have ih := fun e a w => cont_weaken hq hr k e a w
    cases x with
    | code c =>
      cases e <;> simp only [cont] at h ⊢ <;> first | exact wp_mono h ih | exact ih _ _ _ h
    | ops all l =>
      cases e <;> simp only [cont] at h ⊢ <;> first | exact wpList_mono ih l a w h | exact ih _ _ _ h
    | blk id =>
      cases e <;> simp only [cont] at h ⊢ <;> first
        | exact ih _ _ _ h
        | (split at h
           · rename_i e1; rw [if_pos e1]; exact ih _ _ _ h
           · rename_i e1; rw [if_neg e1]; exact ih _ _ _ h)
    | inv p =>
      cases e <;> simp only [cont] at h ⊢ <;> first
        | exact ih _ _ _ h
        | (obtain ⟨s, β, h1, h2⟩ := h; exact ⟨s, β, h1, hr _ _ _ _ h2⟩)

/-- A key whose handle has a name. -/
def Base.named (w0 : Base) (K : Nat) (c : Value) : Base := ⟨w0.toWorld, w0.X, fun k => if k = K then some c else w0.fix k⟩

theorem Rel.named (R : Rel N w0 s a w β) {K : Nat} (hK : (lk s.ob K).isSome = true) : Rel N (w0.named K (β K)) s a w β := by
  refine ⟨R.sz, R.df, R.tm, R.ob, R.nd, R.dj, R.ge, ⟨R.low.os, R.low.tape, R.low.output, R.low.size, R.low.block, R.low.drawn⟩, fun k c hk => ?_⟩
  have hk' : (if k = K then some (β K) else w0.fix k) = some c := hk
  split at hk'
  · rename_i e; subst e
    simp only [Option.some.injEq] at hk'
    exact ⟨hK, hk'⟩
  · exact R.fx k c hk'
theorem Rel.unnamed {K : Nat} {c : Value} (hf : w0.fix K = none) (R : Rel N (w0.named K c) s a w β) : Rel N w0 s a w β := by
  refine ⟨R.sz, R.df, R.tm, R.ob, R.nd, R.dj, R.ge, ⟨R.low.os, R.low.tape, R.low.output, R.low.size, R.low.block, R.low.drawn⟩, fun k c' hk => R.fx k c' ?_⟩
  show (if k = K then some c else w0.fix k) = some c'
  rw [if_neg (fun e => by rw [e, hf] at hk; cases hk)]; exact hk

theorem post_named {F : Fn} {r : Res} {fn : Func} {K : Nat} {c : Value} (hK : ∀ p ∈ r.outs, p.1 ≠ K) {e : Exit} {a : Act} {w : World} (h : F.post (w0.named K c) r fn e a w) : F.post w0 r fn e a w := by
  have hR : ∀ {e : Ending} {w' : World}, (∃ v, e = .returned v ∧ OwnR w' (w0.named K c) r v ∧ Low (w0.named K c) (w0.named K c).toWorld w') → ∃ v, e = .returned v ∧ OwnR w' w0 r v ∧ Low w0 w0.toWorld w' := by
    rintro e w' ⟨v, h1, ⟨us, vs, o1, o2, o3, o4, o5, o6⟩, h3⟩
    refine ⟨v, h1, ⟨us, vs, o1, o2.trans ?_, o3, o4, o5, o6⟩, ⟨h3.os, h3.tape, h3.output, h3.size, h3.block, h3.drawn⟩⟩
    refine List.map_congr_left fun p hp => ?_
    show (if p.1 = K then some c else w0.fix p.1) = w0.fix p.1
    rw [if_neg (hK p hp)]
  unfold Fn.post at h ⊢
  unfold bodyPost at h ⊢
  split at h
  all_goals first
    | exact hR h
    | exact ⟨h.1, hR h.2⟩
    | (obtain ⟨g1, v, g2, g3⟩ := h; exact ⟨g1, v, g2, hR g3⟩)
    | exact h.elim

/-! ### one cell of one's own among others -/

theorem setCs {b : Nat} (hX : Chg X w w) (hB : ∀ b, B b → ¬ X b) (hM : ∀ b, M' b → M b ∨ X b ∨ w.heap.size ≤ b) : ∀ (xs : List D) (off j : Nat) (dd d' : D), xs[j]? = some dd → stOCs xs = true → RdCs w B M xs b off →
    (fpCs w xs b off).Nodup → ∀ c, w.cell? ⟨b, off + j, none⟩ = some c → (∀ y, X y → y ∈ fp w dd c) → Rd w B M' d' c →
    RdCs w B M' (xs.set j d') b off ∧ ∃ pre post, fpCs w xs b off = pre ++ (fp w dd c ++ post) ∧ fpCs w (xs.set j d') b off = pre ++ (fp w d' c ++ post)
  | [], _, _, _, _, h, _, _, _, _, _, _, _ => by simp at h
  | x :: xs, off, 0, dd, d', h, hs, hr, hn, c, hc, hx, hd => by
    simp at h; subst h
    simp only [stOCs, Bool.and_eq_true] at hs
    simp only [RdCs] at hr
    obtain ⟨⟨c', hc', _⟩, h2⟩ := hr
    have hc : w.cell? ⟨b, off, none⟩ = some c := by simpa using hc
    rw [hc'] at hc
    simp only [Option.some.injEq] at hc; subst hc
    simp only [fpCs, hc', Option.getD_some] at hn
    obtain ⟨n1, n2, n3⟩ := List.nodup_append.1 hn
    obtain ⟨r1, r2⟩ := RdCs.stO hX hB hM (fun _ => rfl) xs (off + 1) hs.2 (fun y hy hxy => n3 y (hx y hxy) y hy rfl) h2
    refine ⟨?_, [], fpCs w xs b (off + 1), ?_, ?_⟩
    · simp only [List.set_cons_zero, RdCs]; exact ⟨⟨c', hc', hd⟩, r1⟩
    · simp only [fpCs, hc', Option.getD_some, List.nil_append]
    · simp only [List.set_cons_zero, fpCs, hc', Option.getD_some, List.nil_append]
  | x :: xs, off, j + 1, dd, d', h, hs, hr, hn, c, hc, hx, hd => by
    simp only [stOCs, Bool.and_eq_true] at hs
    simp only [RdCs] at hr
    obtain ⟨⟨c', hc', hr1⟩, h2⟩ := hr
    simp only [fpCs, hc', Option.getD_some] at hn
    obtain ⟨n1, n2, n3⟩ := List.nodup_append.1 hn
    have hc2 : w.cell? ⟨b, off + 1 + j, none⟩ = some c := by rw [show off + 1 + j = off + (j + 1) by omega]; exact hc
    obtain ⟨q1, pre, post, q2, q3⟩ := setCs hX hB hM xs (off + 1) j dd d' (by simpa using h) hs.2 h2 n2 c hc2 hx hd
    have hsub : ∀ y, X y → y ∈ fpCs w xs b (off + 1) := fun y hy => by rw [q2]; simp [hx y hy]
    obtain ⟨r1, _⟩ := Rd.stO hX hB hM x c' hs.1 (fun y hy hxy => n3 y hy y (hsub y hxy) rfl) hr1
    refine ⟨?_, fp w x c' ++ pre, post, ?_, ?_⟩
    · simp only [List.set_cons_succ, RdCs]; exact ⟨⟨c', hc', r1⟩, q1⟩
    · simp only [fpCs, hc', Option.getD_some, q2, List.append_assoc]
    · simp only [List.set_cons_succ, fpCs, hc', Option.getD_some, q3, List.append_assoc]

theorem setEs {b z : Nat} (hX : Chg X w w) (hB : ∀ b, B b → ¬ X b) (hM : ∀ b, M' b → M b ∨ X b ∨ w.heap.size ≤ b) : ∀ (xs : List (List D)) (off i j : Nat) (E : List D) (dd d' : D), xs[i]? = some E → E[j]? = some dd → stOEs xs = true → RdEs w B M z xs b off →
    (fpEs w z xs b off).Nodup → ∀ c, w.cell? ⟨b, off + i * z + j, none⟩ = some c → (∀ y, X y → y ∈ fp w dd c) → Rd w B M' d' c →
    RdEs w B M' z (xs.set i (E.set j d')) b off ∧ ∃ pre post, fpEs w z xs b off = pre ++ (fp w dd c ++ post) ∧ fpEs w z (xs.set i (E.set j d')) b off = pre ++ (fp w d' c ++ post)
  | [], _, _, _, _, _, _, h, _, _, _, _, _, _, _, _ => by simp at h
  | e :: es, off, 0, j, E, dd, d', h, hj, hs, hr, hn, c, hc, hx, hd => by
    simp at h; subst h
    simp only [stOEs, Bool.and_eq_true] at hs
    simp only [RdEs] at hr
    simp only [fpEs] at hn
    obtain ⟨n1, n2, n3⟩ := List.nodup_append.1 hn
    have hc2 : w.cell? ⟨b, off + j, none⟩ = some c := by simpa using hc
    obtain ⟨q1, pre, post, q2, q3⟩ := setCs hX hB hM e off j dd d' hj hs.1 hr.2.1 n1 c hc2 hx hd
    have hsub : ∀ y, X y → y ∈ fpCs w e b off := fun y hy => by rw [q2]; simp [hx y hy]
    obtain ⟨r1, r2⟩ := RdEs.stO hX hB hM (fun _ => rfl) es (off + z) hs.2 (fun y hy hxy => n3 y (hsub y hxy) y hy rfl) hr.2.2
    refine ⟨?_, pre, post ++ fpEs w z es b (off + z), ?_, ?_⟩
    · simp only [List.set_cons_zero, RdEs, List.length_set]; exact ⟨hr.1, q1, r1⟩
    · simp only [fpEs, q2, List.append_assoc]
    · simp only [List.set_cons_zero, fpEs, q3, List.append_assoc]
  | e :: es, off, i + 1, j, E, dd, d', h, hj, hs, hr, hn, c, hc, hx, hd => by
    simp only [stOEs, Bool.and_eq_true] at hs
    simp only [RdEs] at hr
    simp only [fpEs] at hn
    obtain ⟨n1, n2, n3⟩ := List.nodup_append.1 hn
    have hc2 : w.cell? ⟨b, off + z + i * z + j, none⟩ = some c := by rw [show off + z + i * z + j = off + (i + 1) * z + j by rw [Nat.add_mul]; omega]; exact hc
    obtain ⟨q1, pre, post, q2, q3⟩ := setEs hX hB hM es (off + z) i j E dd d' (by simpa using h) hj hs.2 hr.2.2 n2 c hc2 hx hd
    have hsub : ∀ y, X y → y ∈ fpEs w z es b (off + z) := fun y hy => by rw [q2]; simp [hx y hy]
    obtain ⟨r1, _⟩ := RdCs.stO hX hB hM (fun _ => rfl) e off hs.1 (fun y hy hxy => n3 y hy y (hsub y hxy) rfl) hr.2.1
    refine ⟨?_, fpCs w e b off ++ pre, post, ?_, ?_⟩
    · simp only [List.set_cons_succ, RdEs]; exact ⟨hr.1, r1, q1⟩
    · simp only [fpEs, q2, List.append_assoc]
    · simp only [List.set_cons_succ, fpEs, q3, List.append_assoc]

theorem getCs : ∀ {xs : List D} {b off j : Nat} {d : D}, RdCs w B M xs b off → xs[j]? = some d → ∃ c, w.cell? ⟨b, off + j, none⟩ = some c ∧ Rd w B M d c
  | [], _, _, _, _, _, h => by simp at h
  | x :: xs, b, off, 0, d, hr, h => by simp at h; subst h; simp only [RdCs] at hr; simpa using hr.1
  | x :: xs, b, off, j + 1, d, hr, h => by
    simp only [RdCs] at hr
    have := getCs (j := j) hr.2 (by simpa using h)
    rw [show off + (j + 1) = off + 1 + j by omega]; exact this

/-- An object elsewhere. -/
theorem ObRel.st {en en' : En} (hX : Chg X en.w en'.w) (hB : ∀ b, en.B b → ¬ X b) (hBe : en'.B = en.B) (hM : ∀ b, en'.M b → en.M b ∨ X b ∨ en.w.heap.size ≤ b)
    (hcst : ∀ c v, stC c = true → CRel en c v → CRel en' c v) {ky : Nat} {o : Ob} (hbe : en'.β ky = en.β ky) (ho : en.ob ky = some o) (hs : stOb o = true) (hfp : ∀ b ∈ obFp en ky, b < en.w.heap.size ∧ ¬ X b) (hr : ObRel en ky o) :
    ObRel en' ky o ∧ (en'.ob ky = some o → obFp en' ky = obFp en ky) := by
  cases o with
  | dead => exact ⟨trivial, fun h => by rw [obFp_dead h, obFp_dead ho]⟩
  | var vcs =>
    obtain ⟨g, cur, T, h1, h2, h3⟩ := hr
    have hb : g ∈ obFp en ky := by rw [obFp_var ho, h1]; simp [blk]
    obtain ⟨hlt, hx⟩ := hfp g hb
    exact ⟨⟨g, cur, T, hbe.trans h1, (hX.block g hlt hx).trans h2, CsRel.st hcst hs h3⟩, fun h => by rw [obFp_var h, obFp_var ho, hbe]⟩
  | mp es =>
    obtain ⟨r, ents, clock, h1, h2, h3⟩ := hr
    have hb : r ∈ obFp en ky := by rw [obFp_mp ho, h1]; simp [blk]
    obtain ⟨hlt, hx⟩ := hfp r hb
    exact ⟨⟨r, ents, clock, hbe.trans h1, (hX.block r hlt hx).trans h2, h3⟩, fun h => by rw [obFp_mp h, obFp_mp ho, hbe]⟩
  | it m rem last =>
    obtain ⟨g, r, since, seen, st, h1, h2, h3, h4⟩ := hr
    have hb : g ∈ obFp en ky := by rw [obFp_it ho, h1]; simp [blk]
    obtain ⟨hlt, hx⟩ := hfp g hb
    exact ⟨⟨g, r, since, seen, st, hbe.trans h1, (hX.block g hlt hx).trans h2, by rw [hBe]; exact Rd.stA hX hB hM (.mp m) _ rfl h3, h4⟩, fun h => by rw [obFp_it h, obFp_it ho, hbe]⟩
  | arr e z xs =>
    have hfpo := obFp_arr ho
    rcases hr with ⟨rfl, h1⟩ | ⟨g, cap, cur, h1, h2, h3, h4, h5, h6⟩
    · exact ⟨.inl ⟨rfl, hbe.trans h1⟩, fun h => by rw [obFp_arr h, hfpo, hbe, h1, fp_own_nil, fp_own_nil]⟩
    · have hfpe : obFp en ky = g :: fpEs en.w z xs g 0 := by rw [hfpo, h1, fp_own_some]
      obtain ⟨hlt, hx⟩ := hfp g (by rw [hfpe]; exact List.mem_cons_self ..)
      obtain ⟨r1, r2⟩ := RdEs.stO hX hB hM (fun _ => hX.cell hlt hx) xs 0 hs (fun y hy => (hfp y (by rw [hfpe]; exact List.mem_cons_of_mem _ hy)).2) h6
      exact ⟨.inr ⟨g, cap, cur, hbe.trans h1, h2, (hX.block g hlt hx).trans h3, h4, h5, by rw [hBe]; exact r1⟩, fun h => by rw [obFp_arr h, hfpe, hbe, h1, fp_own_some, r2]⟩

end Go.Sm

namespace Go.Sm
open Go.RowKit

variable {P : Program} {N : Nat} {w0 : Base} {s : St} {a : Act} {w w' : World} {β : Nat → Value} {B M M' : Nat → Prop}

theorem own_head {e z : Nat} {ys : List (List D)} {c : Value} {b : Nat} (hr : Rd w B M (.own e z ys) c) (hb : blk c = some b) : b ∈ fp w (.own e z ys) c ∧ ∃ cur e, w.heap[b]? = some (.cells cur e (0, 0)) := by
  simp only [Rd] at hr
  rcases hr with ⟨_, rfl⟩ | ⟨g, cap, cur, rfl, _, _, hh, _⟩
  · simp [blk] at hb
  · simp [blk] at hb; subst hb; rw [fp_own_some]; exact ⟨List.mem_cons_self .., cur, e, hh⟩

theorem Rel.out (R : Rel N w0 s a w β) {ky K i j e z e' z' : Nat} {xs ys : List (List D)} {E : List D} (ho : lk s.ob ky = some (.arr e z xs)) (hE : xs[i]? = some E) (hj : E[j]? = some (.own e' z' ys)) (hf : freshEs ys = true)
    (hKn : lk s.ob K = none) (hst : stTm s.tm = true) (hso : stObs [] s.ob = true) :
    ∃ c, Rel N (w0.named K c) ⟨s.tm, (K, .arr e' z' ys) :: (ky, .arr e z (xs.set i (E.set j (.v c)))) :: s.ob⟩ a w (upd β K c) := by
  have hKky : K ≠ ky := fun h => by subst h; rw [hKn] at ho; cases ho
  have hr : OwnRel w w0.arg (s.en w w0.arg β).M e z xs (β ky) := R.ob ky _ ho
  have hfpo := obFp_arr (en := s.en w w0.arg β) ho
  rcases hr with ⟨rfl, _⟩ | ⟨g, cap, cur, h1, h2, h3, h4, h5, h6⟩
  · simp at hE
  have hfpe : obFp (s.en w w0.arg β) ky = g :: fpEs w z xs g 0 := by rw [hfpo]; show fp w _ (β ky) = _; rw [h1, fp_own_some]
  have hndk : (g :: fpEs w z xs g 0).Nodup := hfpe ▸ R.nd ky
  obtain ⟨hgn, hndE⟩ := List.nodup_cons.1 hndk
  obtain ⟨_, hEr⟩ := RdEs.get i xs 0 E h6 hE
  obtain ⟨c, hc, hd⟩ := getCs hEr hj
  refine ⟨c, ?_⟩
  let X : Nat → Prop := fun y => blk c = some y
  have hXfp : ∀ y, X y → y ∈ fp w (.own e' z' ys) c := fun y hy => (own_head hd hy).1
  have hX : Chg X w w := ⟨Nat.le_refl _, fun _ _ _ => rfl, fun y hy => (own_head hd hy).2⟩
  have hc' : w.cell? ⟨g, 0 + i * z + j, none⟩ = some c := hc
  let s' : St := ⟨s.tm, (K, .arr e' z' ys) :: (ky, .arr e z (xs.set i (E.set j (.v c)))) :: s.ob⟩
  -- where the part lies
  have hpart : ∀ y, y ∈ fp w (.own e' z' ys) c → y ∈ fpEs w z xs g 0 := by
    intro y hy
    obtain ⟨_, pre, post, q2, _⟩ := setEs (M' := (s.en w w0.arg β).M) (X := fun _ => False) ⟨Nat.le_refl _, fun _ _ _ => rfl, fun _ h => h.elim⟩ (fun _ _ => not_false) (fun _ h => .inl h) xs 0 i j E _ (.v c) hE hj
      (stObs_lk hso ho (by simp)) h6 hndE c hc' (fun _ h => h.elim) (by simp only [Rd]; exact ⟨trivial, hd.one⟩)
    rw [q2]; simp [hy]
  have hB : ∀ b, w0.arg b → ¬ X b := fun b hb hx => arg_not_mine hb (R.ge ky b (by rw [hfpe]; exact List.mem_cons_of_mem _ (hpart b (hXfp b hx))))
  have hlk : ∀ k, lk s'.ob k = if K = k then some (.arr e' z' ys) else if ky = k then some (.arr e z (xs.set i (E.set j (.v c)))) else lk s.ob k := by
    intro k; simp only [s', lk_cons]
  have hM : ∀ b, (s'.en w w0.arg (upd β K c)).M b → (s.en w w0.arg β).M b ∨ X b ∨ w.heap.size ≤ b := by
    rintro b ⟨k, o, hko, hl, hb⟩
    have hko' : lk s'.ob k = some o := hko
    have hb' : blk (upd β K c k) = some b := hb
    rw [hlk] at hko'
    by_cases e1 : K = k
    · subst e1; rw [upd_self] at hb'; exact .inr (.inl hb')
    · rw [if_neg e1] at hko'
      rw [upd_ne _ _ (Ne.symm e1)] at hb'
      by_cases e2 : ky = k
      · subst e2; exact .inl ⟨ky, _, ho, rfl, hb'⟩
      · rw [if_neg e2] at hko'; exact .inl ⟨k, o, hko', hl, hb'⟩
  have hstx : stOEs xs = true := stObs_lk hso ho (by simp)
  obtain ⟨q1, pre, post, q2, q3⟩ := setEs (M' := (s'.en w w0.arg (upd β K c)).M) hX hB hM xs 0 i j E _ (.v c) hE hj hstx h6 hndE c hc' hXfp (by simp only [Rd]; exact ⟨trivial, hd.one⟩)
  have hq3 : fpEs w z (xs.set i (E.set j (.v c))) g 0 = pre ++ post := by rw [q3]; simp [fp]
  rw [q2] at hgn hndE
  have hsome' : ∀ k, (lk s.ob k).isSome = true → (lk s'.ob k).isSome = true ∧ upd β K c k = β k := by
    intro k h
    have hne : K ≠ k := fun e => by subst e; rw [hKn] at h; cases h
    refine ⟨?_, upd_ne _ _ (Ne.symm hne)⟩
    rw [hlk, if_neg hne]
    split
    · rfl
    · exact h
  have hcst : ∀ cc v, stC cc = true → CRel (s.en w w0.arg β) cc v → CRel (s'.en w w0.arg (upd β K c)) cc v := fun cc v hs h =>
    CRel.st (en := s.en w w0.arg β) (en' := s'.en w w0.arg (upd β K c)) (X := X) hX hB rfl hM hsome' hs h
  have hndall : (pre ++ (fp w (.own e' z' ys) c ++ post)).Nodup := hndE
  obtain ⟨n1, n23, nd1⟩ := List.nodup_append.1 hndall
  obtain ⟨n2, n3, nd2⟩ := List.nodup_append.1 n23
  have hfpK : obFp (s'.en w w0.arg (upd β K c)) K = fp w (.own e' z' ys) c := by
    have : (s'.en w w0.arg (upd β K c)).ob K = some (.arr e' z' ys) := by show lk s'.ob K = _; rw [hlk, if_pos rfl]
    rw [obFp_arr this]; show fp w _ (upd β K c K) = _; rw [upd_self]
  have hfpky : obFp (s'.en w w0.arg (upd β K c)) ky = g :: (pre ++ post) := by
    have : (s'.en w w0.arg (upd β K c)).ob ky = some (.arr e z (xs.set i (E.set j (.v c)))) := by show lk s'.ob ky = _; rw [hlk, if_neg hKky, if_pos rfl]
    rw [obFp_arr this]; show fp w _ (upd β K c ky) = _
    rw [upd_ne _ _ (Ne.symm hKky), h1, fp_own_some, hq3]
  have hfpo2 : obFp (s.en w w0.arg β) ky = g :: (pre ++ (fp w (.own e' z' ys) c ++ post)) := by rw [hfpe, q2]
  have hold : ∀ k, K ≠ k → ky ≠ k → ∀ o, lk s.ob k = some o → ObRel (s'.en w w0.arg (upd β K c)) k o ∧ ((s'.en w w0.arg (upd β K c)).ob k = some o → obFp (s'.en w w0.arg (upd β K c)) k = obFp (s.en w w0.arg β) k) := by
    intro k e1 e2 o hko
    refine ObRel.st (en := s.en w w0.arg β) (en' := s'.en w w0.arg (upd β K c)) (X := X) hX hB rfl hM hcst (hsome' k (by rw [hko]; rfl)).2 hko (stObs_lk hso hko (by simp)) (fun b hb => ⟨obFp_lt (en := s.en w w0.arg β) (fun o ho => R.ob k o ho) b hb, fun hx => ?_⟩) (R.ob k o hko)
    exact R.dj k ky (Ne.symm e2) b hb (by rw [hfpe]; exact List.mem_cons_of_mem _ (hpart b (hXfp b hx)))
  have hcase : ∀ k, k = K ∨ k = ky ∨ (K ≠ k ∧ ky ≠ k ∧ obFp (s'.en w w0.arg (upd β K c)) k = obFp (s.en w w0.arg β) k) := by
    intro k
    by_cases e1 : K = k
    · exact .inl e1.symm
    · by_cases e2 : ky = k
      · exact .inr (.inl e2.symm)
      · refine .inr (.inr ⟨e1, e2, ?_⟩)
        have hkk : lk s'.ob k = lk s.ob k := by rw [hlk, if_neg e1, if_neg e2]
        cases hko : lk s.ob k with
        | none => simp [obFp, St.en, hko, hkk]
        | some o => exact (hold k e1 e2 o hko).2 (by show lk s'.ob k = _; rw [hkk, hko])
  have hsub : ∀ k, k = K ∨ k = ky → ∀ b ∈ obFp (s'.en w w0.arg (upd β K c)) k, b ∈ obFp (s.en w w0.arg β) ky := by
    rintro k (rfl | rfl) b hb
    · rw [hfpK] at hb; rw [hfpo2]; simp [hb]
    · rw [hfpky] at hb; rw [hfpo2]
      rcases List.mem_cons.1 hb with rfl | hb
      · simp
      · rcases List.mem_append.1 hb with hb | hb <;> simp [hb]
  have R' : Rel N w0 s' a w (upd β K c) := by
    refine ⟨R.sz, R.df, fun t f h => FVRel.st hcst f _ (stTm_lk hst h) (R.tm t f h), ?_, ?_, ?_, ?_, R.low, fun k c' hk => ?_⟩
    · intro k o hko
      have hko' : lk s'.ob k = some o := hko
      rw [hlk] at hko'
      by_cases e1 : K = k
      · subst e1
        rw [if_pos rfl] at hko'
        simp only [Option.some.injEq] at hko'; subst hko'
        show OwnRel w w0.arg _ e' z' ys (upd β K c K)
        rw [upd_self]
        have hd0 := hd
        simp only [Rd] at hd
        rcases hd with hd | ⟨b, cap', cur', hcv, g1, g2, g3, g4, g5, g6⟩
        · exact .inl hd
        · refine .inr ⟨b, cap', cur', hcv, g1, g3, g4, g5, RdEs.free ys 0 hf g6 fun y hy hMy => ?_⟩
          have hyF : y ∈ fp w (.own e' z' ys) c := by rw [hcv, fp_own_some]; exact List.mem_cons_of_mem _ hy
          obtain ⟨k', o', hk', hl', hb'⟩ := hMy
          have hk'' : lk s'.ob k' = some o' := hk'
          have hb'' : blk (upd β K c k') = some y := hb'
          rw [hlk] at hk''
          by_cases e1 : K = k'
          · subst e1
            rw [upd_self, hcv] at hb''
            simp [blk] at hb''; subst hb''
            rw [hcv, fp_own_some] at n2
            exact (List.nodup_cons.1 n2).1 hy
          · rw [upd_ne _ _ (Ne.symm e1)] at hb''
            by_cases e2 : ky = k'
            · subst e2
              rw [h1] at hb''
              simp [blk] at hb''; subst hb''
              exact hgn (by simp [hyF])
            · rw [if_neg e1, if_neg e2] at hk''
              exact R.dj k' ky (Ne.symm e2) y (R.live_block hk'' hl' hb'') (by rw [hfpo2]; simp [hyF])
      · rw [if_neg e1] at hko'
        by_cases e2 : ky = k
        · subst e2
          rw [if_pos rfl] at hko'
          simp only [Option.some.injEq] at hko'; subst hko'
          show OwnRel w w0.arg _ e z _ (upd β K c ky)
          rw [upd_ne _ _ (Ne.symm hKky)]
          refine .inr ⟨g, cap, cur, by rw [List.length_set]; exact h1, by rw [List.length_set]; exact h2, h3, h4, h5, q1⟩
        · rw [if_neg e2] at hko'
          exact (hold k e1 e2 o hko').1
    · intro k
      rcases hcase k with rfl | rfl | ⟨_, _, h⟩
      · rw [hfpK]; exact n2
      · rw [hfpky]
        refine List.nodup_cons.2 ⟨fun h => hgn ?_, List.nodup_append.2 ⟨n1, n3, fun x hx y hy => nd1 x hx y (by simp [hy])⟩⟩
        rcases List.mem_append.1 h with h | h <;> simp [h]
      · rw [h]; exact R.nd k
    · intro k k' hne b hb hb'
      rcases hcase k with hk | hk | ⟨e1, e2, h⟩
      · subst hk
        rcases hcase k' with hk' | hk' | ⟨e1', e2', h'⟩
        · exact hne hk'.symm
        · subst hk'
          rw [hfpK] at hb; rw [hfpky] at hb'
          rcases List.mem_cons.1 hb' with rfl | hb'
          · exact hgn (by simp [hb])
          · rcases List.mem_append.1 hb' with hb' | hb'
            · exact nd1 b hb' b (by simp [hb]) rfl
            · exact nd2 b hb b hb' rfl
        · rw [h'] at hb'
          exact R.dj k' ky (Ne.symm e2') b hb' (hsub k (.inl rfl) b hb)
      · subst hk
        rcases hcase k' with hk' | hk' | ⟨e1', e2', h'⟩
        · subst hk'
          rw [hfpky] at hb; rw [hfpK] at hb'
          rcases List.mem_cons.1 hb with rfl | hb
          · exact hgn (by simp [hb'])
          · rcases List.mem_append.1 hb with hb | hb
            · exact nd1 b hb b (by simp [hb']) rfl
            · exact nd2 b hb' b hb rfl
        · exact hne hk'.symm
        · rw [h'] at hb'
          exact R.dj k' k (Ne.symm e2') b hb' (hsub k (.inr rfl) b hb)
      · rw [h] at hb
        rcases hcase k' with hk' | hk' | ⟨e1', e2', h'⟩
        · exact R.dj k ky (Ne.symm e2) b hb (hsub k' (.inl hk') b hb')
        · exact R.dj k ky (Ne.symm e2) b hb (hsub k' (.inr hk') b hb')
        · rw [h'] at hb'; exact R.dj k k' hne b hb hb'
    · intro k b hb
      rcases hcase k with hk | hk | ⟨_, _, h⟩
      · exact R.ge ky b (hsub k (.inl hk) b hb)
      · exact R.ge ky b (hsub k (.inr hk) b hb)
      · rw [h] at hb; exact R.ge k b hb
    · obtain ⟨f1, f2⟩ := R.fx k c' hk
      exact ⟨(hsome' k f1).1, ((hsome' k f1).2).trans f2⟩
  have := R'.named (K := K) (by rw [hlk, if_pos rfl]; rfl)
  rw [upd_self] at this
  exact this

theorem Rel.in (R : Rel N w0 s a w β) {ky K i j e z e' z' : Nat} {xs ys : List (List D)} {E : List D} {c : Value} (hK : lk s.ob K = some (.arr e' z' ys)) (hc : β K = c) (ho : lk s.ob ky = some (.arr e z xs)) (hE : xs[i]? = some E) (hj : E[j]? = some (.v c))
    (hne : ky ≠ K) (hsx : stOEs xs = true) : Rel N w0 ⟨s.tm, (ky, .arr e z (xs.set i (E.set j (.own e' z' ys)))) :: (K, .dead) :: s.ob⟩ a w β := by
  let s' : St := ⟨s.tm, (ky, .arr e z (xs.set i (E.set j (.own e' z' ys)))) :: (K, .dead) :: s.ob⟩
  have hlk : ∀ k, lk s'.ob k = if ky = k then some (.arr e z (xs.set i (E.set j (.own e' z' ys)))) else if K = k then some .dead else lk s.ob k := by intro k; simp only [s', lk_cons]
  have hr : OwnRel w w0.arg (s.en w w0.arg β).M e z xs (β ky) := R.ob ky _ ho
  rcases hr with ⟨rfl, _⟩ | ⟨g, cap, cur, h1, h2, h3, h4, h5, h6⟩
  · simp at hE
  have hfpe : obFp (s.en w w0.arg β) ky = g :: fpEs w z xs g 0 := by rw [obFp_arr (en := s.en w w0.arg β) ho]; show fp w _ (β ky) = _; rw [h1, fp_own_some]
  have hfpK : obFp (s.en w w0.arg β) K = fp w (.own e' z' ys) c := by rw [obFp_arr (en := s.en w w0.arg β) hK]; show fp w _ (β K) = _; rw [hc]
  have hM : ∀ b, (s'.en w w0.arg β).M b → (s.en w w0.arg β).M b ∧ ∃ k, k ≠ K ∧ b ∈ obFp (s.en w w0.arg β) k := by
    rintro b ⟨k, o, hko, hl, hb⟩
    have hko' : lk s'.ob k = some o := hko
    have hb' : blk (β k) = some b := hb
    rw [hlk] at hko'
    split at hko'
    · rename_i e1; subst e1
      exact ⟨⟨ky, _, ho, rfl, hb'⟩, ky, hne, R.live_block ho rfl hb'⟩
    · split at hko'
      · simp only [Option.some.injEq] at hko'; subst hko'; simp [Ob.live] at hl
      · rename_i e1 e2; exact ⟨⟨k, o, hko', hl, hb'⟩, k, Ne.symm e2, R.live_block hko' hl hb'⟩
  have S : Step (s.en w w0.arg β) (s'.en w w0.arg β) := by
    refine ⟨rfl, ⟨Nat.le_refl _, fun _ _ _ => rfl, fun b hb => .inl (hM b hb).1⟩, fun k hk => ⟨?_, rfl⟩⟩
    show (lk s'.ob k).isSome = true
    rw [hlk]
    split
    · rfl
    · split
      · rfl
      · exact hk
  obtain ⟨_, hEr⟩ := RdEs.get i xs 0 E h6 hE
  obtain ⟨c', hcell, hcv⟩ := getCs hEr hj
  have hcc : c' = c := by simp only [Rd] at hcv; exact hcv.1
  subst hcc
  have hown : Rd w w0.arg (s'.en w w0.arg β).M (.own e' z' ys) c' := by
    have hr : OwnRel w w0.arg (s.en w w0.arg β).M e' z' ys (β K) := R.ob K _ hK
    rw [hc] at hr
    simp only [Rd]
    rcases hr with hr | ⟨b, cap', cur', g1, g2, g3, g4, g5, g6⟩
    · exact .inl hr
    · refine .inr ⟨b, cap', cur', g1, g2, fun hm => ?_, g3, g4, g5, RdEs.keep ⟨Nat.le_refl _, fun _ _ _ => rfl, fun b hb => .inl (hM b hb).1⟩ (fun _ => rfl) ys 0 g6⟩
      obtain ⟨_, k, hk, hbk⟩ := hM b hm
      exact R.dj k K hk b hbk (by rw [hfpK, g1, fp_own_some]; exact List.mem_cons_self ..)
  have hndk : (g :: fpEs w z xs g 0).Nodup := hfpe ▸ R.nd ky
  obtain ⟨hgn, hndE⟩ := List.nodup_cons.1 hndk
  obtain ⟨q1, pre, post, q2, q3⟩ := setEs (B := w0.arg) (M := (s.en w w0.arg β).M) (M' := (s'.en w w0.arg β).M) (X := fun _ => False) ⟨Nat.le_refl _, fun _ _ _ => rfl, fun _ h => h.elim⟩ (fun _ _ => not_false) (fun b hb => .inl (hM b hb).1) xs 0 i j E (.v c') (.own e' z' ys) hE hj hsx h6 hndE c' hcell (fun _ h => h.elim) hown
  have hq2 : fpEs w z xs g 0 = pre ++ post := by rw [q2]; simp [fp]
  have hfpn : obFp (s'.en w w0.arg β) ky = g :: (pre ++ (fp w (.own e' z' ys) c' ++ post)) := by
    have : (s'.en w w0.arg β).ob ky = some (.arr e z (xs.set i (E.set j (.own e' z' ys)))) := by show lk s'.ob ky = _; rw [hlk, if_pos rfl]
    rw [obFp_arr this]; show fp w _ (β ky) = _; rw [h1, fp_own_some, q3]
  have hfpd : obFp (s'.en w w0.arg β) K = [] := obFp_dead (en := s'.en w w0.arg β) (by show lk s'.ob K = _; rw [hlk, if_neg hne, if_pos rfl])
  rw [hq2] at hgn hndE
  obtain ⟨n1, n2, n3⟩ := List.nodup_append.1 hndE
  have hfpe2 : obFp (s.en w w0.arg β) ky = g :: (pre ++ post) := by rw [hfpe, hq2]
  have hdj : ∀ b, b ∈ fp w (.own e' z' ys) c' → b ∉ g :: (pre ++ post) := fun b hb hb' => R.dj K ky (Ne.symm hne) b (by rw [hfpK]; exact hb) (by rw [hfpe2]; exact hb')
  refine R.update S (Low.refl _ _) [ky, K] ?_ ?_ ?_ ?_ R.sz R.df (R.tm_step rfl S)
  · intro k hk
    simp only [List.mem_cons, List.not_mem_nil, or_false, not_or] at hk
    exact ⟨by show lk s'.ob k = _; rw [hlk, if_neg (Ne.symm hk.1), if_neg (Ne.symm hk.2)], fun _ _ _ _ _ => rfl⟩
  · intro k hk o hko
    have hko' : lk s'.ob k = some o := hko
    rw [hlk] at hko'
    simp only [List.mem_cons, List.not_mem_nil, or_false] at hk
    rcases hk with rfl | rfl
    · rw [if_pos rfl] at hko'
      simp only [Option.some.injEq] at hko'; subst hko'
      exact .inr ⟨g, cap, cur, by rw [List.length_set]; exact h1, by rw [List.length_set]; exact h2, h3, h4, h5, q1⟩
    · rw [if_neg hne, if_pos rfl] at hko'
      simp only [Option.some.injEq] at hko'; subst hko'; trivial
  · intro k hk
    simp only [List.mem_cons, List.not_mem_nil, or_false] at hk
    rcases hk with rfl | rfl
    · rw [hfpn]
      have hFn : (fp w (.own e' z' ys) c').Nodup := hfpK ▸ R.nd K
      refine List.nodup_cons.2 ⟨fun h => ?_, List.nodup_append.2 ⟨n1, List.nodup_append.2 ⟨hFn, n2, fun x hx y hy e => hdj x hx (by subst e; simp [hy])⟩, fun x hx y hy e => ?_⟩⟩
      · rcases List.mem_append.1 h with h | h
        · exact hgn (by simp [h])
        · rcases List.mem_append.1 h with h | h
          · exact hdj g h (by simp)
          · exact hgn (by simp [h])
      · subst e
        rcases List.mem_append.1 hy with hy | hy
        · exact hdj x hy (by simp [hx])
        · exact n3 x hx x hy rfl
    · rw [hfpd]; exact List.nodup_nil
  · intro k hk b hb
    simp only [List.mem_cons, List.not_mem_nil, or_false] at hk
    rcases hk with rfl | rfl
    · rw [hfpn] at hb
      have hbb : b ∈ obFp (s.en w w0.arg β) k ∨ b ∈ obFp (s.en w w0.arg β) K := by
        rw [hfpe2, hfpK]
        rcases List.mem_cons.1 hb with rfl | hb
        · simp
        · rcases List.mem_append.1 hb with hb | hb
          · simp [hb]
          · rcases List.mem_append.1 hb with hb | hb <;> simp [hb]
      refine ⟨hbb.elim (R.ge _ b) (R.ge _ b), fun k' hk' hm => ?_, fun k' hk' hne' hm => ?_⟩
      · simp only [List.mem_cons, List.not_mem_nil, or_false, not_or] at hk'
        exact hbb.elim (fun h => R.dj k k' (Ne.symm hk'.1) b h hm) (fun h => R.dj K k' (Ne.symm hk'.2) b h hm)
      · simp only [List.mem_cons, List.not_mem_nil, or_false] at hk'
        rcases hk' with rfl | rfl
        · exact hne' rfl
        · rw [hfpd] at hm; cases hm
    · rw [hfpd] at hb; cases hb

/-! ### the two steps in the code -/

theorem J.out {F : Fn} {r : Res} {fn : Func} {k : List It} {ky K i j e z e' z' : Nat} {xs ys : List (List D)} {E : List D} (hw : w0.ok64) (ho : lk s.ob ky = some (.arr e z xs)) (hE : xs[i]? = some E) (hj : E[j]? = some (.own e' z' ys)) (hf : freshEs ys = true)
    (hKn : lk s.ob K = none) (h64 : 64 ≤ K) (hK : ∀ p ∈ r.outs, p.1 ≠ K) (hst : stTm s.tm = true) (hso : stObs [] s.ob = true)
    (h : ∀ c, J F.P F.N (w0.named K c) (F.post (w0.named K c) r fn) k ⟨s.tm, (K, .arr e' z' ys) :: (ky, .arr e z (xs.set i (E.set j (.v c)))) :: s.ob⟩) : J F.P F.N w0 (F.post w0 r fn) k s := by
  intro a w β R
  have hf0 : w0.fix K = none := by
    cases hf : w0.fix K with
    | none => rfl
    | some c => have := hw K c hf; omega
  obtain ⟨c, R'⟩ := R.out ho hE hj hf hKn hst hso
  exact cont_weaken (fun e a w h => post_named hK h) (fun s a w β h => Rel.unnamed hf0 h) k .normal a w (h c a w _ R')

theorem J.in {Q : Exit → Act → World → Prop} {k : List It} {ky K i j e z e' z' : Nat} {xs ys : List (List D)} {E : List D} {c : Value} (hK : lk s.ob K = some (.arr e' z' ys)) (ho : lk s.ob ky = some (.arr e z xs)) (hE : xs[i]? = some E) (hj : E[j]? = some (.v c))
    (hne : ky ≠ K) (hsx : stOEs xs = true) (h : J P N (w0.named K c) Q k ⟨s.tm, (ky, .arr e z (xs.set i (E.set j (.own e' z' ys)))) :: (K, .dead) :: s.ob⟩) : J P N (w0.named K c) Q k s := by
  intro a w β R
  have hc : β K = c := (R.fx K c (by show (if K = K then some c else w0.fix K) = some c; rw [if_pos rfl])).2
  exact h a w β (R.in hK hc ho hE hj hne hsx)

/-- A handle with a name, as an argument. -/
theorem CallW.name {Q : Exit → Act → World → Prop} {k : List It} {d f K : Nat} {c : Value} {fs : List FV} (hK : (lk s.ob K).isSome = true) (h : CallW P N (w0.named K c) Q k s d f (.c (.ob K) :: fs)) : CallW P N (w0.named K c) Q k s d f (.c (.d (.v c)) :: fs) := by
  refine ⟨h.1, fun a w β R vs hv => h.2 a w β R vs ?_⟩
  obtain ⟨v, q, rfl, h1, h2⟩ := hv
  have hc : β K = c := (R.fx K c (by show (if K = K then some c else w0.fix K) = some c; rw [if_pos rfl])).2
  simp only [FVRel, CRel, Rd] at h1
  exact ⟨v, q, rfl, by simp only [FVRel, CRel]; exact ⟨hK, h1.2.2.1.trans hc.symm, h1.2.1⟩, h2⟩

end Go.Sm

namespace Go.Sm
open Go.RowKit

attribute [simp] argXC argXCs argXF argsX cellsF ownKeys stC stF stFs stOb stTm stObs keysOk keyAt outObs deads nodupB argTmX stA stACs stAEs stO stOCs stOEs

@[simp] theorem argEs_map {α : Type} (f : α → List D) (xs : List α) : argEs (xs.map f) = xs.map fun x => argCs (f x) := by induction xs <;> simp [argEs, *]
@[simp] theorem locEs_map {α : Type} (f : α → List D) (xs : List α) : locEs (xs.map f) = xs.map fun x => locCs (f x) := by induction xs <;> simp [locEs, *]
@[simp] theorem freshEs_map {α : Type} (f : α → List D) (xs : List α) : freshEs (xs.map f) = xs.all fun x => freshCs (f x) := by induction xs <;> simp [freshEs, *]
@[simp] theorem stAEs_map {α : Type} (f : α → List D) (xs : List α) : stAEs (xs.map f) = xs.all fun x => stACs (f x) := by induction xs <;> simp [stAEs, *]
@[simp] theorem stOEs_map {α : Type} (f : α → List D) (xs : List α) : stOEs (xs.map f) = xs.all fun x => stOCs (f x) := by induction xs <;> simp [stOEs, *]
@[simp] theorem okNo_map {α : Type} (f : α → List D) (xs : List α) : okNo (xs.map f) = xs.all fun x => okNoC (f x) := by induction xs <;> simp [okNo, *]

@[simp] theorem all_tt {α : Type} (xs : List α) : (xs.all fun _ => true) = true := by simp

abbrev ints (xs : List Int) : List (List D) := xs.map fun i => [.v (.int .i64 i)]
abbrev vInts (xs : List Int) : D := .vw true 1 (ints xs)
abbrev oInts (xs : List Int) : D := .own 2 1 (ints xs)
abbrev vIntss (xss : List (List Int)) : D := .vw true 1 (xss.map fun xs => [vInts xs])
abbrev oIntss (xss : List (List Int)) : D := .own 25 1 (xss.map fun xs => [oInts xs])
abbrev i64 (n : Int) : D := .v (.int .i64 n)
abbrev bo (b : Bool) : D := .v (.bool b)

theorem mixed : Go.Proofs.Try.prog.follows .mixedOrders = true := by kernel_rfl

theorem wrap64 {x : Int} (h1 : -9223372036854775808 ≤ x) (h2 : x < 9223372036854775808) : IntKind.i64.wrap x = x := by
  have : IntKind.i64.wrap x = if x % 18446744073709551616 ≥ 9223372036854775808 then x % 18446744073709551616 - 18446744073709551616 else x % 18446744073709551616 := by
    simp [IntKind.wrap, IntKind.bits, IntKind.signed]
  rw [this]; split <;> omega
theorem wrapS {i n : Nat} (h : i < n) (hn : n < 4611686018427387904) : IntKind.i64.wrap ((i : Int) + 1) = ((i + 1 : Nat) : Int) := by rw [wrap64] <;> omega
theorem drop_cons {α : Type} {xs : List α} {i : Nat} {x : α} (h : xs[i]? = some x) : xs.drop i = x :: xs.drop (i + 1) := by
  obtain ⟨h1, rfl⟩ := List.getElem?_eq_some_iff.1 h
  exact List.drop_eq_getElem_cons h1

theorem fnOk (N : Nat) (rs : List ResultVar) : FnOk ⟨Go.Proofs.Try.prog, tab, etab, N, rs⟩ := ⟨tab_ok, etab_ok⟩

end Go.Sm

namespace Go.Sm
open Go.RowKit

variable {P : Program} {N : Nat} {w0 : Base} {s : St} {a : Act} {w w' : World} {β : Nat → Value}

/-- A cell that goes into the new array: data, or an array whose key is given up. -/
def MvR (en : En) (ks : List Nat) : D → Value → Prop
  | .own e z xs, u => ∃ K ∈ ks, en.ob K = some (.arr e z xs) ∧ u = en.β K
  | x, u => Rd en.w en.B en.M x u

theorem Rel.addArrG (R : Rel N w0 s a w β) {k e z cap : Nat} {es : List (List D)} {vs : List Value} {cur : Array Value} {ks : List Nat} (hk : lk s.ob k = none) (hkn : ks.Nodup) (hks : ∀ K ∈ ks, (lk s.ob K).isSome = true)
    (hv : EsV (MvR (s.en w w0.arg β) ks) z es vs) (hfp : fpVs w z es vs = ks.flatMap (obFp (s.en w w0.arg β)))
    (h1 : es.length ≤ cap) (h2 : cap ≤ maxLen) (h3 : cur.size = cap * z) (hc : cur.toList.take (es.length * z) = vs) :
    Rel N w0 ⟨s.tm, (k, .arr e z es) :: (deads ks ++ s.ob)⟩ a (w.alloc (.cells cur e)) (upd β k (.slice (some ⟨w.heap.size, 0, none⟩) es.length cap)) := by
  let s' : St := ⟨s.tm, (k, .arr e z es) :: (deads ks ++ s.ob)⟩
  let β' := upd β k (.slice (some ⟨w.heap.size, 0, none⟩) es.length cap)
  have hkk : k ∉ ks := fun h => by have := hks k h; rw [hk] at this; cases this
  have hlk : ∀ j, lk s'.ob j = if k = j then some (.arr e z es) else if j ∈ ks then some .dead else lk s.ob j := by
    intro j; simp only [s', lk_cons, deads_lk]
  have hM : ∀ b, (s'.en (w.alloc (.cells cur e)) w0.arg β').M b → b = w.heap.size ∨ ((s.en w w0.arg β).M b ∧ ∃ j, j ∉ ks ∧ b ∈ obFp (s.en w w0.arg β) j) := by
    rintro b ⟨j, o, ho, hl, hb⟩
    have ho' : lk s'.ob j = some o := ho
    have hb' : blk (upd β k (.slice (some ⟨w.heap.size, 0, none⟩) es.length cap) j) = some b := hb
    rw [hlk] at ho'
    by_cases e1 : k = j
    · subst e1; rw [upd_self] at hb'; simp [blk] at hb'; exact .inl hb'.symm
    · rw [if_neg e1] at ho'
      rw [upd_ne _ _ (Ne.symm e1)] at hb'
      by_cases e2 : j ∈ ks
      · rw [if_pos e2] at ho'; simp only [Option.some.injEq] at ho'; subst ho'; simp [Ob.live] at hl
      · rw [if_neg e2] at ho'
        exact .inr ⟨⟨j, o, ho', hl, hb'⟩, j, e2, R.live_block ho' hl hb'⟩
  have hlt : ∀ j, ∀ b ∈ obFp (s.en w w0.arg β) j, b < w.heap.size := fun j => obFp_lt (en := s.en w w0.arg β) fun o ho => R.ob j o ho
  have hmem : ∀ b, (s'.en (w.alloc (.cells cur e)) w0.arg β').M b → (s.en w w0.arg β).M b ∨ w.heap.size ≤ b := fun b hb => (hM b hb).elim (fun h => .inr (by omega)) (fun h => .inl h.1)
  have S : Step (s.en w w0.arg β) (s'.en (w.alloc (.cells cur e)) w0.arg β') := by
    refine ⟨rfl, ⟨by simp [St.en], fun b hb _ => heap_alloc_old w _ b hb, hmem⟩, fun j hj => ?_⟩
    have hne : k ≠ j := fun e1 => by subst e1; have hj' : (lk s.ob k).isSome = true := hj; rw [hk] at hj'; cases hj'
    refine ⟨?_, upd_ne _ _ (Ne.symm hne)⟩
    show (lk s'.ob j).isSome = true
    rw [hlk, if_neg hne]
    split
    · rfl
    · exact hj
  have K0 : Keeps w w (s.en w w0.arg β).M (s'.en (w.alloc (.cells cur e)) w0.arg β').M → True := fun _ => trivial
  -- in the old world, what goes in reads well
  have hv' : EsV (Rd (w.alloc (.cells cur e)) w0.arg (s'.en (w.alloc (.cells cur e)) w0.arg β').M) z es vs := by
    refine hv.mono fun x u h => ?_
    cases x with
    | own e' z' xs =>
      obtain ⟨K, hKs, hKo, rfl⟩ := h
      have hr : OwnRel w w0.arg (s.en w w0.arg β).M e' z' xs (β K) := R.ob K _ hKo
      have hfpK := obFp_arr hKo
      have hr2 : OwnRel (w.alloc (.cells cur e)) w0.arg (s'.en (w.alloc (.cells cur e)) w0.arg β').M e' z' xs (β K) :=
        OwnRel.step S.K (fun b hb => heap_alloc_old w _ b (hlt K b (R.live_block hKo rfl hb))) hr
      show Rd _ _ _ _ (β K)
      simp only [Rd]
      rcases hr2 with hr2 | ⟨b, cap', cur', g1, g2, g3, g4, g5, g6⟩
      · exact .inl hr2
      · refine .inr ⟨b, cap', cur', g1, g2, fun hm => ?_, g3, g4, g5, g6⟩
        have hbK : b ∈ obFp (s.en w w0.arg β) K := R.live_block hKo rfl (by rw [g1]; rfl)
        rcases hM b hm with rfl | ⟨_, j, hj, hbj⟩
        · exact Nat.lt_irrefl _ (hlt K _ hbK)
        · exact R.dj K j (fun e => hj (e ▸ hKs)) b hbK hbj
    | v y => exact Rd.keep S.K (.v y) u h
    | vw b z' xs => exact Rd.keep S.K (.vw b z' xs) u h
    | mp xs => exact Rd.keep S.K (.mp xs) u h
  have hcell : ∀ (j : Nat) (u : Value), vs[j]? = some u → (w.alloc (.cells cur e)).cell? ⟨w.heap.size, 0 + j, none⟩ = some u := by
    intro j u hj
    rw [Nat.zero_add, World.cell?_alloc_new]
    rw [← hc, List.getElem?_take] at hj
    split at hj
    · simpa using hj
    · cases hj
  have hvM : EsV (Rd w w0.arg fun _ => False) z es vs := by
    refine hv.mono fun x u h => ?_
    have KF : Keeps w w (s.en w w0.arg β).M (fun _ => False) := ⟨Nat.le_refl _, fun _ _ _ => rfl, fun _ h => h.elim⟩
    cases x with
    | own e' z' xs =>
      obtain ⟨K, hKs, hKo, rfl⟩ := h
      have hr : OwnRel w w0.arg (s.en w w0.arg β).M e' z' xs (β K) := R.ob K _ hKo
      show Rd _ _ _ _ (β K)
      simp only [Rd]
      rcases hr with hr | ⟨b, cap', cur', g1, g2, g3, g4, g5, g6⟩
      · exact .inl hr
      · exact .inr ⟨b, cap', cur', g1, g2, not_false, g3, g4, g5, RdEs.keep KF (fun _ => rfl) xs 0 g6⟩
    | v y => exact Rd.keep KF (.v y) u h
    | vw b z' xs => exact Rd.keep KF (.vw b z' xs) u h
    | mp xs => exact Rd.keep KF (.mp xs) u h
  have hfpn : obFp (s'.en (w.alloc (.cells cur e)) w0.arg β') k = w.heap.size :: ks.flatMap (obFp (s.en w w0.arg β)) := by
    have : (s'.en (w.alloc (.cells cur e)) w0.arg β').ob k = some (.arr e z es) := by show lk s'.ob k = _; rw [hlk, if_pos rfl]
    rw [obFp_arr this]
    show fp _ _ (upd β k _ k) = _
    rw [upd_self, fp_own_some]
    show w.heap.size :: fpEs (w.alloc (.cells cur e)) z es w.heap.size 0 = _
    rw [fpEs_vals es vs 0 hv hcell, fpVs_keep (w := w) (B := w0.arg) (M := fun _ => False) (M' := fun _ => False) ⟨by simp, fun b hb _ => heap_alloc_old w _ b hb, fun _ h => h.elim⟩ hvM, hfp]
  have hfpd : ∀ j ∈ ks, obFp (s'.en (w.alloc (.cells cur e)) w0.arg β') j = [] := fun j hj =>
    obFp_dead (en := s'.en (w.alloc (.cells cur e)) w0.arg β') (by show lk s'.ob j = _; rw [hlk, if_neg (fun e1 : k = j => hkk (e1 ▸ hj)), if_pos hj])
  refine R.update S (Low.of ((Bel.refl _ _).alloc R.base_le _)) (k :: ks) ?_ ?_ ?_ ?_ R.sz R.df (R.tm_step rfl S)
  · intro j hj
    simp only [List.mem_cons, not_or] at hj
    refine ⟨by show lk s'.ob j = _; rw [hlk, if_neg (Ne.symm hj.1), if_neg hj.2], fun o ho hl b hb => heap_alloc_old w _ b (hlt j b (R.live_block ho hl hb))⟩
  · intro j hj o ho
    have ho' : lk s'.ob j = some o := ho
    rw [hlk] at ho'
    rcases List.mem_cons.1 hj with rfl | hj
    · rw [if_pos rfl] at ho'
      simp only [Option.some.injEq] at ho'; subst ho'
      refine .inr ⟨w.heap.size, cap, cur, by show upd β j _ j = _; rw [upd_self], h1, heap_alloc_new w _, h2, h3, RdEs.ofV hv' hcell⟩
    · rw [if_neg (fun e1 : k = j => hkk (e1 ▸ hj)), if_pos hj] at ho'
      simp only [Option.some.injEq] at ho'; subst ho'; trivial
  · intro j hj
    rcases List.mem_cons.1 hj with rfl | hj
    · rw [hfpn]
      refine List.nodup_cons.2 ⟨fun h => ?_, nodup_obFp R hkn⟩
      obtain ⟨K, _, hb⟩ := List.mem_flatMap.1 h
      exact Nat.lt_irrefl _ (hlt K _ hb)
    · rw [hfpd j hj]; exact List.nodup_nil
  · intro j hj b hb
    rcases List.mem_cons.1 hj with rfl | hj
    · rw [hfpn] at hb
      rcases List.mem_cons.1 hb with rfl | hb
      · refine ⟨.inl R.base_le, fun j' _ hm => Nat.lt_irrefl _ (hlt j' _ hm), fun j' hj' hne hm => ?_⟩
        rcases List.mem_cons.1 hj' with rfl | hj'
        · exact hne rfl
        · rw [hfpd j' hj'] at hm; cases hm
      · obtain ⟨K, hK, hbK⟩ := List.mem_flatMap.1 hb
        refine ⟨R.ge K b hbK, fun j' hj' hm => ?_, fun j' hj' hne hm => ?_⟩
        · simp only [List.mem_cons, not_or] at hj'
          exact R.dj K j' (fun e1 => hj'.2 (e1 ▸ hK)) b hbK hm
        · rcases List.mem_cons.1 hj' with rfl | hj'
          · exact hne rfl
          · rw [hfpd j' hj'] at hm; cases hm
    · rw [hfpd j hj] at hb; cases hb

/-! ### the literal -/

def mvCs (ob : Nat → Option Ob) : List C → Option (List D × List Nat)
  | [] => some ([], [])
  | .d x :: r => match mvCs ob r with
    | some (e, ks) => some (x :: e, ks)
    | none => none
  | .ob K :: r => match ob K, mvCs ob r with
    | some (.arr e z xs), some (es, ks) => some (.own e z xs :: es, K :: ks)
    | _, _ => none
  | _ => none
def mvEs (ob : Nat → Option Ob) (z : Nat) : Nat → List (Nat × List C) → Option (List (List D) × List Nat)
  | _, [] => some ([], [])
  | i, (j, cs) :: r => match Nat.beq i j && Nat.beq cs.length z, mvCs ob cs, mvEs ob z (i + 1) r with
    | true, some (e, ks), some (es, ks') => some (e :: es, ks ++ ks')
    | _, _, _ => none

theorem MvR.more {en : En} {ks ks' : List Nat} (h : ∀ k ∈ ks, k ∈ ks') {x : D} {u : Value} (hx : MvR en ks x u) : MvR en ks' x u := by
  cases x with
  | own e z xs => obtain ⟨K, h1, h2⟩ := hx; exact ⟨K, h K h1, h2⟩
  | _ => exact hx

theorem mvCs_rel (R : Rel N w0 s a w β) : ∀ {cs : List C} {vs : List Value} {ds : List D} {ks : List Nat}, CsRel (s.en w w0.arg β) cs vs → mvCs (lk s.ob) cs = some (ds, ks) →
    DsV (MvR (s.en w w0.arg β) ks) ds vs ∧ fpDs w ds vs = ks.flatMap (obFp (s.en w w0.arg β)) ∧ (∀ K ∈ ks, (lk s.ob K).isSome = true)
  | [], [], ds, ks, _, h => by simp [mvCs] at h; obtain ⟨rfl, rfl⟩ := h; exact ⟨rfl, rfl, fun _ h => nomatch h⟩
  | [], _ :: _, _, _, h, _ => h.elim
  | _ :: _, [], _, _, h, _ => h.elim
  | c :: cs, v :: vs, ds, ks, hr, h => by
    cases c with
    | d x =>
      simp only [mvCs] at h
      split at h
      · rename_i e ks' he
        simp only [Option.some.injEq, Prod.mk.injEq] at h
        obtain ⟨rfl, rfl⟩ := h
        obtain ⟨h1, h2, h3⟩ := mvCs_rel R hr.2 he
        obtain ⟨q1, q2, q3⟩ := hr.1
        refine ⟨⟨v, vs, rfl, ?_, h1⟩, ?_, h3⟩
        · cases x <;> first | exact q3 | simp [D.isOwn] at q1
        · simp only [fpDs, List.headD_cons, List.tail_cons, h2]
          cases x <;> first | (simp [D.isOwn] at q1; done) | simp [fp]
      · cases h
    | ob K =>
      simp only [mvCs] at h
      split at h
      · rename_i e z xs es ks' hK he
        simp only [Option.some.injEq, Prod.mk.injEq] at h
        obtain ⟨rfl, rfl⟩ := h
        obtain ⟨h1, h2, h3⟩ := mvCs_rel R hr.2 he
        obtain ⟨_, q2, _⟩ := hr.1
        refine ⟨⟨v, vs, rfl, ⟨K, List.mem_cons_self .., hK, q2⟩, h1.mono fun x u hx => MvR.more (fun k hk => List.mem_cons_of_mem _ hk) hx⟩, ?_, ?_⟩
        · simp only [fpDs, List.headD_cons, List.tail_cons, h2, List.flatMap_cons]
          rw [obFp_arr (en := s.en w w0.arg β) hK]
          show fp w _ v ++ _ = fp w _ (β K) ++ _
          rw [q2]; rfl
        · intro k hk
          rcases List.mem_cons.1 hk with rfl | hk
          · rw [hK]; rfl
          · exact h3 k hk
      · cases h
    | _ => simp [mvCs] at h

theorem mvEs_rel (R : Rel N w0 s a w β) {z : Nat} : ∀ {ps : List (Nat × List C)} {qs : List (Nat × Value)} {i : Nat} {es : List (List D)} {ks : List Nat}, PartsRel (s.en w w0.arg β) ps qs → mvEs (lk s.ob) z i ps = some (es, ks) →
    EsV (MvR (s.en w w0.arg β) ks) z es (qs.flatMap fun q => q.2.cells.toList) ∧ fpVs w z es (qs.flatMap fun q => q.2.cells.toList) = ks.flatMap (obFp (s.en w w0.arg β)) ∧ (∀ K ∈ ks, (lk s.ob K).isSome = true) ∧ es.length = qs.length ∧
      (∀ (j : Nat) (q : Nat × Value), qs[j]? = some q → q.1 = i + j ∧ q.2.cells.size = z)
  | [], [], i, es, ks, _, h => by simp [mvEs] at h; obtain ⟨rfl, rfl⟩ := h; exact ⟨rfl, rfl, fun _ h => (nomatch h), rfl, fun j q h => by simp at h⟩
  | [], _ :: _, _, _, _, hp, _ => by simp [PartsRel] at hp
  | _ :: _, [], _, _, _, hp, _ => by simp [PartsRel] at hp
  | (j, cs) :: ps, (j', v) :: qs, i, es, ks, hp, h => by
    obtain ⟨rfl, hv, hp⟩ := hp
    simp only [mvEs] at h
    split at h
    · rename_i e k1 es' k2 hb hd he
      simp only [Option.some.injEq, Prod.mk.injEq] at h
      obtain ⟨rfl, rfl⟩ := h
      simp only [Bool.and_eq_true] at hb
      obtain rfl := nat_beq hb.1
      have hz := nat_beq hb.2
      obtain ⟨h1, h2, h3⟩ := mvCs_rel R hv hd
      obtain ⟨g1, g2, g3, g4, g5⟩ := mvEs_rel R hp he
      have hl := hv.length
      have hl1 := h1.length
      simp only [Array.length_toList] at hl hl1
      refine ⟨⟨v.cells.toList, _, by simp, by omega, h1.mono fun x u hx => MvR.more (fun k hk => List.mem_append_left _ hk) hx, g1.mono fun x u hx => MvR.more (fun k hk => List.mem_append_right _ hk) hx⟩, ?_, ?_, by simp [g4], ?_⟩
      · have e1 : (List.flatMap (fun q => q.2.cells.toList) ((i, v) :: qs)) = v.cells.toList ++ List.flatMap (fun (q : Nat × Value) => q.2.cells.toList) qs := by simp
        rw [e1]
        simp only [fpVs]
        rw [show (v.cells.toList ++ List.flatMap (fun (q : Nat × Value) => q.2.cells.toList) qs).drop z = List.flatMap (fun (q : Nat × Value) => q.2.cells.toList) qs by
          rw [List.drop_append_of_le_length (by simp; omega), List.drop_of_length_le (by simp; omega), List.nil_append], g2, List.flatMap_append, ← h2]
        congr 1
        have : ∀ (ds : List D) (us rest : List Value), us.length = ds.length → fpDs w ds (us ++ rest) = fpDs w ds us := by
          intro ds
          induction ds with
          | nil => intro us rest _; rfl
          | cons d ds ih =>
            intro us rest hl
            cases us with
            | nil => simp at hl
            | cons u us => simp only [fpDs, List.cons_append, List.headD_cons, List.tail_cons]; rw [ih us rest (by simpa using hl)]
        exact this _ _ _ (by simp; omega)
      · intro K hK
        rcases List.mem_append.1 hK with h | h
        · exact h3 K h
        · exact g3 K h
      · intro k q hq
        cases k with
        | zero => simp at hq; subst hq; exact ⟨rfl, by show v.cells.size = z; omega⟩
        | succ k =>
          obtain ⟨a1, a2⟩ := g5 k q (by simpa using hq)
          exact ⟨by omega, a2⟩
    · cases h

theorem move_rel {F : Fn} (hF : FnOk F) {d t len e : Nat} {qs : List (Nat × List C)} {ti te : TI} {es : List (List D)} {ks : List Nat} (hd : d < F.N) (hti : lk F.T t = some ti) (hk : ti.k = .sl e) (hte : lk F.T e = some te)
    (hm : mvEs (lk s.ob) te.size 0 qs = some (es, ks)) (hn : nodupB ks = true) (hl : qs.length = len) (hb : len * te.size ≤ 16777216) (hb2 : len ≤ 16777216) (hfr : lk s.ob (d * 64) = none)
    {a : Act} {w : World} {β : Nat → Value} (R : Rel F.N w0 s a w β) {vs : List (Nat × Value)} (hp : PartsRel (s.en w w0.arg β) qs vs) :
    ∃ val out, (Instr.buildSlice t len vs.toArray).run F.P w = .ok val (w.alloc (.cells out e)) ∧ (∀ b, blk val = some b → b = w.heap.size) ∧ Rel F.N w0 ⟨(d, .c (.ob (d * 64))) :: s.tm, (d * 64, .arr e te.size es) :: (deads ks ++ s.ob)⟩ (a.put (some d) val) (w.alloc (.cells out e)) (upd β (d * 64) val) := by
  have hT := hF.T
  have hu := (hT t ti hti).sl hk
  have hty := hT e te hte
  obtain ⟨h1, h2, h3, h4, h5⟩ := mvEs_rel R hp hm
  have hpl := hp.length
  obtain ⟨z, hz, hzc⟩ := hty.zeroValue w
  have hzs : z.cells.size = te.size := by have := congrArg List.length hzc; simpa [hty.zlen] using this
  have hinit : ∀ cells : Array Value, cells.size = len * te.size → ∃ out, Instr.fill (fun i => some (i * te.size, te.size)) cells vs = some out ∧ out.toList = vs.flatMap (fun q => q.2.cells.toList) := by
    intro cells hc
    obtain ⟨out, ho, hr⟩ := fill_all vs 0 cells (fun j q hq => h5 j q hq) (by rw [hc]; congr 1; omega)
    exact ⟨out, ho, by simpa using hr⟩
  have hEl := h1.length
  have hbig : len ≤ maxLen := by simp only [maxLen]; omega
  obtain ⟨out, ho, hr⟩ := hinit (if len * te.size = 0 then #[] else (Array.range (len * te.size)).map (z.cells[· % z.cells.size]!)) (by split <;> simp_all)
  have hos : out.size = len * te.size := by
    have := congrArg List.length hr
    simp only [Array.length_toList] at this
    rw [this, hEl, h4]; congr 1; omega
  have R' := R.addArrG (k := d * 64) (e := e) (cap := len) (cur := out) hfr (nodupB_iff hn) h3 h1 h2 (by omega) hbig hos (by rw [hr]; exact List.take_of_length_le (by rw [hEl]; exact Nat.le_refl _))
  have hel : es.length = len := by omega
  rw [hel] at R'
  refine ⟨.slice (some ⟨w.heap.size, 0, none⟩) len len, out, ?_, fun b hb => by simp [blk] at hb; exact hb.symm, R'.setTm hd ?_⟩
  · have hno : ¬ (len * te.size > 2 ^ 24) := by
      have : (2:Nat) ^ 24 = 16777216 := by decide
      omega
    by_cases h0 : len * te.size = 0
    · rw [if_pos h0] at ho
      simp [Instr.buildSlice, run_underlying hu, hty.sizeOf, h0, ho, newRow, Array.range_zero']
    · rw [if_neg h0] at ho
      simp [Instr.buildSlice, run_underlying hu, hty.sizeOf, hno, h0, hz, ho, newRow]
  · simp only [FVRel]
    exact ⟨by simp [St.en], by simp [St.en, upd_self], rfl⟩

theorem BsW.move {F : Fn} (hF : FnOk F) {Q : Exit → Act → World → Prop} {k : List It} {d t len e : Nat} {qs : List (Nat × List C)} {ti te : TI} {es : List (List D)} {ks : List Nat} (hd : d < F.N) (hti : lk F.T t = some ti) (hk : ti.k = .sl e) (hte : lk F.T e = some te)
    (hm : mvEs (lk s.ob) te.size 0 qs = some (es, ks)) (hn : nodupB ks = true) (hl : qs.length = len) (hb : len * te.size ≤ 16777216) (hb2 : len ≤ 16777216) (hfr : lk s.ob (d * 64) = none)
    (hj : J F.P F.N w0 Q k ⟨(d, .c (.ob (d * 64))) :: s.tm, (d * 64, .arr e te.size es) :: (deads ks ++ s.ob)⟩) : BsW F.P F.N w0 Q k s d t len qs := by
  intro a w β R vs hp
  obtain ⟨val, out, h1, _, h2⟩ := move_rel hF hd hti hk hte hm hn hl hb hb2 hfr R hp
  exact ⟨val, _, _, _, h1, h2, hj⟩

/-- The same; a slot that held one of the arrays holds a view of it from here on. -/
theorem BsW.moveV {F : Fn} (hF : FnOk F) {Q : Exit → Act → World → Prop} {k : List It} {d t len e rt K e1 z1 : Nat} {ys : List (List D)} {qs : List (Nat × List C)} {ti te : TI} {es : List (List D)} {ks : List Nat} (hd : d < F.N) (hti : lk F.T t = some ti) (hk : ti.k = .sl e) (hte : lk F.T e = some te)
    (hm : mvEs (lk s.ob) te.size 0 qs = some (es, ks)) (hn : nodupB ks = true) (hl : qs.length = len) (hb : len * te.size ≤ 16777216) (hb2 : len ≤ 16777216) (hfr : lk s.ob (d * 64) = none)
    (hrt : lk s.tm rt = some (.c (.ob K))) (hK : lk s.ob K = some (.arr e1 z1 ys)) (hKm : K ∈ ks) (hne : rt ≠ d)
    (hj : J F.P F.N w0 Q k ⟨(rt, .c (.d (.vw false z1 (locEs ys)))) :: (d, .c (.ob (d * 64))) :: s.tm, (d * 64, .arr e te.size es) :: (deads ks ++ s.ob)⟩) : BsW F.P F.N w0 Q k s d t len qs := by
  intro a w β R vs hp
  obtain ⟨val, out, h1, hblk, h2⟩ := move_rel hF hd hti hk hte hm hn hl hb hb2 hfr R hp
  refine ⟨val, _, _, _, h1, h2.retm ?_, hj⟩
  have hv := R.tm rt _ hrt
  simp only [FVRel, CRel] at hv
  obtain ⟨_, hv, hone⟩ := hv
  have hv : a.tmps.getD rt undef = β K := hv
  have hget : (a.put (some d) val).tmps.getD rt undef = β K := by rw [put_get_ne _ hne.symm, hv]
  rw [hget]
  rw [hv] at hone
  have hr : OwnRel w w0.arg (s.en w w0.arg β).M e1 z1 ys (β K) := R.ob K _ hK
  have hkd : K ≠ d * 64 := fun e => by rw [e, hfr] at hK; cases hK
  simp only [FVRel, CRel]
  refine ⟨rfl, hone, ?_⟩
  rcases hr with ⟨rfl, h⟩ | ⟨b, cap, cur, g1, g2, g3, g4, g5, g6⟩
  · rw [h]; simp only [Rd]; exact .inl ⟨by simp [locEs], none, 0, rfl, fun _ => rfl⟩
  · have hlt := lt_of_heap g3
    have hmemK : b ∈ obFp (s.en w w0.arg β) K := R.live_block hK rfl (by rw [g1]; rfl)
    have hMold : ∀ b', (St.en ⟨(d, .c (.ob (d * 64))) :: s.tm, (d * 64, .arr e te.size es) :: (deads ks ++ s.ob)⟩ (w.alloc (.cells out e)) w0.arg (upd β (d * 64) val)).M b' →
        b' = w.heap.size ∨ ∃ j o, j ∉ ks ∧ lk s.ob j = some o ∧ o.live = true ∧ blk (β j) = some b' := by
      rintro b' ⟨j, o, ho, hl, hb'⟩
      have ho' : lk ((d * 64, Ob.arr e te.size es) :: (deads ks ++ s.ob)) j = some o := ho
      have hb2' : blk (upd β (d * 64) val j) = some b' := hb'
      rw [lk_cons, deads_lk] at ho'
      by_cases e1 : d * 64 = j
      · subst e1
        rw [upd_self] at hb2'
        exact .inl (hblk b' hb2')
      · rw [if_neg e1] at ho'
        rw [upd_ne _ _ (Ne.symm e1)] at hb2'
        by_cases e2 : j ∈ ks
        · rw [if_pos e2] at ho'; simp only [Option.some.injEq] at ho'; subst ho'; simp [Ob.live] at hl
        · rw [if_neg e2] at ho'
          exact .inr ⟨j, o, e2, ho', hl, hb2'⟩
    have K0 : Keeps w (w.alloc (.cells out e)) (s.en w w0.arg β).M (St.en ⟨(d, .c (.ob (d * 64))) :: s.tm, (d * 64, .arr e te.size es) :: (deads ks ++ s.ob)⟩ (w.alloc (.cells out e)) w0.arg (upd β (d * 64) val)).M :=
      ⟨by simp, fun b hb _ => heap_alloc_old w _ b hb, fun b' hb' => (hMold b' hb').elim (fun h => .inr (by omega)) (fun ⟨j, o, _, h1, h2, h3⟩ => .inl ⟨j, o, h1, h2, h3⟩)⟩
    have hnM : ¬ (St.en ⟨(d, .c (.ob (d * 64))) :: s.tm, (d * 64, .arr e te.size es) :: (deads ks ++ s.ob)⟩ (w.alloc (.cells out e)) w0.arg (upd β (d * 64) val)).M b := by
      intro h
      rcases hMold b h with h | ⟨j, o, hj1, hj2, hj3, hj4⟩
      · omega
      · exact R.dj K j (fun e => hj1 (e ▸ hKm)) b hmemK (R.live_block hj2 hj3 hj4)
    simp only [Rd, length_locEs]
    refine .inr ⟨b, 0, cap, g1, g2, hnM, Nat.lt_of_lt_of_le hlt (by simp [St.en]), fun h => (by cases h), RdEs.loc ys 0 (RdEs.keep K0 (fun off => World.cell?_of_block (w := w) (heap_alloc_old w _ b hlt)) ys 0 g6)⟩

attribute [simp] mvCs mvEs

end Go.Sm

namespace Go.Sm
open Go.RowKit

variable {P : Program} {N : Nat} {w0 : Base} {s : St} {a : Act} {w : World} {β : Nat → Value}

theorem OpW.val {Q : Exit → Act → World → Prop} {all : Array Oper} {os : List Oper} {k : List It} {o : Oper} {d : Nat} (hd : o.dst = some d)
    (h : ∀ a w β, Rel N w0 s a w β → ∃ val w' s' β', (execOp a.eval o).run P w = .ok (.value val) w' ∧ Rel N w0 s' (a.put (some d) val) w' β' ∧ J P N w0 Q (.ops all os :: k) s') : OpW P N w0 Q all os k s o := by
  intro a w β R
  obtain ⟨val, w', s', β', h1, h2, h3⟩ := h a w β R
  unfold Oper.wp
  rw [h1, Oper.upon_value, hd]
  have := h3 _ _ _ h2
  simpa only [cont] using this

theorem Rel.drew (R : Rel N w0 s a w β) : Rel N w0 s a w.drew β := R.world ⟨⟨rfl, rfl, rfl, Nat.le_refl _, fun _ _ => rfl⟩, Nat.le_succ _⟩

/-- The next step of a walk over a map. -/
theorem OpW.next {Q : Exit → Act → World → Prop} {all : Array Oper} {os : List Oper} {k : List It} {o : Oper} {d key : Nat} {x : Operand} {m : MD} {rem : List (List Int × Value)} {last : Option (List Int × Value)} (ho : o.op = .next x false) (hd : o.dst = some d) (hlt : d < N)
    (hx : s.opd x = some (.c (.ref key 0))) (hk : lk s.ob key = some (.it m rem last)) (h0 : rem = [] → J P N w0 Q (.ops all os :: k) ⟨(d, .t [.c (.d (.v (.bool false)))]) :: s.tm, s.ob⟩)
    (h1 : ∀ i e, rem[i]? = some e → J P N w0 Q (.ops all os :: k) ⟨(d, .t [.c (.d (.v (.bool true))), keyFV m.kk e.1, .c (.d (.v e.2))]) :: s.tm, (key, .it m (rem.eraseIdx i) (some e)) :: s.ob⟩) : OpW P N w0 Q all os k s o := by
  refine OpW.val hd fun a w β R => ?_
  have hr := R.opd hx
  simp only [FVRel, CRel] at hr
  obtain ⟨_, g', hg, he⟩ := hr
  obtain ⟨g, r, since, seen, st, q1, q2, q3, q4⟩ := R.ob key _ hk
  have hg' : β key = .pointer (some ⟨g', 0, none⟩) := hg
  have q1' : β key = .pointer (some ⟨g, 0, none⟩) := q1
  rw [hg'] at q1'
  simp only [Value.pointer.injEq, Option.some.injEq, Addr.mk.injEq, and_true] at q1'
  subst q1'
  have hr3 := q3
  simp only [Rd, Value.map.injEq, Option.some.injEq] at hr3
  obtain ⟨r', es, clock, rfl, q5, q6, q7⟩ := hr3
  rcases run_next (P := P) (ty := o.type) q2 q6 q7 q4 with ⟨rfl, hrun⟩ | ⟨i, e, seen', w1, p1, p2, p3, hrun⟩
  · have hrun : (Instr.next (.pointer (some ⟨g', 0, none⟩)) false o.type).run P w = .ok (.tuple #[.bool false]) w := hrun
    refine ⟨_, w, _, β, by simp [execOp, ho, he, hrun]; rfl, R.setTm hlt ?_, h0 rfl⟩
    simp only [FVRel, FVsRel]
    exact ⟨_, rfl, _, _, rfl, rel_bool _, rfl⟩
  · have hrun : (Instr.next (.pointer (some ⟨g', 0, none⟩)) false o.type).run P w = .ok (.tuple #[.bool true, MD.keyV m.kk e.1, e.2]) (World.setOb w1 g' (.mapIter (some r) since seen' clock)) := hrun
    have p3 : w1 = w ∨ w1 = w.drew := p3
    have R1 : Rel N w0 s a w1 β := by
      rcases p3 with rfl | rfl
      · exact R
      · exact R.drew
    have q2' : w1.heap[g']? = some (.mapIter (some r) since seen st) := by rcases p3 with rfl | rfl <;> exact q2
    have q3' : Rd w1 w0.arg (s.en w1 w0.arg β).M (.mp m) (.map (some r)) := by rcases p3 with rfl | rfl <;> exact q3
    have R2 : Rel N w0 ⟨s.tm, (key, .it m (rem.eraseIdx i) (some e)) :: s.ob⟩ a (World.setOb w1 g' (.mapIter (some r) since seen' clock)) β := by
      refine R1.setObj hk rfl (by rw [hg']; rfl) ?_ fun S => ⟨g', r, since, seen', clock, hg', setOb_self w1 g' _ (lt_of_heap q2'), Rd.keep S.K _ _ q3', p2⟩
      rw [obFp_it (lk_cons_self _ _ _)]
      show (blk (β key)).toList = _
      rw [hg']; rfl
    refine ⟨_, _, _, β, by simp [execOp, ho, he, hrun]; rfl, R2.setTm hlt ?_, h1 i e p1⟩
    obtain ⟨j, _, hx⟩ := p2.2.2.2 e rfl
    simp only [FVRel, FVsRel]
    exact ⟨_, rfl, _, _, rfl, rel_bool _, _, _, rfl, keyFV_rel _ _ _, _, _, rfl, rel_val (q7.2.2 _ (List.mem_of_getElem? hx)).2, rfl⟩

/-- Slots that are not wanted any more are forgotten. -/
theorem J.keep {Q : Exit → Act → World → Prop} {k : List It} (ks : List Nat) (h : J P N w0 Q k ⟨s.tm.filter (fun p => ks.elem p.1), s.ob⟩) : J P N w0 Q k s := by
  intro a w β R
  refine h a w β ⟨R.sz, R.df, fun t f hf => ?_, R.ob, R.nd, R.dj, R.ge, R.low, R.fx⟩
  have := lk_filter (fun x => ks.elem x) s.tm t
  have hf' : lk (s.tm.filter fun p => ks.elem p.1) t = some f := hf
  rw [this] at hf'
  split at hf'
  · exact R.tm t f hf'
  · cases hf'

@[simp] theorem freshEs_append : ∀ (xs ys : List (List D)), freshEs (xs ++ ys) = (freshEs xs && freshEs ys)
  | [], ys => by simp [freshEs]
  | x :: xs, ys => by simp [freshEs, freshEs_append xs ys, Bool.and_assoc]
@[simp] theorem argEs_append : ∀ (xs ys : List (List D)), argEs (xs ++ ys) = argEs xs ++ argEs ys
  | [], ys => rfl
  | x :: xs, ys => by simp [argEs, argEs_append xs ys]
@[simp] theorem locEs_append : ∀ (xs ys : List (List D)), locEs (xs ++ ys) = locEs xs ++ locEs ys
  | [], ys => rfl
  | x :: xs, ys => by simp [locEs, locEs_append xs ys]
@[simp] theorem stOEs_append : ∀ (xs ys : List (List D)), stOEs (xs ++ ys) = (stOEs xs && stOEs ys)
  | [], ys => by simp [stOEs]
  | x :: xs, ys => by simp [stOEs, stOEs_append xs ys, Bool.and_assoc]
@[simp] theorem okNo_append : ∀ (xs ys : List (List D)), okNo (xs ++ ys) = (okNo xs && okNo ys)
  | [], ys => by simp [okNo]
  | x :: xs, ys => by simp [okNo, okNo_append xs ys, Bool.and_assoc]

/-! ### loops of few rounds -/
def LpW (P : Program) (N : Nat) (w0 : Base) (Q : Exit → Act → World → Prop) (c : Code) (k : List It) (n : Nat) (s : St) : Prop :=
  ∀ a w β, Rel N w0 s a w β → Code.rounds P c (cont P N w0 Q k) n a w

/-- A loop of at most n rounds, the last of which leaves it. -/
theorem J.rounds {Q : Exit → Act → World → Prop} {c : Code} {k : List It} (n : Nat) (h : LpW P N w0 Q c k n s) : J P N w0 Q (.code (.loop c) :: k) s := by
  intro a w β R
  simp only [cont]
  exact wp_loop_rounds n (h a w β R)

theorem LpW.step {Q : Exit → Act → World → Prop} {c : Code} {k : List It} {n : Nat} (h : J P N w0 Q (.code c :: .inv (LpW P N w0 Q c k n) :: k) s) : LpW P N w0 Q c k (n + 1) s := by
  intro a w β R
  rw [rounds_succ]
  have := h a w β R
  simp only [cont] at this
  refine wp_mono this fun e a w h => ?_
  have h' := cont_loop h
  cases e with
  | normal =>
    obtain ⟨s, β, h1, h2⟩ := h'
    exact h1 a w β h2
  | _ => exact h'

theorem LpW.inv {Q : Exit → Act → World → Prop} {c : Code} {k : List It} {n : Nat} (h : LpW P N w0 Q c k n s) : InvW (LpW P N w0 Q c k n) s := h

end Go.Sm

namespace Go.Sm
open Go.RowKit

variable {P : Program} {N : Nat} {w0 : Base} {s : St} {a : Act} {w : World} {β : Nat → Value}

@[simp] theorem named_self (w0 : Base) (K : Nat) (c : Value) : (w0.named K c).fix K = some c := by simp [Base.named]
theorem named_ne (w0 : Base) {K K' : Nat} (c : Value) (h : K' ≠ K) : (w0.named K c).fix K' = w0.fix K' := by simp [Base.named, h]

/-- The handle of an object gets a name. -/
theorem J.name {F : Fn} {r : Res} {fn : Func} {k : List It} {K : Nat} (hf0 : w0.fix K = none) (hK : (lk s.ob K).isSome = true) (hKo : ∀ p ∈ r.outs, p.1 ≠ K)
    (h : ∀ c, J F.P F.N (w0.named K c) (F.post (w0.named K c) r fn) k s) : J F.P F.N w0 (F.post w0 r fn) k s := by
  intro a w β R
  exact cont_weaken (fun e a w h => post_named hKo h) (fun s a w β h => Rel.unnamed hf0 h) k .normal a w (h (β K) a w β (R.named hK))

/-- And back. -/
theorem J.reOb {Q : Exit → Act → World → Prop} {k : List It} {d K : Nat} {c : Value} (hf : w0.fix K = some c) (hd : lk s.tm d = some (.c (.d (.v c)))) (hj : J P N w0 Q k ⟨(d, .c (.ob K)) :: s.tm, s.ob⟩) : J P N w0 Q k s := by
  intro a w β R
  refine hj a w β (R.retm ?_)
  have hv := R.tm d _ hd
  simp only [FVRel, CRel, Rd] at hv ⊢
  obtain ⟨h1, h2⟩ := R.fx K c hf
  exact ⟨h1, hv.2.2.1.trans h2.symm, hv.2.1⟩
/-! ### arguments -/
def ArgOK (N : Nat) (w0 : Base) (s : St) (f : FV) (r : RV) : Prop := ∀ a w β, Rel N w0 s a w β → ∀ v, FVRel (s.en w w0.arg β) f v → AV w r v
def ArgsOK (N : Nat) (w0 : Base) (s : St) (fs : List FV) (rs : List RV) : Prop := ∀ a w β, Rel N w0 s a w β → ∀ vs, FVsV (s.en w w0.arg β) fs vs → AVs w rs vs
theorem ArgOK.of {f : FV} {r : RV} (h : argF (lk s.ob) f = some r) : ArgOK N w0 s f r := fun _ _ _ R _ hv => argF_sound R h hv
theorem ArgsOK.nil : ArgsOK N w0 s [] [] := fun a w β R vs hv => by
  cases vs with
  | nil => rfl
  | cons v vs => cases hv
theorem ArgsOK.cons {f : FV} {fs : List FV} {r : RV} {rs : List RV} (h : ArgOK N w0 s f r) (h2 : ArgsOK N w0 s fs rs) : ArgsOK N w0 s (f :: fs) (r :: rs) := fun a w β R vs hv => by
  obtain ⟨v, q, rfl, h3, h4⟩ := hv
  exact ⟨v, q, rfl, h a w β R v h3, h2 a w β R q h4⟩

end Go.Sm

namespace Go.Sm
open Go.RowKit

variable {P : Program} {N : Nat} {w0 : Base} {s : St} {a : Act} {w : World} {β : Nat → Value}

theorem Rel.killS (_ : Rel N w0 s a w β) {K : Nat} {o : Ob} (_ : lk s.ob K = some o) : Step (s.en w w0.arg β) (St.en ⟨s.tm, (K, .dead) :: s.ob⟩ w w0.arg β) := by
  refine ⟨rfl, ⟨Nat.le_refl _, fun _ _ _ => rfl, ?_⟩, fun k hk => ⟨?_, rfl⟩⟩
  · rintro b ⟨j, o', ho, hl, hb⟩
    simp only [St.en, lk_cons] at ho hb
    split at ho
    · simp only [Option.some.injEq] at ho; subst ho; simp [Ob.live] at hl
    · exact .inl ⟨j, o', ho, hl, hb⟩
  · simp only [St.en, lk_cons] at hk ⊢
    split
    · rfl
    · exact hk

theorem Rel.kill (R : Rel N w0 s a w β) {K : Nat} {o : Ob} (hK : lk s.ob K = some o) : Rel N w0 ⟨s.tm, (K, .dead) :: s.ob⟩ a w β := by
  have S := R.killS hK
  have hd : obFp (St.en ⟨s.tm, (K, .dead) :: s.ob⟩ w w0.arg β) K = [] := obFp_dead (en := St.en ⟨s.tm, (K, .dead) :: s.ob⟩ w w0.arg β) (lk_cons_self _ _ _)
  refine R.update S (Low.refl _ _) [K] ?_ ?_ ?_ ?_ R.sz R.df (R.tm_step rfl S)
  · intro k hk
    simp only [List.mem_singleton] at hk
    exact ⟨by simp only [lk_cons]; rw [if_neg (Ne.symm hk)], fun _ _ _ _ _ => rfl⟩
  · intro k hk o' ho
    simp only [List.mem_singleton] at hk; subst hk
    simp only [lk_cons_self, Option.some.injEq] at ho; subst ho; trivial
  · intro k hk
    simp only [List.mem_singleton] at hk; subst hk
    rw [hd]; exact List.nodup_nil
  · intro k hk b hb
    simp only [List.mem_singleton] at hk; subst hk
    rw [hd] at hb; cases hb

end Go.Sm

namespace Go.Sm
open Go.RowKit

variable {w0 : Base} {s : St}

theorem mvCs_mono {ob ob' : Nat → Option Ob} (h : Le ob ob') : ∀ {cs : List C} {r : List D × List Nat}, mvCs ob cs = some r → mvCs ob' cs = some r
  | [], r, hm => hm
  | c :: cs, r, hm => by
    cases c with
    | d x =>
      simp only [mvCs] at hm ⊢
      split at hm
      · rename_i e ks he; rw [mvCs_mono h he]; exact hm
      · cases hm
    | ob K =>
      simp only [mvCs] at hm ⊢
      split at hm
      · rename_i e z xs es ks hK he
        rw [h _ _ hK, mvCs_mono h he]; exact hm
      · cases hm
    | _ => simp [mvCs] at hm
theorem mvEs_mono {ob ob' : Nat → Option Ob} (h : Le ob ob') {z : Nat} : ∀ {qs : List (Nat × List C)} {i : Nat} {r : List (List D) × List Nat}, mvEs ob z i qs = some r → mvEs ob' z i qs = some r
  | [], i, r, hm => hm
  | (j, cs) :: qs, i, r, hm => by
    simp only [mvEs] at hm ⊢
    split at hm
    · rename_i e k1 es k2 hb hd he
      rw [hb, mvCs_mono h hd, mvEs_mono h he]; exact hm
    · cases hm

/-- A literal that takes arrays in, in the quiet part of a drawn region. -/
theorem DrB3.move {F : Fn} (hF : FnOk F) {Q : Exit → Act → World → Prop} {all : Array Oper} {k : List It} {m : Nat} {tk : List (List Nat)} {alts : List (Nat × Nat × Nat)} {no : List (Nat × Ob)} {bs hs : List (List Nat)} {i : Nat} {os : List Oper} {b h tki : List Nat} {d t len e : Nat}
    {qs : List (Nat × List C)} {ti te : TI} {es : List (List D)} {ks : List Nat}
    (hall : (all.toList.drop i).take os.length = os) (hd : d < F.N) (hti : lk F.T t = some ti) (hk : ti.k = .sl e) (hte : lk F.T e = some te)
    (hm : mvEs (obB2 b h s) te.size 0 qs = some (es, ks)) (hn : nodupB ks = true) (hl : qs.length = len) (hb : len * te.size ≤ 16777216) (hb2 : len ≤ 16777216) (hfr : lk s.ob (d * 64) = none)
    (htk : (ks.all fun x => tki.elem x) = true)
    (hj : dr3 F w0 Q all k m tk alts no bs hs i os ⟨(d, .c (.ob (d * 64))) :: s.tm, (d * 64, .arr e te.size es) :: (deads ks ++ s.ob)⟩) : DrB3 F w0 Q all k m tk alts no bs hs i os s b h tki d t len qs := by
  refine ⟨.c (.ob (d * 64)), (d * 64, .arr e te.size es) :: deads ks, [d * 64], fun x hx => ?_, ?_, ?_, ?_⟩
  · simp only [List.mem_singleton] at hx; subst hx
    exact ⟨by simp, hfr⟩
  · simp only [nsOk3, List.all_cons, Bool.and_eq_true, Bool.or_eq_true]
    refine ⟨.inl (by simp), ?_⟩
    have : ∀ ks : List Nat, (ks.all fun x => tki.elem x) = true → ((deads ks).all fun p => some d == some (p.1 / 64) || tki.elem p.1) = true := by
      intro ks
      induction ks with
      | nil => intro _; rfl
      | cons K ks ih =>
        intro h
        simp only [List.all_cons, Bool.and_eq_true] at h
        simp only [deads, List.all_cons, Bool.and_eq_true, Bool.or_eq_true]
        exact ⟨.inr h.1, ih h.2⟩
    exact this ks htk
  · intro s2 a w β R l1 l2 f vs hp
    have hm2 : mvEs (lk s2.ob) te.size 0 qs = some (es, ks) := mvEs_mono l2 (by rw [obB2_eq]; exact hm)
    obtain ⟨val, out, h1, _, h2⟩ := move_rel hF hd hti hk hte hm2 hn hl hb hb2 (f _ (List.mem_singleton.2 rfl)) R hp
    exact ⟨val, _, _, h1, h2⟩
  · refine dr3_sound hF (fun j o ho => ?_) hj
    rw [← hall, List.getElem?_take] at ho
    split at ho
    · rw [List.getElem?_drop] at ho
      simpa using ho
    · cases ho

end Go.Sm
