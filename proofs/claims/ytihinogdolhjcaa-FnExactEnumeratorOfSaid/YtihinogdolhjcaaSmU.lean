/- The rules by which simp works out the conditions. -/
import Derived.Test.YtihinogdolhjcaaSmY
import Derived.Test.YtihinogdolhjcaaSmT
namespace Go.Sm
open Go.RowKit

@[congr] theorem vc.weak {F : Fn} {w0 : Base} {Q : Exit → Act → World → Prop} {r : Res} {n : Nat} {k : List It} {s s' : St} (h : s = s') : vc F w0 Q r n k s = vc F w0 Q r n k s' := by rw [h]
@[congr] theorem J.weak {P : Program} {N : Nat} {w0 : Base} {Q : Exit → Act → World → Prop} {k : List It} {s s' : St} (h : s = s') : J P N w0 Q k s = J P N w0 Q k s' := by rw [h]
@[congr] theorem CallOK.weak {P : Program} {f : FuncId} {args args' : List RV} {r : RV} (h : args = args') : CallOK P f args r = CallOK P f args' r := by rw [h]

@[congr] theorem InvW.weak {p : St → Prop} {s s' : St} (h : s = s') : InvW p s = InvW p s' := by rw [h]
@[congr] theorem BsW.weak {P : Program} {N : Nat} {w0 : Base} {Q : Exit → Act → World → Prop} {k : List It} {s s' : St} {d t len : Nat} {qs : List (Nat × List C)} (h : s = s') : BsW P N w0 Q k s d t len qs = BsW P N w0 Q k s' d t len qs := by rw [h]
@[congr] theorem CallW.weak {P : Program} {N : Nat} {w0 : Base} {Q : Exit → Act → World → Prop} {k : List It} {s s' : St} {d f : Nat} {fs : List FV} (h : s = s') : CallW P N w0 Q k s d f fs = CallW P N w0 Q k s' d f fs := by rw [h]

@[congr] theorem OpW.weak {P : Program} {N : Nat} {w0 : Base} {Q : Exit → Act → World → Prop} {all : Array Oper} {os : List Oper} {k : List It} {s s' : St} {o : Oper} (h : s = s') : OpW P N w0 Q all os k s o = OpW P N w0 Q all os k s' o := by rw [h]
@[congr] theorem dr.weak {F : Fn} {w0 : Base} {Q : Exit → Act → World → Prop} {all : Array Oper} {k : List It} {m : Nat} {bs bs' : List (List Nat)} {i : Nat} {os os' : List Oper} {s s' : St} (h : s = s') (hb : bs = bs') (ho : os = os') :
    dr F w0 Q all k m bs i os s = dr F w0 Q all k m bs' i os' s' := by rw [h, hb, ho]
@[congr] theorem DrC.weak {F : Fn} {w0 : Base} {Q : Exit → Act → World → Prop} {all : Array Oper} {k : List It} {m : Nat} {bs : List (List Nat)} {i : Nat} {os : List Oper} {s s' : St} {b : List Nat} {d f : Nat} {fs : List FV} (h : s = s') :
    DrC F w0 Q all k m bs i os s b d f fs = DrC F w0 Q all k m bs i os s' b d f fs := by rw [h]

@[congr] theorem br.weak {b b' w : Bool} {A B : Prop} (h : b = b') : br b w A B = br b' w A B := by rw [h]
@[simp ↓] theorem br_tt (A B : Prop) : br true true A B = A := by simp [br, Later]
@[simp ↓] theorem br_tf (A B : Prop) : br true false A B = B := by simp [br, Later]
@[simp ↓] theorem br_ft (A B : Prop) : br false true A B = B := by simp [br, Later]
@[simp ↓] theorem br_ff (A B : Prop) : br false false A B = A := by simp [br, Later]
@[simp] theorem br_tt' (A B : Prop) : br true true A B = A := br_tt A B
@[simp] theorem br_tf' (A B : Prop) : br true false A B = B := br_tf A B
@[simp] theorem br_ft' (A B : Prop) : br false true A B = B := br_ft A B
@[simp] theorem br_ff' (A B : Prop) : br false false A B = A := br_ff A B
@[simp low] theorem br_open (b w : Bool) (A B : Prop) : br b w A B = (Later (b = w → A) ∧ Later (b = (!w) → B)) := rfl

theorem blt_eq (a b : Nat) : (Nat.blt a b = true) = (a < b) := by
  simp [Nat.blt_eq]

attribute [simp] mapF ownMap mapTy evLk evMU evME evES evEn evMM' evRg keyKind keyF intsC scF keyFV
attribute [simp] base dr tmB opdB obB nsOk vc unw ev evAssign isNil optF St.opd constFV lk evLoad evFA evIA evInt eqCs eqVs evBin freshOs zCs zOs fillC places evBuild dataC elemsOf evBS Z.toD evMake evStore
  cellsR argC argCs' argF impCs impOs impPs impF partsC evUn evConv evLen evMM okNo okNoC evApp bnd evSlice argsV argsR ldV expOs rnC rnCs rnF rnTm rnOb autoRn fitFix St.put resC expC expCs expF expRs toRV RetVC rvF argTm
  RV.plain ren renC C.keyIn renF renFs FV.keysIn keysInFs renO Ob.keysIn fitTm fitOb Fit FV.cells TK.agg D.arg argCs argEs D.loc locCs locEs D.fresh freshCs freshEs D.isOwn noOwn Ob.live blt_eq Z.val

end Go.Sm
