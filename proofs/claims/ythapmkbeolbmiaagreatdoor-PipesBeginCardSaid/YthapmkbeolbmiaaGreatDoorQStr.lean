/-
  What is defined here: when strange is to say so, as a formula over the fields.
  Conditions: none (definitions only).
-/
import Derived.Test.YthapmkbeolbmiaaGreatDoorQScal
namespace Go.Proofs.YthapmkbeolbmiaaGreatDoor
open Go.Sy Go.RowKit

set_option maxRecDepth 1000000

noncomputable def jArg : V := .agg [.int .u8 (.x 11), .int .u8 (.x 12), .int .u16 (.x 13), .int .u16 (.x 14), .int .u16 (.x 15), .sarr 4096 1 (.x 16), .int .i64 (.x 17), .bool (.eq (.x 18) (.n 1)), .sarr 4097 1 (.x 19), .int .i64 (.x 20)]
def jLf : List Lf := [.int .u8, .int .u8, .int .u16, .int .u16, .int .u16]
noncomputable def jMem : Mem := ⟨.nil, 4098, .nil, 0⟩

def fC : BF := .at (.eq (.x 3) (.n 0))
def fI : BF := .at (.eq (.x 3) (.n 1))
def fN : BF := .at (.eq (.x 2) (.n 1))
def fStream : BF := .and (.no fC) (.no fI)
def nz (i : Nat) : BF := .no (.at (.eq (.x i) (.n 0)))
def fS : BF := .or (nz 11) (.or (nz 12) (.or (nz 13) (.or (nz 14) (nz 15))))
def fD : BF := .at (.lt (.n 0) (.x 16))
def fP : BF := .at (.lt (.n 0) (.x 19))
def fT : BF := .or (.and (.no (.at (.lt (.x 11) (.n 128)))) (nz 16)) (.and (.at (.lt (.x 11) (.n 128))) (.no (.at (.eq (.x 16) (.x 15)))))
def fOut : BF := .and fStream (.no fN)
def fIn : BF := .and fStream fN
def fStr : BF :=
  .or (.and fS (.no fC)) (.or (.and fD (.no (.or fC fOut))) (.or (.and (nz 17) (.no fIn)) (.or (.and (.at (.eq (.x 18) (.n 1))) (.no fOut)) (.or (.and fP (.no (.and fI (.no fN)))) (.or (.and (nz 20) (.no (.and fI fN)))
    (.or (.and (.and fI fN) (.at (.lt (.x 20) (.n 1)))) (.or (.and (.and fI (.no fN)) (.no fP)) (.or (.at (.lt (.x 17) (.n 0))) (.or (.at (.lt (.x 20) (.n 0))) (.and fC fT))))))))))

end Go.Proofs.YthapmkbeolbmiaaGreatDoor
