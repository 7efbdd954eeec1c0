/- Printed by gen.py, a program of this work: GT -/
import Derived.Test.YtonmmfjagkgifaaWp
set_option linter.unusedVariables false
set_option linter.unusedSimpArgs false
namespace Go.Proofs.Ytonmmfjagkgifaa
open Go.RowKit
structure S_Order where
  fBuyer : Int
  fItem : Int
  fNumber : Int
  fPrice : Int
  fDay : Int
deriving Inhabited, DecidableEq
def R_Order : Rd S_Order := fun _ x cs => cs = [Value.int .i8 x.fBuyer, Value.int .i8 x.fItem, Value.int .i16 x.fNumber, Value.int .i16 x.fPrice, Value.int .i16 x.fDay]
theorem R_Order.ok : RdOk R_Order 5 := ⟨by omega, fun _ h => h, fun h => by rw [h]; rfl, fun h => by rw [h]; rfl⟩
structure S_Return where
  fBuyer : Int
  fItem : Int
  fNumber : Int
  fDay : Int
deriving Inhabited, DecidableEq
def R_Return : Rd S_Return := fun _ x cs => cs = [Value.int .i8 x.fBuyer, Value.int .i8 x.fItem, Value.int .i16 x.fNumber, Value.int .i16 x.fDay]
theorem R_Return.ok : RdOk R_Return 4 := ⟨by omega, fun _ h => h, fun h => by rw [h]; rfl, fun h => by rw [h]; rfl⟩
structure S_Match where
  fReturn : Int
  fOrder : Int
  fNumber : Int
deriving Inhabited, DecidableEq
def R_Match : Rd S_Match := fun _ x cs => cs = [Value.int .i8 x.fReturn, Value.int .i8 x.fOrder, Value.int .i16 x.fNumber]
theorem R_Match.ok : RdOk R_Match 3 := ⟨by omega, fun _ h => h, fun h => by rw [h]; rfl, fun h => by rw [h]; rfl⟩
end Go.Proofs.Ytonmmfjagkgifaa
