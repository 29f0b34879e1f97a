/- The statements' example: a write, a crash that tears, what is left. Conditions: none. -/
import Derived.Test.YtkhdmbgcbogndaaTh
set_option linter.unusedVariables false
set_option linter.unusedSimpArgs false
namespace Go.Proofs.Ytkhdmbgcbogndaa
open Go Go.RowKit

def awA : List UInt8 := fillN 7 512
def awB : List UInt8 := fillN 9 512
def aw0 : Dv := Dv.new 3
def aw1 : Dv := (aw0.write 1 awA).2
def aw2 : Dv := (aw1.write 1 awB).2
def aw3 : Dv := aw2.sync.2
def aw4 : Dv := (aw3.write 1 awA).2
def aw5 : Dv := (aw4.crash [] 0 2).2
def aw6 : Dv := aw5.up
set_option maxRecDepth 100000
theorem awF : (aw0.write 1 awA).1 = 0 ∧ (aw1.write 1 awB).1 = 0 ∧ aw2.sync.1 = 0 ∧ (aw3.write 1 awA).1 = 0 ∧ aw4.q.length = 1 ∧ (aw4.crash [] 0 2).1 = 0 ∧ aw5.down = true ∧ aw5.sync.1 = 40 ∧ aw6.calls = 4 ∧ (aw6.read 1).2 = 0 ∧ (aw6.read 1).1.length = 512 ∧ (aw6.read 1).1[1]? = some 7 ∧ (aw6.read 1).1[2]? = some 9 ∧ (aw6.img.drop 512).take 512 = (aw6.read 1).1 ∧ (aw6.arm (-1) [] 0 0).1 = 4 ∧ aw6.img.length = 1536 ∧ aw1.q.length = 1 ∧ aw2.q.length = 2 ∧ aw3.q.length = 0 ∧ aw6.q.length = 0 ∧ aw1.keep = [] ∧ aw2.keep = [] ∧ aw3.keep = [] ∧ aw5.keep = [] ∧ aw0.q.length = 0 ∧ aw5.q.length = 0 := by decide +kernel
end Go.Proofs.Ytkhdmbgcbogndaa
