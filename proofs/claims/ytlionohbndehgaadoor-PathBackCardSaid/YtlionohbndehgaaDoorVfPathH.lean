
/- Paths as the reference takes them: they are the program's. No condition but sizes. -/
import Derived.Test.YtlionohbndehgaaDoorVfPathF
import Derived.Test.YtlionohbndehgaaDoorVfDoubleC
namespace Go.Proofs.YtlionohbndehgaaDoor.Vf
set_option linter.unusedVariables false
set_option linter.unusedSimpArgs false

def refN (s : List UInt8) : Nat × Nat := match numP s with | none => (0, 0) | some p => (p.1, drun s)
theorem drop1_cons (c : UInt8) (l : List UInt8) : ((c :: l).take (c :: l).length).drop (Int.toNat 1) = l := by
  rw [List.take_length]; rfl
theorem grow20 (acc : List Stp) (x : Stp) : (((acc.map stA).drop 0).take (acc.map stA).length) ++ [stA x] = (acc ++ [x]).map stA := by
  rw [List.drop_zero, List.take_length, List.map_append]; rfl
def longN (x : Stp) : Bool := decide (128 < x.2.1.length)
def pathR (x : List Stp × Int) : Option Res := some ⟨.tup [.row 3 (x.1.map stA), .int .i64 x.2], false, []⟩
end Go.Proofs.YtlionohbndehgaaDoor.Vf
