
/- The reference's text of rows is the program's. No condition but sizes. -/
import Derived.Test.YtpjpmfchcijikaaDoorVfFold
namespace Go.Proofs.YtpjpmfchcijikaaDoor.Vf
set_option linter.unusedVariables false
set_option linter.unusedSimpArgs false

theorem take_succ_getD (l : List (List UInt8)) (i : Nat) (h : i < l.length) : l.take (i + 1) = l.take i ++ [l.getD i []] := by
  rw [List.take_add_one, List.getElem?_eq_getElem h]
  simp [List.getD, h]
theorem drop_take_getD (l : List (List UInt8)) (i n : Nat) (h : i < n) (hn : n ≤ l.length) : (l.take n).drop i = l.getD i [] :: (l.take n).drop (i + 1) := by
  have hl : i < (l.take n).length := by rw [List.length_take]; omega
  rw [List.drop_eq_getElem_cons hl]
  simp [List.getElem_take, List.getD, show i < l.length by omega]
theorem join_snoc (a : List (List UInt8)) (x : List UInt8) : Lib.join (a ++ [x]) [10] = if a = [] then x else Lib.join a [10] ++ [10] ++ x := by
  cases a with
  | nil => simp [Lib.join_one]
  | cons y a =>
    rw [List.cons_append, Lib.join_cons, Lib.join_cons, if_neg (by simp)]
    simp [Lib.joinTail]

end Go.Proofs.YtpjpmfchcijikaaDoor.Vf
