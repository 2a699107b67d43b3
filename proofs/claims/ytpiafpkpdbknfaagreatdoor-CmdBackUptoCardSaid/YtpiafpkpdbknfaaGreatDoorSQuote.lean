/- How a word of a command line is written, as a function on lists of bytes. Conditions: those in each statement. -/
import Derived.Lib.Bytealg
namespace Go.Proofs.YtpiafpkpdbknfaaGreatDoor.Sup
/-- A byte inside quotes. -/
def escB (b : UInt8) : List UInt8 := if b = 34 then [92, 34] else if b = 92 then [92, 92] else if b = 10 then [92, 110] else [b]
def escL : List UInt8 → List UInt8
  | [] => []
  | b :: l => escB b ++ escL l
/-- Is a byte one that a plain word has not? -/
def odd (b : UInt8) : Bool := [32, 9, 10, 34, 92].contains b
def plainL (l : List UInt8) : Bool := !l.isEmpty && !(l.any odd)
def quoteL (l : List UInt8) : List UInt8 := if plainL l then l else 34 :: (escL l ++ [34])
theorem escB_len (b : UInt8) : 1 ≤ (escB b).length ∧ (escB b).length ≤ 2 := by
  unfold escB
  split
  · decide
  · split
    · decide
    · split
      · decide
      · simp
theorem escL_len : ∀ l : List UInt8, (escL l).length ≤ 2 * l.length
  | [] => by simp [escL]
  | b :: l => by have := escL_len l; have := (escB_len b).2; simp [escL]; omega
theorem quoteL_len (l : List UInt8) : (quoteL l).length ≤ 2 * l.length + 2 := by
  unfold quoteL
  split
  · omega
  · have := escL_len l; simp; omega
end Go.Proofs.YtpiafpkpdbknfaaGreatDoor.Sup
