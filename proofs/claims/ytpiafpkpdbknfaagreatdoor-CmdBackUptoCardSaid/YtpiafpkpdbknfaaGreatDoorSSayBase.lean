/- cmd.told, Check, Words, Reads, Writes, Said: what is asked of the callees. Conditions: those in each statement. -/
import Derived.Test.YtpiafpkpdbknfaaGreatDoorSParse
namespace Go.Proofs.YtpiafpkpdbknfaaGreatDoor.Sup
open Go.RowKit Go.Proofs.YtpiafpkpdbknfaaGreatDoorW.PrintWords Go.Proofs.YtpiafpkpdbknfaaGreatDoorW.PrintLast Go.Proofs.YtpiafpkpdbknfaaGreatDoorW.PrintMore
attribute [local go_sem] max2_int min2_int max_two min_two max_three min_three max_four min_four
set_option linter.unusedVariables false
set_option linter.unusedSimpArgs false
/-- A command's value as an argument. -/
abbrev cval (op : Int) (dst : ByteArray) (v2 v3 : Value) (st : Int) : Value := .agg #[.int .i64 op, .string dst, v2, v3, .int .i64 st]
/-- 'f', called with the command, tells an object of the type T that Q holds of, and no error. -/
def Gives (f T : Nat) (cv : Value) (w0 : World) (Q : World → Value → Prop) : Prop := ∀ W : World, Below w0.heap.size w0 W → Calls Tryz.prog f #[cv] W fun e w' => (∃ o, e = .returned (.tuple #[.iface T o, .int .i64 0]) ∧ Q w' o) ∧ Below W.heap.size W w'
/-- 'f', called with the command, tells no object, and an error. -/
def Fails (f : Nat) (cv : Value) (w0 : World) (er : Int) : Prop := ∀ W : World, Below w0.heap.size w0 W → Calls Tryz.prog f #[cv] W fun e w' => e = .returned (.tuple #[.nilIface, .int .i64 er]) ∧ Below W.heap.size W w'
/-- A method 'm' of an object that Q holds of tells what R holds of. -/
def Meth (m : Nat) (Q : World → Value → Prop) (w0 : World) (R : World → Value → Prop) : Prop := ∀ (W : World) (o : Value), Q W o → Below w0.heap.size w0 W → Calls Tryz.prog m #[o] W fun e w' => (∃ v, e = .returned v ∧ R w' v) ∧ Below W.heap.size W w'
def Meth2 (m : Nat) (Q : World → Value → Prop) (w0 : World) (a b : Value) : Prop := ∀ (W : World) (o : Value), Q W o → Below w0.heap.size w0 W → Calls Tryz.prog m #[o] W fun e w' => e = .returned (.tuple #[a, b]) ∧ Below W.heap.size W w'
def Stays (Q : World → Value → Prop) : Prop := ∀ (W W' : World) (o : Value), Q W o → Below W.heap.size W W' → Q W' o
def isE (er : Int) (_ : World) (v : Value) : Prop := v = .int .i64 er
end Go.Proofs.YtpiafpkpdbknfaaGreatDoor.Sup
