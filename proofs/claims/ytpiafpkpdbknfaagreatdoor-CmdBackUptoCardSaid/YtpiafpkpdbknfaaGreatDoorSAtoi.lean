/- strconv.Atoi and strconv.Itoa, as the walks meet them: Atoi gives a number and no error, or an error; Itoa the numeral. Conditions: the package variables lie (Tab). -/
import Derived.Test.YtpiafpkpdbknfaaGreatDoorLib
import Derived.Test.YtpiafpkpdbknfaaGreatDoorSTab
import Derived.Test.YtpiafpkpdbknfaaGreatDoorWWords
namespace Go.Proofs.YtpiafpkpdbknfaaGreatDoor.Sup
open Go.RowKit Go.Proofs.YtpiafpkpdbknfaaGreatDoorW.PrintWords
theorem below_grow {w : World} (k : Nat) (os : Array Obj) : Below w.heap.size w (Sort.grow (w.drewN k) os) :=
  ⟨rfl, rfl, rfl, by show w.heap.size ≤ (w.heap ++ os).size; rw [Array.size_append]; omega, fun k hk => by show (w.heap ++ os)[k]? = _; rw [Array.getElem?_append_left hk]⟩
theorem atoi_call (s : ByteArray) (hs : s.size ≤ 140737488355328) (w : World) (hT : Tab w) :
    Calls Tryz.prog 34 #[.string s] w fun e w' => Below w.heap.size w w' ∧
      ((∃ v, Lib.atoiAll s.data.toList = .ok v ∧ e = .returned (.tuple #[.int .i64 v, .nilIface])) ∨ ((∀ v, Lib.atoiAll s.data.toList ≠ .ok v) ∧ ∃ m t p, e = .returned (.tuple #[.int .i64 m, .iface t (.pointer p)]))) := by
  obtain ⟨⟨t1, p1, h1⟩, ⟨t2, p2, h2⟩, h3⟩ := hT
  cases h : Lib.atoiAll s.data.toList with
  | ok v =>
    refine (Tryz.strconv_Atoi_ok s (by omega) v h w).mono fun e w' ⟨he, hw⟩ => ⟨?_, .inl ⟨v, rfl, he⟩⟩
    rcases hw with rfl | ⟨t, rfl⟩
    · exact Below.refl _ _
    · exact bytes_below (Below.refl _ _) (Nat.le_refl _) _ _
  | range =>
    refine (Tryz.strconv_Atoi_range s (by omega) h _ w h2 (.inr ⟨t2, p2, rfl⟩)).mono fun e w' ⟨N, he, _, _, hb⟩ => ⟨hb, .inr ⟨fun v => by simp, _, _, _, he⟩⟩
  | _ =>
    refine (Tryz.strconv_Atoi_syntax s (by omega) h _ w h1 (.inr ⟨t1, p1, rfl⟩)).mono fun e w' ⟨N, he, _, _, hb⟩ => ⟨hb, .inr ⟨fun v => by simp, 0, _, _, he⟩⟩
theorem itoa_call (n : Int) (h0 : -9223372036854775808 ≤ n) (h1 : n ≤ 9223372036854775807) (w : World) (hT : Tab w) :
    Calls Tryz.prog 35 #[.int .i64 n] w fun e w' => e = .returned (.string ⟨(Lib.itoa n).toArray⟩) ∧ Below w.heap.size w w' := by
  refine (Tryz.strconv_Itoa n h0 h1 w hT.2.2).mono fun e w' ⟨he, k, os, hw⟩ => ⟨he, ?_⟩
  subst hw
  exact below_grow k os
end Go.Proofs.YtpiafpkpdbknfaaGreatDoor.Sup
