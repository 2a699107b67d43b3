/- smithy/lex.quoted walked. Conditions: those in each statement. -/
import Derived.Test.YtpiafpkpdbknfaaGreatDoorShelf
import Derived.Test.YtpiafpkpdbknfaaGreatDoorSBridge
import Derived.Test.YtpiafpkpdbknfaaGreatDoorWWords
import Derived.Test.YtpiafpkpdbknfaaGreatDoorSLexq
import Derived.WalkSpells
import Derived.WalkLawsBesides
import Derived.Lib.Builder
import Derived.Lib.Hide
namespace Go.Proofs.YtpiafpkpdbknfaaGreatDoor.Sup
open Go.RowKit Go.Proofs.YtpiafpkpdbknfaaGreatDoorW.PrintWords
set_option linter.unusedVariables false
set_option linter.unusedSimpArgs false

set_option maxHeartbeats 4000000 in
set_option maxRecDepth 100000 in
theorem quoted_walk (s : ByteArray) (i0 : Nat) (w : World) (hi : i0 < s.size) (hs : s.size ≤ 140737488351232) :
    Calls Tryz.prog 57 #[.string s, .int .i64 i0] w fun e w' => e = .returned (.tuple #[.string (qW (lexq (s.data.toList.drop (i0 + 1)) [] (i0 + 1))), .int .i64 (qP (lexq (s.data.toList.drop (i0 + 1)) [] (i0 + 1))), .bool (qB (lexq (s.data.toList.drop (i0 + 1)) [] (i0 + 1)))]) ∧ Below w.heap.size w w' := by
  obtain ⟨R, hR⟩ : ∃ R, lexq (s.data.toList.drop (i0 + 1)) [] (i0 + 1) = R := ⟨_, rfl⟩
  rw [hR]
  have HR := Lib.hid hR
  clear hR
  go_enter Tryz.func57, Tryz.ntmps57
  go_wp2
  go_loopw [1] (fun i wr => ∃ (p : Nat) (acc : List UInt8), i = .int .i64 p ∧ i0 + 1 ≤ p ∧ p ≤ s.size ∧ acc.length ≤ p ∧ Aside0 (lexq (s.data.toList.drop p) acc p = R) ∧ Aside0 (Lib.IsBuilder 108 5 w.heap.size w.heap.size (Lib.byteCells acc) wr) ∧ Aside0 (Below w.heap.size w wr)) (fun i _ => s.size - (intOf i).toNat)
  case atStart => exact ⟨i0 + 1, [], by go_num, by omega, by omega, by simp, ⟨HR.out⟩, ⟨Lib.fresh_isBuilder 108 5 w⟩, ⟨(Below.refl _ _).alloc (Nat.le_refl _) _⟩⟩
  case round =>
    obtain ⟨p, acc, rfl, hp1, hp2, hacc, HA, HI, HB⟩ := hrel
    have hlen : (Lib.byteCells acc).length ≤ p := by simpa [Lib.byteCells] using hacc
    have hBw : w.heap.size ≤ wr.heap.size := HB.out.size
    by_cases hlt : p < s.size
    · cases h34 : (((s[p]'hlt).toNat : Int) == 34)
      · cases h10 : (((s[p]'hlt).toNat : Int) == 10)
        · cases h92 : (((s[p]'hlt).toNat : Int) == 92)
          · have HN := Aside0.mk ((lexq_plain s p acc hlt h34 h10 h92).symm.trans HA.out)
            go_wp2_with (go_at_call 74; refine (Tryz.Builder_WriteByte w.heap.size w.heap.size (Lib.byteCells acc) _ _ HI.out (by omega) hBw).mono ?_; rintro e w1 ⟨rfl, hI1, hB1⟩)
            have HI1 := Aside0.mk hI1
            have HB1 := Aside0.mk (HB.out.trans hB1)
            clear hI1 hB1
            go_roundw
            case rel => exact ⟨p + 1, acc ++ [s[p]'hlt], by go_num, by omega, by omega, by simp; omega, HN, ⟨.inr (by simpa [Lib.byteCells] using HI1.out)⟩, HB1⟩
            case measure => simp [intOf]; omega
          · by_cases hn : p + 1 < s.size
            · obtain ⟨d, hd⟩ : ∃ d, s[p + 1]'hn = d := ⟨_, rfl⟩
              have hE := lexq_esc s p acc hlt h34 h10 h92 hn
              rw [hd] at hE
              rcases esc_index d with ⟨hx, hesc⟩ | ⟨hx, hesc⟩ | ⟨hx, hesc⟩ | ⟨hx, hesc⟩
              · rw [hesc] at hE
                have HN := Aside0.mk (hE.symm.trans HA.out)
                have HX := Aside0.mk hx
                have HD := Aside0.mk hd
                clear hE hesc hx hd
                go_wp2_with (go_at_call 73; refine (Tryz.strings_IndexByte _ _ _).mono ?_; rintro e w1 ⟨rfl, rfl⟩; rw [HD.out, show ((d.toNat : Int)).toNat.toUInt8 = d by simp, show (⟨#[34, 92, 110]⟩ : ByteArray).data.toList = [34, 92, 110] from rfl, HX.out])
                go_ret3
                have e := HN.out
                subst e
                exact ⟨rfl, HB.out⟩
              · rw [hesc] at hE
                have HN := Aside0.mk (hE.symm.trans HA.out)
                have HX := Aside0.mk hx
                have HD := Aside0.mk hd
                clear hE hesc hx hd
                go_wp2_with (first | (go_at_call 73; refine (Tryz.strings_IndexByte _ _ _).mono ?_; rintro e w1 ⟨rfl, rfl⟩; rw [HD.out, show ((d.toNat : Int)).toNat.toUInt8 = d by simp, show (⟨#[34, 92, 110]⟩ : ByteArray).data.toList = [34, 92, 110] from rfl, HX.out]) | (go_at_call 74; refine (Tryz.Builder_WriteByte w.heap.size w.heap.size (Lib.byteCells acc) _ _ HI.out (by omega) hBw).mono ?_; rintro e w1 ⟨rfl, hI1, hB1⟩))
                have HI1 := Aside0.mk hI1
                have HB1 := Aside0.mk (HB.out.trans hB1)
                clear hI1 hB1
                go_roundw
                case rel => exact ⟨p + 2, acc ++ [34], by go_num, by omega, by omega, by simp; omega, HN, ⟨.inr (by rw [show Lib.byteCells (acc ++ [34]) = Lib.byteCells acc ++ [.int .u8 34] by simp [Lib.byteCells]]; exact HI1.out)⟩, HB1⟩
                case measure => simp [intOf]; omega
              · rw [hesc] at hE
                have HN := Aside0.mk (hE.symm.trans HA.out)
                have HX := Aside0.mk hx
                have HD := Aside0.mk hd
                clear hE hesc hx hd
                go_wp2_with (first | (go_at_call 73; refine (Tryz.strings_IndexByte _ _ _).mono ?_; rintro e w1 ⟨rfl, rfl⟩; rw [HD.out, show ((d.toNat : Int)).toNat.toUInt8 = d by simp, show (⟨#[34, 92, 110]⟩ : ByteArray).data.toList = [34, 92, 110] from rfl, HX.out]) | (go_at_call 74; refine (Tryz.Builder_WriteByte w.heap.size w.heap.size (Lib.byteCells acc) _ _ HI.out (by omega) hBw).mono ?_; rintro e w1 ⟨rfl, hI1, hB1⟩))
                have HI1 := Aside0.mk hI1
                have HB1 := Aside0.mk (HB.out.trans hB1)
                clear hI1 hB1
                go_roundw
                case rel => exact ⟨p + 2, acc ++ [92], by go_num, by omega, by omega, by simp; omega, HN, ⟨.inr (by rw [show Lib.byteCells (acc ++ [92]) = Lib.byteCells acc ++ [.int .u8 92] by simp [Lib.byteCells]]; exact HI1.out)⟩, HB1⟩
                case measure => simp [intOf]; omega
              · rw [hesc] at hE
                have HN := Aside0.mk (hE.symm.trans HA.out)
                have HX := Aside0.mk hx
                have HD := Aside0.mk hd
                clear hE hesc hx hd
                go_wp2_with (first | (go_at_call 73; refine (Tryz.strings_IndexByte _ _ _).mono ?_; rintro e w1 ⟨rfl, rfl⟩; rw [HD.out, show ((d.toNat : Int)).toNat.toUInt8 = d by simp, show (⟨#[34, 92, 110]⟩ : ByteArray).data.toList = [34, 92, 110] from rfl, HX.out]) | (go_at_call 74; refine (Tryz.Builder_WriteByte w.heap.size w.heap.size (Lib.byteCells acc) _ _ HI.out (by omega) hBw).mono ?_; rintro e w1 ⟨rfl, hI1, hB1⟩))
                have HI1 := Aside0.mk hI1
                have HB1 := Aside0.mk (HB.out.trans hB1)
                clear hI1 hB1
                go_roundw
                case rel => exact ⟨p + 2, acc ++ [10], by go_num, by omega, by omega, by simp; omega, HN, ⟨.inr (by rw [show Lib.byteCells (acc ++ [10]) = Lib.byteCells acc ++ [.int .u8 10] by simp [Lib.byteCells]]; exact HI1.out)⟩, HB1⟩
                case measure => simp [intOf]; omega
            · have HN := Aside0.mk ((lexq_cut s p acc hlt h34 h10 h92 hn).symm.trans HA.out)
              go_wp2
              go_ret3
              have e := HN.out
              subst e
              exact ⟨rfl, HB.out⟩
        · have HN := Aside0.mk ((lexq_nl s p acc hlt h34 h10).symm.trans HA.out)
          go_wp2
          go_ret3
          have e := HN.out
          subst e
          exact ⟨rfl, HB.out⟩
      · have HN := Aside0.mk ((lexq_quote s p acc hlt h34).symm.trans HA.out)
        go_wp2_with (go_at_call 72; refine (Tryz.Builder_String_any w.heap.size w.heap.size acc _ HI.out hBw).mono ?_; rintro e w1 ⟨rfl, hB1⟩)
        have HB1 := Aside0.mk (HB.out.trans hB1)
        clear hB1
        go_ret3
        have e := HN.out
        subst e
        exact ⟨rfl, HB1.out⟩
    · have HN := Aside0.mk ((lexq_end s p acc hlt).symm.trans HA.out)
      go_wp2
      go_ret3
      have e := HN.out
      subst e
      exact ⟨rfl, HB.out⟩

end Go.Proofs.YtpiafpkpdbknfaaGreatDoor.Sup
