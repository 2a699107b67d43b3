/- smithy/smithyref15.quoted walked. Conditions: those in each statement. -/
import Derived.Test.YtpiafpkpdbknfaaGreatDoorShelf
import Derived.Test.YtpiafpkpdbknfaaGreatDoorSBridge
import Derived.Test.YtpiafpkpdbknfaaGreatDoorWMore
import Derived.Test.YtpiafpkpdbknfaaGreatDoorSLexq
import Derived.WalkSpells
import Derived.WalkLawsBesides
import Derived.Lib.Hide
namespace Go.Proofs.YtpiafpkpdbknfaaGreatDoor.Sup
open Go.RowKit Go.Proofs.YtpiafpkpdbknfaaGreatDoorW.PrintWords
set_option linter.unusedVariables false
set_option linter.unusedSimpArgs false

/-- The place that the reference tells. -/
def rP (r : Option (List UInt8 × Nat)) : Int := match r with | some (_, p) => p | none => -1
theorem ba_snoc (b s : ByteArray) (p : Nat) (h : p < s.size) : (b ++ s.extract p (p + 1)).data.toList = b.data.toList ++ [s[p]'h] := by
  rw [ByteArray.data_append, Array.toList_append, ByteArray.data_extract]
  congr 1
  have h' : p < s.data.toList.length := by simpa using h
  rw [Array.toList_extract]
  simp only [List.extract_eq_take_drop]
  rw [show p + 1 - p = 1 by omega, List.drop_eq_getElem_cons h', List.take_succ_cons, List.take_zero]
  rfl
theorem ba_push (b : ByteArray) (x : UInt8) : (b ++ (⟨#[x]⟩ : ByteArray)).data.toList = b.data.toList ++ [x] := by
  rw [ByteArray.data_append, Array.toList_append]
theorem ba_of (b : ByteArray) : (⟨b.data.toList.toArray⟩ : ByteArray) = b := by cases b; simp
theorem ba_size1 (s : ByteArray) (p : Nat) (h : p < s.size) : (s.extract p (p + 1)).size = 1 := by rw [ByteArray.size_extract]; omega
set_option maxHeartbeats 4000000 in
set_option maxRecDepth 100000 in
theorem refquoted_walk (s : ByteArray) (i0 : Nat) (w : World) (hi : i0 < s.size) (hs : s.size ≤ 140737488351232) :
    Calls Tryz.prog 61 #[.string s, .int .i64 i0] w fun e w' => e = .returned (.tuple #[.string (qW (lexq (s.data.toList.drop (i0 + 1)) [] (i0 + 1))), .int .i64 (rP (lexq (s.data.toList.drop (i0 + 1)) [] (i0 + 1)))]) ∧ Drawn0 w w' := by
  obtain ⟨R, hR⟩ : ∃ R, lexq (s.data.toList.drop (i0 + 1)) [] (i0 + 1) = R := ⟨_, rfl⟩
  rw [hR]
  have HR := Lib.hid hR
  clear hR
  go_enter Tryz.func61, Tryz.ntmps61
  go_wp2
  go_loopw [6, 7] (fun b i wr => ∃ (p : Nat) (acc : ByteArray), b = .string acc ∧ i = .int .i64 p ∧ i0 + 1 ≤ p ∧ p ≤ s.size ∧ acc.size ≤ p ∧ Aside0 (lexq (s.data.toList.drop p) acc.data.toList p = R) ∧ Drawn0 w wr) (fun _ i _ => s.size - (intOf i).toNat)
  case atStart => exact ⟨i0 + 1, ⟨#[]⟩, rfl, by go_num, by omega, by omega, Nat.zero_le _, ⟨HR.out⟩, Drawn0.refl _⟩
  case round =>
    obtain ⟨p, acc, rfl, rfl, hp1, hp2, hacc, HA, ⟨nd, rfl⟩⟩ := hrel
    by_cases hlt : p < s.size
    · cases h34 : (((s[p]'hlt).toNat : Int) == 34)
      · cases h10 : (((s[p]'hlt).toNat : Int) == 10)
        · cases h92 : (((s[p]'hlt).toNat : Int) == 92)
          · have HN := Aside0.mk ((lexq_plain s p acc.data.toList hlt h34 h10 h92).symm.trans HA.out)
            rw [← ba_snoc acc s p hlt] at HN
            have hz := ba_size1 s p hlt
            have hz2 : (acc ++ s.extract p (p + 1)).size ≤ p + 1 := by rw [ByteArray.size_append]; omega
            go_wp2
            go_roundw
            case rel => exact ⟨p + 1, acc ++ s.extract p (p + 1), by first | rfl | simp, by go_num, by omega, by omega, hz2, HN, by repeat (first | exact Drawn0.refl _ | apply Drawn0.step)⟩
            case measure => simp [intOf]; omega
          · by_cases hn : p + 1 < s.size
            · obtain ⟨d, hd⟩ : ∃ d, s[p + 1]'hn = d := ⟨_, rfl⟩
              have hE := lexq_esc s p acc.data.toList hlt h34 h10 h92 hn
              have hne : (((p : Int) + 1) == (s.size : Int)) = false := beq_eq_false_iff_ne.2 (by omega)
              have hz := ba_size1 s (p + 1) hn
              have hz2 : (acc ++ s.extract (p + 1) (p + 1 + 1)).size ≤ p + 2 := by rw [ByteArray.size_append]; omega
              have hz3 : (acc ++ (⟨#[10]⟩ : ByteArray)).size ≤ p + 2 := by rw [ByteArray.size_append]; show _ + 1 ≤ _; omega
              cases g34 : (((s[p + 1]'hn).toNat : Int) == 34)
              · cases g92 : (((s[p + 1]'hn).toNat : Int) == 92)
                · cases g110 : (((s[p + 1]'hn).toNat : Int) == 110)
                  · have hx : escOf (s[p + 1]'hn) = none := by unfold escOf; rw [if_neg (u8n (v := 34) g34), if_neg (u8n (v := 92) g92), if_neg (u8n (v := 110) g110)]
                    rw [hx] at hE
                    have HN := Aside0.mk (hE.symm.trans HA.out)
                    clear hE hx hd
                    go_wp2
                    go_ret2
                    have e := HN.out
                    subst e
                    exact ⟨rfl, by repeat (first | exact Drawn0.refl _ | apply Drawn0.step)⟩
                  · have hx : escOf (s[p + 1]'hn) = some 10 := by unfold escOf; rw [if_neg (u8n (v := 34) g34), if_neg (u8n (v := 92) g92), if_pos (u8y (v := 110) g110)]
                    rw [hx] at hE
                    have HN := Aside0.mk (hE.symm.trans HA.out)
                    simp only [← ba_push acc 10] at HN
                    clear hE hx hd
                    go_wp2
                    go_roundw
                    case rel => exact ⟨p + 2, acc ++ ⟨#[10]⟩, by first | rfl | simp, by go_num, by omega, by omega, hz3, HN, by repeat (first | exact Drawn0.refl _ | apply Drawn0.step)⟩
                    case measure => simp [intOf]; omega
                · have hx : escOf (s[p + 1]'hn) = some (s[p + 1]'hn) := by unfold escOf; rw [if_neg (u8n (v := 34) g34), if_pos (u8y (v := 92) g92), u8y (v := 92) g92]
                  rw [hx] at hE
                  have HN := Aside0.mk (hE.symm.trans HA.out)
                  simp only [← ba_snoc acc s (p + 1) hn] at HN
                  clear hE hx hd
                  go_wp2
                  go_roundw
                  case rel => exact ⟨p + 2, acc ++ s.extract (p + 1) (p + 1 + 1), by first | rfl | simp, by go_num, by omega, by omega, hz2, HN, by repeat (first | exact Drawn0.refl _ | apply Drawn0.step)⟩
                  case measure => simp [intOf]; omega
              · have hx : escOf (s[p + 1]'hn) = some (s[p + 1]'hn) := by unfold escOf; rw [if_pos (u8y (v := 34) g34), u8y (v := 34) g34]
                rw [hx] at hE
                have HN := Aside0.mk (hE.symm.trans HA.out)
                simp only [← ba_snoc acc s (p + 1) hn] at HN
                clear hE hx hd
                go_wp2
                go_roundw
                case rel => exact ⟨p + 2, acc ++ s.extract (p + 1) (p + 1 + 1), by first | rfl | simp, by go_num, by omega, by omega, hz2, HN, by repeat (first | exact Drawn0.refl _ | apply Drawn0.step)⟩
                case measure => simp [intOf]; omega
            · have HN := Aside0.mk ((lexq_cut s p acc.data.toList hlt h34 h10 h92 hn).symm.trans HA.out)
              have hne : (((p : Int) + 1) == (s.size : Int)) = true := beq_iff_eq.2 (by omega)
              go_wp2
              go_ret2
              have e := HN.out
              subst e
              exact ⟨rfl, by repeat (first | exact Drawn0.refl _ | apply Drawn0.step)⟩
        · have HN := Aside0.mk ((lexq_nl s p acc.data.toList hlt h34 h10).symm.trans HA.out)
          go_wp2
          go_ret2
          have e := HN.out
          subst e
          exact ⟨rfl, by repeat (first | exact Drawn0.refl _ | apply Drawn0.step)⟩
      · have HN := Aside0.mk ((lexq_quote s p acc.data.toList hlt h34).symm.trans HA.out)
        go_wp2
        go_ret2
        have e := HN.out
        subst e
        exact ⟨by simp only [qW, rP, ba_of]; rfl, by repeat (first | exact Drawn0.refl _ | apply Drawn0.step)⟩
    · have HN := Aside0.mk ((lexq_end s p acc.data.toList hlt).symm.trans HA.out)
      go_wp2
      go_ret2
      have e := HN.out
      subst e
      exact ⟨rfl, by repeat (first | exact Drawn0.refl _ | apply Drawn0.step)⟩

end Go.Proofs.YtpiafpkpdbknfaaGreatDoor.Sup
