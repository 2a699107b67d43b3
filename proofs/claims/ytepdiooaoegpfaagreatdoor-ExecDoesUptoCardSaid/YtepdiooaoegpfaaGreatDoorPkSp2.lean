/- Written by programs of this session: laws and contracts that the law's proof stands on, merged into one text. Conditions: none beyond those in each statement. -/
import Derived.Test.YtepdiooaoegpfaaGreatDoorPkSh1
import Derived.Test.YtepdiooaoegpfaaGreatDoorPkWd2
import Derived.Test.YtepdiooaoegpfaaGreatDoorPkSp1
import Derived.WalkSpells
import Derived.WalkLawsBesides
import Derived.Lib.Builder
import Derived.Lib.Hide
import Derived.Shelf.LaysM
import Derived.Shelf.Strconv.Itoa3
import Derived.Shelf.LaysC
import Derived.Shelf.Strconv.AtoiAll
import Derived.Test.YtepdiooaoegpfaaGreatDoorProg
section
/- smithy/lex.quoted walked. Conditions: those in each statement. -/
namespace Go.Proofs.YtepdiooaoegpfaaGreatDoor.Sup
open Go.RowKit Go.Proofs.YtepdiooaoegpfaaGreatDoorW.PrintWords
set_option linter.unusedVariables false
set_option linter.unusedSimpArgs false

set_option maxHeartbeats 4000000 in
set_option maxRecDepth 100000 in
theorem quoted_walk (s : ByteArray) (i0 : Nat) (w : World) (hi : i0 < s.size) (hs : s.size ≤ 140737488351232) :
    Calls Tryz.prog 85 #[.string s, .int .i64 i0] w fun e w' => e = .returned (.tuple #[.string (qW (lexq (s.data.toList.drop (i0 + 1)) [] (i0 + 1))), .int .i64 (qP (lexq (s.data.toList.drop (i0 + 1)) [] (i0 + 1))), .bool (qB (lexq (s.data.toList.drop (i0 + 1)) [] (i0 + 1)))]) ∧ Below w.heap.size w w' := by
  obtain ⟨R, hR⟩ : ∃ R, lexq (s.data.toList.drop (i0 + 1)) [] (i0 + 1) = R := ⟨_, rfl⟩
  rw [hR]
  have HR := Lib.hid hR
  clear hR
  go_enter Tryz.func85, Tryz.ntmps85
  go_wp2
  go_loopw [1] (fun i wr => ∃ (p : Nat) (acc : List UInt8), i = .int .i64 p ∧ i0 + 1 ≤ p ∧ p ≤ s.size ∧ acc.length ≤ p ∧ Aside0 (lexq (s.data.toList.drop p) acc p = R) ∧ Aside0 (Lib.IsBuilder 125 5 w.heap.size w.heap.size (Lib.byteCells acc) wr) ∧ Aside0 (Below w.heap.size w wr)) (fun i _ => s.size - (intOf i).toNat)
  case atStart => exact ⟨i0 + 1, [], by go_num, by omega, by omega, by simp, ⟨HR.out⟩, ⟨Lib.fresh_isBuilder 125 5 w⟩, ⟨(Below.refl _ _).alloc (Nat.le_refl _) _⟩⟩
  case round =>
    obtain ⟨p, acc, rfl, hp1, hp2, hacc, HA, HI, HB⟩ := hrel
    have hlen : (Lib.byteCells acc).length ≤ p := by simpa [Lib.byteCells] using hacc
    have hBw : w.heap.size ≤ wr.heap.size := HB.out.size
    by_cases hlt : p < s.size
    · cases h34 : (((s[p]'hlt).toNat : Int) == 34)
      · cases h10 : (((s[p]'hlt).toNat : Int) == 10)
        · cases h92 : (((s[p]'hlt).toNat : Int) == 92)
          · have HN := Aside0.mk ((lexq_plain s p acc hlt h34 h10 h92).symm.trans HA.out)
            go_wp2_with (go_at_call 109; refine (Tryz.Builder_WriteByte w.heap.size w.heap.size (Lib.byteCells acc) _ _ HI.out (by omega) hBw).mono ?_; rintro e w1 ⟨rfl, hI1, hB1⟩)
            have HI1 := Aside0.mk hI1
            have HB1 := Aside0.mk (HB.out.trans hB1)
            clear hI1 hB1
            go_roundw
            case rel => exact ⟨p + 1, acc ++ [s[p]'hlt], by go_num, by omega, by omega, by simp; omega, HN, ⟨.inr (by simpa [Lib.byteCells] using HI1.out)⟩, HB1⟩
            case measure => simp [intOf]; omega
          · by_cases hn : p + 1 < s.size
            · obtain ⟨d, hd⟩ : ∃ d, s[p + 1]'hn = d := ⟨_, rfl⟩
              have hE := lexq_esc s p acc hlt h34 h10 h92 hn
              rw [hd] at hE
              rcases esc_index d with ⟨hx, hesc⟩ | ⟨hx, hesc⟩ | ⟨hx, hesc⟩ | ⟨hx, hesc⟩
              · rw [hesc] at hE
                have HN := Aside0.mk (hE.symm.trans HA.out)
                have HX := Aside0.mk hx
                have HD := Aside0.mk hd
                clear hE hesc hx hd
                go_wp2_with (go_at_call 65; refine (Tryz.strings_IndexByte _ _ _).mono ?_; rintro e w1 ⟨rfl, rfl⟩; rw [HD.out, show ((d.toNat : Int)).toNat.toUInt8 = d by simp, show (⟨#[34, 92, 110]⟩ : ByteArray).data.toList = [34, 92, 110] from rfl, HX.out])
                go_ret3
                have e := HN.out
                subst e
                exact ⟨rfl, HB.out⟩
              · rw [hesc] at hE
                have HN := Aside0.mk (hE.symm.trans HA.out)
                have HX := Aside0.mk hx
                have HD := Aside0.mk hd
                clear hE hesc hx hd
                go_wp2_with (first | (go_at_call 65; refine (Tryz.strings_IndexByte _ _ _).mono ?_; rintro e w1 ⟨rfl, rfl⟩; rw [HD.out, show ((d.toNat : Int)).toNat.toUInt8 = d by simp, show (⟨#[34, 92, 110]⟩ : ByteArray).data.toList = [34, 92, 110] from rfl, HX.out]) | (go_at_call 109; refine (Tryz.Builder_WriteByte w.heap.size w.heap.size (Lib.byteCells acc) _ _ HI.out (by omega) hBw).mono ?_; rintro e w1 ⟨rfl, hI1, hB1⟩))
                have HI1 := Aside0.mk hI1
                have HB1 := Aside0.mk (HB.out.trans hB1)
                clear hI1 hB1
                go_roundw
                case rel => exact ⟨p + 2, acc ++ [34], by go_num, by omega, by omega, by simp; omega, HN, ⟨.inr (by rw [show Lib.byteCells (acc ++ [34]) = Lib.byteCells acc ++ [.int .u8 34] by simp [Lib.byteCells]]; exact HI1.out)⟩, HB1⟩
                case measure => simp [intOf]; omega
              · rw [hesc] at hE
                have HN := Aside0.mk (hE.symm.trans HA.out)
                have HX := Aside0.mk hx
                have HD := Aside0.mk hd
                clear hE hesc hx hd
                go_wp2_with (first | (go_at_call 65; refine (Tryz.strings_IndexByte _ _ _).mono ?_; rintro e w1 ⟨rfl, rfl⟩; rw [HD.out, show ((d.toNat : Int)).toNat.toUInt8 = d by simp, show (⟨#[34, 92, 110]⟩ : ByteArray).data.toList = [34, 92, 110] from rfl, HX.out]) | (go_at_call 109; refine (Tryz.Builder_WriteByte w.heap.size w.heap.size (Lib.byteCells acc) _ _ HI.out (by omega) hBw).mono ?_; rintro e w1 ⟨rfl, hI1, hB1⟩))
                have HI1 := Aside0.mk hI1
                have HB1 := Aside0.mk (HB.out.trans hB1)
                clear hI1 hB1
                go_roundw
                case rel => exact ⟨p + 2, acc ++ [92], by go_num, by omega, by omega, by simp; omega, HN, ⟨.inr (by rw [show Lib.byteCells (acc ++ [92]) = Lib.byteCells acc ++ [.int .u8 92] by simp [Lib.byteCells]]; exact HI1.out)⟩, HB1⟩
                case measure => simp [intOf]; omega
              · rw [hesc] at hE
                have HN := Aside0.mk (hE.symm.trans HA.out)
                have HX := Aside0.mk hx
                have HD := Aside0.mk hd
                clear hE hesc hx hd
                go_wp2_with (first | (go_at_call 65; refine (Tryz.strings_IndexByte _ _ _).mono ?_; rintro e w1 ⟨rfl, rfl⟩; rw [HD.out, show ((d.toNat : Int)).toNat.toUInt8 = d by simp, show (⟨#[34, 92, 110]⟩ : ByteArray).data.toList = [34, 92, 110] from rfl, HX.out]) | (go_at_call 109; refine (Tryz.Builder_WriteByte w.heap.size w.heap.size (Lib.byteCells acc) _ _ HI.out (by omega) hBw).mono ?_; rintro e w1 ⟨rfl, hI1, hB1⟩))
                have HI1 := Aside0.mk hI1
                have HB1 := Aside0.mk (HB.out.trans hB1)
                clear hI1 hB1
                go_roundw
                case rel => exact ⟨p + 2, acc ++ [10], by go_num, by omega, by omega, by simp; omega, HN, ⟨.inr (by rw [show Lib.byteCells (acc ++ [10]) = Lib.byteCells acc ++ [.int .u8 10] by simp [Lib.byteCells]]; exact HI1.out)⟩, HB1⟩
                case measure => simp [intOf]; omega
            · have HN := Aside0.mk ((lexq_cut s p acc hlt h34 h10 h92 hn).symm.trans HA.out)
              go_wp2
              go_ret3
              have e := HN.out
              subst e
              exact ⟨rfl, HB.out⟩
        · have HN := Aside0.mk ((lexq_nl s p acc hlt h34 h10).symm.trans HA.out)
          go_wp2
          go_ret3
          have e := HN.out
          subst e
          exact ⟨rfl, HB.out⟩
      · have HN := Aside0.mk ((lexq_quote s p acc hlt h34).symm.trans HA.out)
        go_wp2_with (go_at_call 70; refine (Tryz.Builder_String_any w.heap.size w.heap.size acc _ HI.out hBw).mono ?_; rintro e w1 ⟨rfl, hB1⟩)
        have HB1 := Aside0.mk (HB.out.trans hB1)
        clear hB1
        go_ret3
        have e := HN.out
        subst e
        exact ⟨rfl, HB1.out⟩
    · have HN := Aside0.mk ((lexq_end s p acc hlt).symm.trans HA.out)
      go_wp2
      go_ret3
      have e := HN.out
      subst e
      exact ⟨rfl, HB.out⟩

end Go.Proofs.YtepdiooaoegpfaaGreatDoor.Sup
end
section
/-
  DERIVED: THE SHELF's CONTRACTS AT THIS DUMP, IN PLAIN WORDS (tools/lay-plain.mjs out of 'TryzShelf.lean', which tools/lay-shelf.mjs wrote): THE SAME DECLARATIONS UNDER THE SAME NAMES: 'import', 'namespace', 'open', 'def', 'theorem' AND NOTHING ELSE: no command of the shelf's: FOR A HAND-IN. Each laying: the table of numbers ('.._ren') and one theorem, a field a fact of the dump's own or the kernel's comparison; each contract: ONE APPLICATION.
-/
namespace Go.Proofs
open Go.Shelf
def Tryz.laysM171_ren : Go.Shelf.Ren := ⟨fun | 171 => 92 | 243 => 116 | 246 => 131 | 283 => 138 | 284 => 139 | 285 => 140 | 286 => 141 | 129 => 146 | 317 => 145 | 318 => 147 | 319 => 148 | 320 => 149 | 337 => 151 | 338 => 152 | n => n, fun | 3 => 3 | 9 => 9 | 2 => 2 | 4 => 4 | 171 => 203 | 0 => 0 | 53 => 196 | 37 => 123 | 5 => 5 | 173 => 206 | 212 => 213 | 51 => 214 | 20 => 20 | 213 => 215 | 46 => 184 | 232 => 219 | 233 => 220 | n => n, fun | 17 => 3 | 18 => 4 | 19 => 5 | n => n⟩
theorem Tryz.laysM171 : Go.Proofs.LaysM.n171 Tryz.prog Tryz.laysM171_ren := {
  mixed := by kernel_rfl
  f129 := Tryz.func146.trans (congrArg some (by kernel_rfl))
  f171 := Tryz.func92.trans (congrArg some (by kernel_rfl))
  f243 := Tryz.func116.trans (congrArg some (by kernel_rfl))
  f246 := Tryz.func131.trans (congrArg some (by kernel_rfl))
  f283 := Tryz.func138.trans (congrArg some (by kernel_rfl))
  f284 := Tryz.func139.trans (congrArg some (by kernel_rfl))
  f285 := Tryz.func140.trans (congrArg some (by kernel_rfl))
  f286 := Tryz.func141.trans (congrArg some (by kernel_rfl))
  f317 := Tryz.func145.trans (congrArg some (by kernel_rfl))
  f318 := Tryz.func147.trans (congrArg some (by kernel_rfl))
  f319 := Tryz.func148.trans (congrArg some (by kernel_rfl))
  f320 := Tryz.func149.trans (congrArg some (by kernel_rfl))
  f337 := Tryz.func151.trans (congrArg some (by kernel_rfl))
  f338 := Tryz.func152.trans (congrArg some (by kernel_rfl))
  t0 := Tryz.underlying0
  a0 := Tryz.isAgg0
  z0 := Tryz.sizeOf0
  v0 := Tryz.zeroValue0
  t2 := Tryz.underlying2
  a2 := Tryz.isAgg2
  z2 := Tryz.sizeOf2
  v2 := Tryz.zeroValue2
  t3 := Tryz.underlying3
  a3 := Tryz.isAgg3
  z3 := Tryz.sizeOf3
  v3 := Tryz.zeroValue3
  t4 := Tryz.underlying4
  a4 := Tryz.isAgg4
  z4 := Tryz.sizeOf4
  v4 := Tryz.zeroValue4
  t5 := Tryz.underlying5
  a5 := Tryz.isAgg5
  z5 := Tryz.sizeOf5
  v5 := Tryz.zeroValue5
  t9 := Tryz.underlying9
  a9 := Tryz.isAgg9
  z9 := Tryz.sizeOf9
  v9 := Tryz.zeroValue9
  t20 := Tryz.underlying20
  a20 := Tryz.isAgg20
  z20 := Tryz.sizeOf20
  v20 := Tryz.zeroValue20
  t37 := Tryz.underlying123
  a37 := Tryz.isAgg123
  z37 := Tryz.sizeOf123
  v37 := Tryz.zeroValue123
  t46 := Tryz.underlying184
  a46 := Tryz.isAgg184
  z46 := Tryz.sizeOf184
  v46 := Tryz.zeroValue184
  t51 := Tryz.underlying214
  a51 := Tryz.isAgg214
  z51 := Tryz.sizeOf214
  v51 := Tryz.zeroValue214
  t53 := Tryz.underlying196
  a53 := Tryz.isAgg196
  z53 := Tryz.sizeOf196
  v53 := Tryz.zeroValue196
  t171 := Tryz.underlying203
  a171 := Tryz.isAgg203
  z171 := Tryz.sizeOf203
  v171 := Tryz.zeroValue203
  t173 := Tryz.underlying206
  a173 := Tryz.isAgg206
  z173 := Tryz.sizeOf206
  v173 := Tryz.zeroValue206
  t212 := Tryz.underlying213
  a212 := Tryz.isAgg213
  z212 := Tryz.sizeOf213
  v212 := Tryz.zeroValue213
  t213 := Tryz.underlying215
  a213 := Tryz.isAgg215
  z213 := Tryz.sizeOf215
  t232 := Tryz.underlying219
  a232 := Tryz.isAgg219
  z232 := Tryz.sizeOf219
  v232 := Tryz.zeroValue219
  t233 := Tryz.underlying220
  a233 := Tryz.isAgg220
  z233 := Tryz.sizeOf220
  v233 := Tryz.zeroValue220
  g17 := by kernel_rfl
  g18 := by kernel_rfl
  g19 := by kernel_rfl
  i0 := by kernel_rfl
  i2 := by kernel_rfl
  i3 := by kernel_rfl
  i4 := by kernel_rfl
  i5 := by kernel_rfl
  i9 := by kernel_rfl
  i20 := by kernel_rfl
  i37 := by kernel_rfl
  i46 := by kernel_rfl
  i51 := by kernel_rfl
  i53 := by kernel_rfl
  i171 := by kernel_rfl
  i173 := by kernel_rfl
  i212 := by kernel_rfl
  i232 := by kernel_rfl
  i233 := by kernel_rfl
  m17 := by kernel_rfl
  m18 := by kernel_rfl
  m19 := by kernel_rfl }
open Go.RowKit Go.Sort Go.Lib in
/-- strconv.Itoa: "Itoa is equivalent to FormatInt(int64(i), 10).": i's DECIMAL NUMERAL ('Lib.itoa': a '-' where i is negative, then the digits), FOR EVERY int. The world behind the call: the world before it, new blocks behind the heap (the library's 'var a [24]byte'), draws. (LAID: no walk: one application.) -/
theorem Tryz.strconv_Itoa (n : Int) (h0 : -9223372036854775808 ≤ n) (h1 : n ≤ 9223372036854775807) (w : World) (htab : Lib.TabIs Tryz.prog w "internal/strconv.uint64pow10" .u64 Lib.pow10Tab) :
    Calls Tryz.prog 92 #[.int .i64 n] w fun e w' => e = .returned (.string ⟨(Lib.itoa n).toArray⟩) ∧ ∃ k os, w' = grow (w.drewN k) os := Any.strconv_Itoa Tryz.laysM171 n h0 h1 w htab
def Tryz.laysC172_ren : Go.Shelf.Ren := ⟨fun | 172 => 91 | 244 => 114 | 245 => 115 | 247 => 126 | 279 => 127 | 280 => 128 | 281 => 129 | 282 => 130 | 287 => 135 | 316 => 136 | 171 => 92 | 205 => 137 | 321 => 143 | 322 => 144 | 243 => 116 | 246 => 131 | 283 => 138 | 284 => 139 | 285 => 140 | 286 => 141 | 129 => 146 | 317 => 145 | 318 => 147 | 319 => 148 | 320 => 149 | 337 => 151 | 338 => 152 | n => n, fun | 9 => 9 | 3 => 3 | 75 => 127 | 76 => 128 | 4 => 4 | 5 => 5 | 167 => 188 | 37 => 123 | 0 => 0 | 85 => 189 | 2 => 2 | 168 => 191 | 53 => 196 | 175 => 197 | 46 => 184 | 210 => 201 | 127 => 150 | 145 => 211 | 143 => 209 | 21 => 21 | 171 => 203 | 173 => 206 | 212 => 213 | 51 => 214 | 20 => 20 | 213 => 215 | 232 => 219 | 233 => 220 | 80 => 130 | n => n, fun | 15 => 1 | 16 => 2 | 17 => 3 | 18 => 4 | 19 => 5 | n => n⟩
theorem Tryz.laysC172 : Go.Proofs.LaysC.n172 Tryz.prog Tryz.laysC172_ren := {
  mixed := by kernel_rfl
  f129 := Tryz.func146.trans (congrArg some (by kernel_rfl))
  f171 := Tryz.func92.trans (congrArg some (by kernel_rfl))
  f172 := Tryz.func91.trans (congrArg some (by kernel_rfl))
  f205 := Tryz.func137.trans (congrArg some (by kernel_rfl))
  f243 := Tryz.func116.trans (congrArg some (by kernel_rfl))
  f244 := Tryz.func114.trans (congrArg some (by kernel_rfl))
  f245 := Tryz.func115.trans (congrArg some (by kernel_rfl))
  f246 := Tryz.func131.trans (congrArg some (by kernel_rfl))
  f247 := Tryz.func126.trans (congrArg some (by kernel_rfl))
  f279 := Tryz.func127.trans (congrArg some (by kernel_rfl))
  f280 := Tryz.func128.trans (congrArg some (by kernel_rfl))
  f281 := Tryz.func129.trans (congrArg some (by kernel_rfl))
  f282 := Tryz.func130.trans (congrArg some (by kernel_rfl))
  f283 := Tryz.func138.trans (congrArg some (by kernel_rfl))
  f284 := Tryz.func139.trans (congrArg some (by kernel_rfl))
  f285 := Tryz.func140.trans (congrArg some (by kernel_rfl))
  f286 := Tryz.func141.trans (congrArg some (by kernel_rfl))
  f287 := Tryz.func135.trans (congrArg some (by kernel_rfl))
  f316 := Tryz.func136.trans (congrArg some (by kernel_rfl))
  f317 := Tryz.func145.trans (congrArg some (by kernel_rfl))
  f318 := Tryz.func147.trans (congrArg some (by kernel_rfl))
  f319 := Tryz.func148.trans (congrArg some (by kernel_rfl))
  f320 := Tryz.func149.trans (congrArg some (by kernel_rfl))
  f321 := Tryz.func143.trans (congrArg some (by kernel_rfl))
  f322 := Tryz.func144.trans (congrArg some (by kernel_rfl))
  f337 := Tryz.func151.trans (congrArg some (by kernel_rfl))
  f338 := Tryz.func152.trans (congrArg some (by kernel_rfl))
  t0 := Tryz.underlying0
  a0 := Tryz.isAgg0
  z0 := Tryz.sizeOf0
  v0 := Tryz.zeroValue0
  t2 := Tryz.underlying2
  a2 := Tryz.isAgg2
  z2 := Tryz.sizeOf2
  v2 := Tryz.zeroValue2
  t3 := Tryz.underlying3
  a3 := Tryz.isAgg3
  z3 := Tryz.sizeOf3
  v3 := Tryz.zeroValue3
  t4 := Tryz.underlying4
  a4 := Tryz.isAgg4
  z4 := Tryz.sizeOf4
  v4 := Tryz.zeroValue4
  t5 := Tryz.underlying5
  a5 := Tryz.isAgg5
  z5 := Tryz.sizeOf5
  v5 := Tryz.zeroValue5
  t9 := Tryz.underlying9
  a9 := Tryz.isAgg9
  z9 := Tryz.sizeOf9
  v9 := Tryz.zeroValue9
  t20 := Tryz.underlying20
  a20 := Tryz.isAgg20
  z20 := Tryz.sizeOf20
  v20 := Tryz.zeroValue20
  t21 := Tryz.underlying21
  a21 := Tryz.isAgg21
  z21 := Tryz.sizeOf21
  v21 := Tryz.zeroValue21
  t37 := Tryz.underlying123
  a37 := Tryz.isAgg123
  z37 := Tryz.sizeOf123
  v37 := Tryz.zeroValue123
  t46 := Tryz.underlying184
  a46 := Tryz.isAgg184
  z46 := Tryz.sizeOf184
  v46 := Tryz.zeroValue184
  t51 := Tryz.underlying214
  a51 := Tryz.isAgg214
  z51 := Tryz.sizeOf214
  v51 := Tryz.zeroValue214
  t53 := Tryz.underlying196
  a53 := Tryz.isAgg196
  z53 := Tryz.sizeOf196
  v53 := Tryz.zeroValue196
  t75 := Tryz.underlying127
  a75 := Tryz.isAgg127
  z75 := Tryz.sizeOf127
  v75 := Tryz.zeroValue127
  t76 := Tryz.underlying128
  a76 := Tryz.isAgg128
  z76 := Tryz.sizeOf128
  v76 := Tryz.zeroValue128
  t85 := Tryz.underlying189
  a85 := Tryz.isAgg189
  z85 := Tryz.sizeOf189
  v85 := Tryz.zeroValue189
  t127 := Tryz.underlying150
  a127 := Tryz.isAgg150
  z127 := Tryz.sizeOf150
  v127 := Tryz.zeroValue150
  t143 := Tryz.underlying209
  a143 := Tryz.isAgg209
  z143 := Tryz.sizeOf209
  v143 := Tryz.zeroValue209
  t145 := Tryz.underlying211
  a145 := Tryz.isAgg211
  z145 := Tryz.sizeOf211
  v145 := Tryz.zeroValue211
  t167 := Tryz.underlying188
  a167 := Tryz.isAgg188
  z167 := Tryz.sizeOf188
  v167 := Tryz.zeroValue188
  t168 := Tryz.underlying191
  a168 := Tryz.isAgg191
  z168 := Tryz.sizeOf191
  v168 := Tryz.zeroValue191
  t171 := Tryz.underlying203
  a171 := Tryz.isAgg203
  z171 := Tryz.sizeOf203
  v171 := Tryz.zeroValue203
  t173 := Tryz.underlying206
  a173 := Tryz.isAgg206
  z173 := Tryz.sizeOf206
  v173 := Tryz.zeroValue206
  t175 := Tryz.underlying197
  a175 := Tryz.isAgg197
  z175 := Tryz.sizeOf197
  v175 := Tryz.zeroValue197
  t210 := Tryz.underlying201
  a210 := Tryz.isAgg201
  z210 := Tryz.sizeOf201
  v210 := Tryz.zeroValue201
  t212 := Tryz.underlying213
  a212 := Tryz.isAgg213
  z212 := Tryz.sizeOf213
  v212 := Tryz.zeroValue213
  t213 := Tryz.underlying215
  a213 := Tryz.isAgg215
  z213 := Tryz.sizeOf215
  t232 := Tryz.underlying219
  a232 := Tryz.isAgg219
  z232 := Tryz.sizeOf219
  v232 := Tryz.zeroValue219
  t233 := Tryz.underlying220
  a233 := Tryz.isAgg220
  z233 := Tryz.sizeOf220
  v233 := Tryz.zeroValue220
  g15 := by kernel_rfl
  g16 := by kernel_rfl
  g17 := by kernel_rfl
  g18 := by kernel_rfl
  g19 := by kernel_rfl
  t80 := Tryz.underlying130
  a80 := Tryz.isAgg130
  z80 := Tryz.sizeOf130
  v80 := Tryz.zeroValue130
  i0 := by kernel_rfl
  i2 := by kernel_rfl
  i3 := by kernel_rfl
  i4 := by kernel_rfl
  i5 := by kernel_rfl
  i9 := by kernel_rfl
  i20 := by kernel_rfl
  i21 := by kernel_rfl
  i37 := by kernel_rfl
  i46 := by kernel_rfl
  i51 := by kernel_rfl
  i53 := by kernel_rfl
  i75 := by kernel_rfl
  i76 := by kernel_rfl
  i80 := by kernel_rfl
  i85 := by kernel_rfl
  i127 := by kernel_rfl
  i143 := by kernel_rfl
  i145 := by kernel_rfl
  i167 := by kernel_rfl
  i168 := by kernel_rfl
  i171 := by kernel_rfl
  i173 := by kernel_rfl
  i175 := by kernel_rfl
  i210 := by kernel_rfl
  i212 := by kernel_rfl
  i232 := by kernel_rfl
  i233 := by kernel_rfl
  m15 := by kernel_rfl
  m16 := by kernel_rfl
  m17 := by kernel_rfl
  m18 := by kernel_rfl
  m19 := by kernel_rfl
  c0 := by kernel_rfl
  c2 := by kernel_rfl
  c3 := by kernel_rfl
  c4 := by kernel_rfl
  c5 := by kernel_rfl
  c9 := by kernel_rfl
  c20 := by kernel_rfl
  c21 := by kernel_rfl
  c37 := by kernel_rfl
  c46 := by kernel_rfl
  c51 := by kernel_rfl
  c53 := by kernel_rfl
  c75 := by kernel_rfl
  c76 := by kernel_rfl
  c80 := by kernel_rfl
  c85 := by kernel_rfl
  c127 := by kernel_rfl
  c143 := by kernel_rfl
  c145 := by kernel_rfl
  c167 := by kernel_rfl
  c168 := by kernel_rfl
  c171 := by kernel_rfl
  c173 := by kernel_rfl
  c175 := by kernel_rfl
  c210 := by kernel_rfl
  c212 := by kernel_rfl
  c213 := by kernel_rfl
  c232 := by kernel_rfl
  c233 := by kernel_rfl }
open Go.RowKit in
/-- strconv.Atoi, AT EVERY STRING THAT SPELLS AN int ('Lib.atoiAll .. = .ok v'; of whatever length: leading zeros count): v, AND NO ERROR. The world: as it was, or with the one new row that '[]byte(..)' lays. (LAID: no walk: one application.) -/
theorem Tryz.strconv_Atoi_ok (s : ByteArray) (hmax : s.size ≤ 9223372036854775806) (v : Int) (h : Lib.atoiAll s.data.toList = .ok v) (w : World) :
    Calls Tryz.prog 91 #[.string s] w fun e w' => e = .returned (.tuple #[.int .i64 v, .nilIface]) ∧ (w' = w ∨ ∃ t, w' = Lib.bytesWorld w 5 t) := Any.strconv_Atoi_ok Tryz.laysC172 s hmax v h w
open Go.RowKit in
/-- strconv.Atoi, AT EVERY STRING THAT IS NO DECIMAL NUMERAL (its end is that of no bytes): 0, AND AN ERROR THAT IS NOT nil: a *NumError in a new block N: {Func: "Atoi", Num: s's bytes, Err: what the variable ErrSyntax holds}. Of what was there nothing has turned. (LAID: no walk: one application.) -/
theorem Tryz.strconv_Atoi_syntax (s : ByteArray) (hlim : s.size ≤ 281474976710656) (h : Lib.atoiAll s.data.toList = Lib.atoiAll []) (ev : Value) (w : World) (hv : w.cell? ⟨1, 0, none⟩ = some ev) (hev : ev = .nilIface ∨ ∃ te pe, ev = .iface te pe) :
    Calls Tryz.prog 91 #[.string s] w fun e w' => ∃ N, e = .returned (.tuple #[.int .i64 (0), .iface 191 (.pointer (some ⟨N, 0, none⟩))]) ∧ w.heap.size ≤ N ∧ w'.heap[N]? = some (.cells #[.string ⟨#[65, 116, 111, 105]⟩, .string s, ev] 201 (0, 0)) ∧ Below w.heap.size w w' := Any.strconv_Atoi_syntax Tryz.laysC172 s hlim h ev w hv hev
open Go.RowKit in
/-- strconv.Atoi, AT EVERY NUMERAL THAT NO int HOLDS ('.range'): THE GREATEST OR THE LEAST int, BY THE SIGN ('Lib.atoiSat'), AND AN ERROR THAT IS NOT nil: a *NumError in a new block N: {Func: "Atoi", Num: s's bytes, Err: what the variable ErrRange holds}. Of what was there nothing has turned. (LAID: no walk: one application.) -/
theorem Tryz.strconv_Atoi_range (s : ByteArray) (hlim : s.size ≤ 281474976710656) (h : Lib.atoiAll s.data.toList = .range) (ev : Value) (w : World) (hv : w.cell? ⟨2, 0, none⟩ = some ev) (hev : ev = .nilIface ∨ ∃ te pe, ev = .iface te pe) :
    Calls Tryz.prog 91 #[.string s] w fun e w' => ∃ N, e = .returned (.tuple #[.int .i64 (Lib.atoiSat s.data.toList), .iface 191 (.pointer (some ⟨N, 0, none⟩))]) ∧ w.heap.size ≤ N ∧ w'.heap[N]? = some (.cells #[.string ⟨#[65, 116, 111, 105]⟩, .string s, ev] 201 (0, 0)) ∧ Below w.heap.size w w' := Any.strconv_Atoi_range Tryz.laysC172 s hlim h ev w hv hev
end Go.Proofs
end
