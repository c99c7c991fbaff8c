/- What the calculus asks of the types, each fact by the kernel. Written by facts.py. -/
import Derived.Test.YtmpgpkdijfcfhaaGreatDoorHyGBb
import Derived.Test.YtmpgpkdijfcfhaaGreatDoorProg
namespace Go.Proofs.YtmpgpkdijfcfhaaGreatDoor.Hz
theorem ty0 : szOf Tryz.prog 2 = some 1 := by kernel_rfl
theorem ty1 : aggOf Tryz.prog 2 = some false := by kernel_rfl
theorem ty2 : strOf Tryz.prog 2 = false := by kernel_rfl
theorem ty3 : isSlice Tryz.prog 2 = false := by kernel_rfl
theorem ty4 : isBool Tryz.prog 2 = false := by kernel_rfl
theorem ty5 : intOf' Tryz.prog 2 = some .i64 := by kernel_rfl
theorem ty6 : elemOf Tryz.prog 2 = none := by kernel_rfl
theorem ty7 : zeroOf Tryz.prog 2 = some (.int .i64 0) := by kernel_rfl
theorem ty8 : szOf Tryz.prog 3 = some 1 := by kernel_rfl
theorem ty9 : aggOf Tryz.prog 3 = some false := by kernel_rfl
theorem ty10 : strOf Tryz.prog 3 = false := by kernel_rfl
theorem ty11 : isSlice Tryz.prog 3 = false := by kernel_rfl
theorem ty12 : isBool Tryz.prog 3 = false := by kernel_rfl
theorem ty13 : intOf' Tryz.prog 3 = some .i64 := by kernel_rfl
theorem ty14 : elemOf Tryz.prog 3 = none := by kernel_rfl
theorem ty15 : zeroOf Tryz.prog 3 = some (.int .i64 0) := by kernel_rfl
theorem ty16 : szOf Tryz.prog 4 = some 1 := by kernel_rfl
theorem ty17 : aggOf Tryz.prog 4 = some false := by kernel_rfl
theorem ty18 : strOf Tryz.prog 4 = false := by kernel_rfl
theorem ty19 : isSlice Tryz.prog 4 = false := by kernel_rfl
theorem ty20 : isBool Tryz.prog 4 = true := by kernel_rfl
theorem ty21 : intOf' Tryz.prog 4 = none := by kernel_rfl
theorem ty22 : elemOf Tryz.prog 4 = none := by kernel_rfl
theorem ty23 : zeroOf Tryz.prog 4 = some (.bool false) := by kernel_rfl
theorem ty24 : szOf Tryz.prog 5 = some 1 := by kernel_rfl
theorem ty25 : aggOf Tryz.prog 5 = some false := by kernel_rfl
theorem ty26 : strOf Tryz.prog 5 = false := by kernel_rfl
theorem ty27 : isSlice Tryz.prog 5 = false := by kernel_rfl
theorem ty28 : isBool Tryz.prog 5 = false := by kernel_rfl
theorem ty29 : intOf' Tryz.prog 5 = some .u8 := by kernel_rfl
theorem ty30 : elemOf Tryz.prog 5 = none := by kernel_rfl
theorem ty31 : zeroOf Tryz.prog 5 = some (.int .u8 0) := by kernel_rfl
theorem ty32 : szOf Tryz.prog 9 = some 1 := by kernel_rfl
theorem ty33 : aggOf Tryz.prog 9 = some false := by kernel_rfl
theorem ty34 : strOf Tryz.prog 9 = true := by kernel_rfl
theorem ty35 : isSlice Tryz.prog 9 = false := by kernel_rfl
theorem ty36 : isBool Tryz.prog 9 = false := by kernel_rfl
theorem ty37 : intOf' Tryz.prog 9 = none := by kernel_rfl
theorem ty38 : elemOf Tryz.prog 9 = none := by kernel_rfl
theorem ty39 : zeroOf Tryz.prog 9 = some (.string ⟨#[]⟩) := by kernel_rfl
theorem ty40 : szOf Tryz.prog 12 = some 1 := by kernel_rfl
theorem ty41 : aggOf Tryz.prog 12 = some false := by kernel_rfl
theorem ty42 : strOf Tryz.prog 12 = false := by kernel_rfl
theorem ty43 : isSlice Tryz.prog 12 = false := by kernel_rfl
theorem ty44 : isBool Tryz.prog 12 = false := by kernel_rfl
theorem ty45 : intOf' Tryz.prog 12 = some .u64 := by kernel_rfl
theorem ty46 : elemOf Tryz.prog 12 = none := by kernel_rfl
theorem ty47 : zeroOf Tryz.prog 12 = some (.int .u64 0) := by kernel_rfl
theorem ty48 : szOf Tryz.prog 15 = some 1 := by kernel_rfl
theorem ty49 : aggOf Tryz.prog 15 = some false := by kernel_rfl
theorem ty50 : szOf Tryz.prog 16 = some 1 := by kernel_rfl
theorem ty51 : aggOf Tryz.prog 16 = some false := by kernel_rfl
theorem ty52 : szOf Tryz.prog 17 = some 1 := by kernel_rfl
theorem ty53 : aggOf Tryz.prog 17 = some false := by kernel_rfl
theorem ty54 : szOf Tryz.prog 21 = some 1 := by kernel_rfl
theorem ty55 : aggOf Tryz.prog 21 = some false := by kernel_rfl
theorem ty56 : strOf Tryz.prog 21 = false := by kernel_rfl
theorem ty57 : isSlice Tryz.prog 21 = false := by kernel_rfl
theorem ty58 : isBool Tryz.prog 21 = false := by kernel_rfl
theorem ty59 : intOf' Tryz.prog 21 = some .i32 := by kernel_rfl
theorem ty60 : elemOf Tryz.prog 21 = none := by kernel_rfl
theorem ty61 : zeroOf Tryz.prog 21 = some (.int .i32 0) := by kernel_rfl
theorem ty62 : szOf Tryz.prog 22 = some 1 := by kernel_rfl
theorem ty63 : aggOf Tryz.prog 22 = some false := by kernel_rfl
theorem ty64 : strOf Tryz.prog 22 = false := by kernel_rfl
theorem ty65 : isSlice Tryz.prog 22 = true := by kernel_rfl
theorem ty66 : isBool Tryz.prog 22 = false := by kernel_rfl
theorem ty67 : intOf' Tryz.prog 22 = none := by kernel_rfl
theorem ty68 : elemOf Tryz.prog 22 = some 5 := by kernel_rfl
theorem ty69 : zeroOf Tryz.prog 22 = some (.slice none 0 0) := by kernel_rfl
theorem ty70 : elOf Tryz.prog 22 = some (5, 1, 1, [.int .u8 0]) := by kernel_rfl
theorem ty71 : szOf Tryz.prog 24 = some 1 := by kernel_rfl
theorem ty72 : aggOf Tryz.prog 24 = some false := by kernel_rfl
theorem ty73 : strOf Tryz.prog 24 = false := by kernel_rfl
theorem ty74 : isSlice Tryz.prog 24 = true := by kernel_rfl
theorem ty75 : isBool Tryz.prog 24 = false := by kernel_rfl
theorem ty76 : intOf' Tryz.prog 24 = none := by kernel_rfl
theorem ty77 : elemOf Tryz.prog 24 = some 33 := by kernel_rfl
theorem ty78 : zeroOf Tryz.prog 24 = some (.slice none 0 0) := by kernel_rfl
theorem ty79 : elOf Tryz.prog 24 = some (33, 4, 48, [.string ⟨#[]⟩, .int .i64 0, .string ⟨#[]⟩, .int .i64 0]) := by kernel_rfl
theorem ty80 : szOf Tryz.prog 26 = some 1 := by kernel_rfl
theorem ty81 : aggOf Tryz.prog 26 = some true := by kernel_rfl
theorem ty82 : strOf Tryz.prog 26 = false := by kernel_rfl
theorem ty83 : isSlice Tryz.prog 26 = false := by kernel_rfl
theorem ty84 : isBool Tryz.prog 26 = false := by kernel_rfl
theorem ty85 : intOf' Tryz.prog 26 = none := by kernel_rfl
theorem ty86 : elemOf Tryz.prog 26 = none := by kernel_rfl
theorem ty87 : zeroOf Tryz.prog 26 = some (.agg #[.slice none 0 0]) := by kernel_rfl
theorem ty88 : fldOf Tryz.prog 26 0 = some (0, 24) := by kernel_rfl
theorem ty89 : placesOf Tryz.prog 26 = some [(0, 1)] := by kernel_rfl
theorem ty90 : szOf Tryz.prog 29 = some 1 := by kernel_rfl
theorem ty91 : aggOf Tryz.prog 29 = some false := by kernel_rfl
theorem ty92 : strOf Tryz.prog 29 = false := by kernel_rfl
theorem ty93 : isSlice Tryz.prog 29 = true := by kernel_rfl
theorem ty94 : isBool Tryz.prog 29 = false := by kernel_rfl
theorem ty95 : intOf' Tryz.prog 29 = none := by kernel_rfl
theorem ty96 : elemOf Tryz.prog 29 = some 9 := by kernel_rfl
theorem ty97 : zeroOf Tryz.prog 29 = some (.slice none 0 0) := by kernel_rfl
theorem ty98 : elOf Tryz.prog 29 = some (9, 1, 16, [.string ⟨#[]⟩]) := by kernel_rfl
theorem ty99 : szOf Tryz.prog 33 = some 4 := by kernel_rfl
theorem ty100 : aggOf Tryz.prog 33 = some true := by kernel_rfl
theorem ty101 : strOf Tryz.prog 33 = false := by kernel_rfl
theorem ty102 : isSlice Tryz.prog 33 = false := by kernel_rfl
theorem ty103 : isBool Tryz.prog 33 = false := by kernel_rfl
theorem ty104 : intOf' Tryz.prog 33 = none := by kernel_rfl
theorem ty105 : elemOf Tryz.prog 33 = none := by kernel_rfl
theorem ty106 : zeroOf Tryz.prog 33 = some (.agg #[.string ⟨#[]⟩, .int .i64 0, .string ⟨#[]⟩, .int .i64 0]) := by kernel_rfl
theorem ty107 : fldOf Tryz.prog 33 0 = some (0, 9) := by kernel_rfl
theorem ty108 : fldOf Tryz.prog 33 1 = some (1, 3) := by kernel_rfl
theorem ty109 : fldOf Tryz.prog 33 2 = some (2, 9) := by kernel_rfl
theorem ty110 : fldOf Tryz.prog 33 3 = some (3, 3) := by kernel_rfl
theorem ty111 : placesOf Tryz.prog 33 = some [(0, 1), (1, 1), (2, 1), (3, 1)] := by kernel_rfl
theorem ty112 : eqKs Tryz.prog 33 = some [.str, .int, .str, .int] := by kernel_rfl
theorem ty113 : szOf Tryz.prog 40 = some 1 := by kernel_rfl
theorem ty114 : aggOf Tryz.prog 40 = some false := by kernel_rfl
theorem ty115 : szOf Tryz.prog 52 = some 3 := by kernel_rfl
theorem ty116 : aggOf Tryz.prog 52 = some true := by kernel_rfl
theorem ty117 : strOf Tryz.prog 52 = false := by kernel_rfl
theorem ty118 : isSlice Tryz.prog 52 = false := by kernel_rfl
theorem ty119 : isBool Tryz.prog 52 = false := by kernel_rfl
theorem ty120 : intOf' Tryz.prog 52 = none := by kernel_rfl
theorem ty121 : elemOf Tryz.prog 52 = none := by kernel_rfl
theorem ty122 : zeroOf Tryz.prog 52 = some (.agg #[.slice none 0 0, .int .i64 0, .int .i64 0]) := by kernel_rfl
theorem ty123 : fldOf Tryz.prog 52 0 = some (0, 22) := by kernel_rfl
theorem ty124 : fldOf Tryz.prog 52 1 = some (1, 3) := by kernel_rfl
theorem ty125 : fldOf Tryz.prog 52 2 = some (2, 3) := by kernel_rfl
theorem ty126 : placesOf Tryz.prog 52 = some [(0, 1), (1, 1), (2, 1)] := by kernel_rfl
theorem ty127 : szOf Tryz.prog 54 = some 1 := by kernel_rfl
theorem ty128 : aggOf Tryz.prog 54 = some false := by kernel_rfl
theorem ty129 : strOf Tryz.prog 54 = false := by kernel_rfl
theorem ty130 : isSlice Tryz.prog 54 = true := by kernel_rfl
theorem ty131 : isBool Tryz.prog 54 = false := by kernel_rfl
theorem ty132 : intOf' Tryz.prog 54 = none := by kernel_rfl
theorem ty133 : elemOf Tryz.prog 54 = some 96 := by kernel_rfl
theorem ty134 : zeroOf Tryz.prog 54 = some (.slice none 0 0) := by kernel_rfl
theorem ty135 : elOf Tryz.prog 54 = some (96, 5, 56, [.int .i64 0, .int .i64 0, .int .i64 0, .int .i64 0, .slice none 0 0]) := by kernel_rfl
theorem ty136 : szOf Tryz.prog 56 = some 2 := by kernel_rfl
theorem ty137 : aggOf Tryz.prog 56 = some true := by kernel_rfl
theorem ty138 : strOf Tryz.prog 56 = false := by kernel_rfl
theorem ty139 : isSlice Tryz.prog 56 = false := by kernel_rfl
theorem ty140 : isBool Tryz.prog 56 = false := by kernel_rfl
theorem ty141 : intOf' Tryz.prog 56 = none := by kernel_rfl
theorem ty142 : elemOf Tryz.prog 56 = none := by kernel_rfl
theorem ty143 : zeroOf Tryz.prog 56 = some (.agg #[.slice none 0 0, .slice none 0 0]) := by kernel_rfl
theorem ty144 : fldOf Tryz.prog 56 0 = some (0, 54) := by kernel_rfl
theorem ty145 : fldOf Tryz.prog 56 1 = some (1, 29) := by kernel_rfl
theorem ty146 : placesOf Tryz.prog 56 = some [(0, 1), (1, 1)] := by kernel_rfl
theorem ty147 : szOf Tryz.prog 61 = some 1 := by kernel_rfl
theorem ty148 : aggOf Tryz.prog 61 = some false := by kernel_rfl
theorem ty149 : strOf Tryz.prog 61 = false := by kernel_rfl
theorem ty150 : isSlice Tryz.prog 61 = true := by kernel_rfl
theorem ty151 : isBool Tryz.prog 61 = false := by kernel_rfl
theorem ty152 : intOf' Tryz.prog 61 = none := by kernel_rfl
theorem ty153 : elemOf Tryz.prog 61 = some 3 := by kernel_rfl
theorem ty154 : zeroOf Tryz.prog 61 = some (.slice none 0 0) := by kernel_rfl
theorem ty155 : elOf Tryz.prog 61 = some (3, 1, 8, [.int .i64 0]) := by kernel_rfl
theorem ty156 : szOf Tryz.prog 84 = some 1 := by kernel_rfl
theorem ty157 : aggOf Tryz.prog 84 = some false := by kernel_rfl
theorem ty158 : szOf Tryz.prog 96 = some 5 := by kernel_rfl
theorem ty159 : aggOf Tryz.prog 96 = some true := by kernel_rfl
theorem ty160 : strOf Tryz.prog 96 = false := by kernel_rfl
theorem ty161 : isSlice Tryz.prog 96 = false := by kernel_rfl
theorem ty162 : isBool Tryz.prog 96 = false := by kernel_rfl
theorem ty163 : intOf' Tryz.prog 96 = none := by kernel_rfl
theorem ty164 : elemOf Tryz.prog 96 = none := by kernel_rfl
theorem ty165 : zeroOf Tryz.prog 96 = some (.agg #[.int .i64 0, .int .i64 0, .int .i64 0, .int .i64 0, .slice none 0 0]) := by kernel_rfl
theorem ty166 : fldOf Tryz.prog 96 0 = some (0, 3) := by kernel_rfl
theorem ty167 : fldOf Tryz.prog 96 1 = some (1, 3) := by kernel_rfl
theorem ty168 : fldOf Tryz.prog 96 2 = some (2, 3) := by kernel_rfl
theorem ty169 : fldOf Tryz.prog 96 3 = some (3, 3) := by kernel_rfl
theorem ty170 : fldOf Tryz.prog 96 4 = some (4, 61) := by kernel_rfl
theorem ty171 : placesOf Tryz.prog 96 = some [(0, 1), (1, 1), (2, 1), (3, 1), (4, 1)] := by kernel_rfl
theorem ty172 : szOf Tryz.prog 97 = some 1 := by kernel_rfl
theorem ty173 : aggOf Tryz.prog 97 = some false := by kernel_rfl
theorem ty174 : strOf Tryz.prog 97 = false := by kernel_rfl
theorem ty175 : isSlice Tryz.prog 97 = true := by kernel_rfl
theorem ty176 : isBool Tryz.prog 97 = false := by kernel_rfl
theorem ty177 : intOf' Tryz.prog 97 = none := by kernel_rfl
theorem ty178 : elemOf Tryz.prog 97 = some 101 := by kernel_rfl
theorem ty179 : zeroOf Tryz.prog 97 = some (.slice none 0 0) := by kernel_rfl
theorem ty180 : elOf Tryz.prog 97 = some (101, 2, 24, [.string ⟨#[]⟩, .int .i64 0]) := by kernel_rfl
theorem ty181 : szOf Tryz.prog 101 = some 2 := by kernel_rfl
theorem ty182 : aggOf Tryz.prog 101 = some true := by kernel_rfl
theorem ty183 : strOf Tryz.prog 101 = false := by kernel_rfl
theorem ty184 : isSlice Tryz.prog 101 = false := by kernel_rfl
theorem ty185 : isBool Tryz.prog 101 = false := by kernel_rfl
theorem ty186 : intOf' Tryz.prog 101 = none := by kernel_rfl
theorem ty187 : elemOf Tryz.prog 101 = none := by kernel_rfl
theorem ty188 : zeroOf Tryz.prog 101 = some (.agg #[.string ⟨#[]⟩, .int .i64 0]) := by kernel_rfl
theorem ty189 : fldOf Tryz.prog 101 0 = some (0, 9) := by kernel_rfl
theorem ty190 : fldOf Tryz.prog 101 1 = some (1, 3) := by kernel_rfl
theorem ty191 : placesOf Tryz.prog 101 = some [(0, 1), (1, 1)] := by kernel_rfl
theorem ty192 : eqKs Tryz.prog 101 = some [.str, .int] := by kernel_rfl
theorem ty193 : szOf Tryz.prog 115 = some 1 := by kernel_rfl
theorem ty194 : aggOf Tryz.prog 115 = some false := by kernel_rfl
theorem ty195 : strOf Tryz.prog 115 = false := by kernel_rfl
theorem ty196 : isSlice Tryz.prog 115 = false := by kernel_rfl
theorem ty197 : isBool Tryz.prog 115 = false := by kernel_rfl
theorem ty198 : intOf' Tryz.prog 115 = some .u64 := by kernel_rfl
theorem ty199 : elemOf Tryz.prog 115 = none := by kernel_rfl
theorem ty200 : zeroOf Tryz.prog 115 = some (.int .u64 0) := by kernel_rfl
theorem ty201 : szOf Tryz.prog 116 = some 1 := by kernel_rfl
theorem ty202 : aggOf Tryz.prog 116 = some false := by kernel_rfl
theorem ty203 : szOf Tryz.prog 133 = some 1 := by kernel_rfl
theorem ty204 : aggOf Tryz.prog 133 = some false := by kernel_rfl
theorem ty205 : strOf Tryz.prog 133 = false := by kernel_rfl
theorem ty206 : isSlice Tryz.prog 133 = false := by kernel_rfl
theorem ty207 : isBool Tryz.prog 133 = false := by kernel_rfl
theorem ty208 : intOf' Tryz.prog 133 = some .u64 := by kernel_rfl
theorem ty209 : elemOf Tryz.prog 133 = none := by kernel_rfl
theorem ty210 : zeroOf Tryz.prog 133 = some (.int .u64 0) := by kernel_rfl
theorem ty211 : szOf Tryz.prog 149 = some 1 := by kernel_rfl
theorem ty212 : aggOf Tryz.prog 149 = some false := by kernel_rfl
theorem ty213 : strOf Tryz.prog 149 = false := by kernel_rfl
theorem ty214 : isSlice Tryz.prog 149 = false := by kernel_rfl
theorem ty215 : isBool Tryz.prog 149 = false := by kernel_rfl
theorem ty216 : intOf' Tryz.prog 149 = some .u32 := by kernel_rfl
theorem ty217 : elemOf Tryz.prog 149 = none := by kernel_rfl
theorem ty218 : zeroOf Tryz.prog 149 = some (.int .u32 0) := by kernel_rfl
theorem tys0 : (szOf Tryz.prog 2 = some 1) ∧ (aggOf Tryz.prog 2 = some false) ∧ (strOf Tryz.prog 2 = false) ∧ (isSlice Tryz.prog 2 = false) ∧ (isBool Tryz.prog 2 = false) ∧ (intOf' Tryz.prog 2 = some .i64) ∧ (elemOf Tryz.prog 2 = none) ∧ (zeroOf Tryz.prog 2 = some (.int .i64 0)) ∧ (szOf Tryz.prog 3 = some 1) ∧ (aggOf Tryz.prog 3 = some false) ∧ (strOf Tryz.prog 3 = false) ∧ (isSlice Tryz.prog 3 = false) ∧ (isBool Tryz.prog 3 = false) ∧ (intOf' Tryz.prog 3 = some .i64) ∧ (elemOf Tryz.prog 3 = none) ∧ (zeroOf Tryz.prog 3 = some (.int .i64 0)) ∧ (szOf Tryz.prog 4 = some 1) ∧ (aggOf Tryz.prog 4 = some false) ∧ (strOf Tryz.prog 4 = false) ∧ (isSlice Tryz.prog 4 = false) ∧ (isBool Tryz.prog 4 = true) ∧ (intOf' Tryz.prog 4 = none) ∧ (elemOf Tryz.prog 4 = none) ∧ (zeroOf Tryz.prog 4 = some (.bool false)) ∧ (szOf Tryz.prog 5 = some 1) ∧ (aggOf Tryz.prog 5 = some false) ∧ (strOf Tryz.prog 5 = false) ∧ (isSlice Tryz.prog 5 = false) ∧ (isBool Tryz.prog 5 = false) ∧ (intOf' Tryz.prog 5 = some .u8) ∧ (elemOf Tryz.prog 5 = none) ∧ (zeroOf Tryz.prog 5 = some (.int .u8 0)) ∧ (szOf Tryz.prog 9 = some 1) ∧ (aggOf Tryz.prog 9 = some false) ∧ (strOf Tryz.prog 9 = true) ∧ (isSlice Tryz.prog 9 = false) ∧ (isBool Tryz.prog 9 = false) ∧ (intOf' Tryz.prog 9 = none) ∧ (elemOf Tryz.prog 9 = none) ∧ (zeroOf Tryz.prog 9 = some (.string ⟨#[]⟩)) := ⟨ty0, ty1, ty2, ty3, ty4, ty5, ty6, ty7, ty8, ty9, ty10, ty11, ty12, ty13, ty14, ty15, ty16, ty17, ty18, ty19, ty20, ty21, ty22, ty23, ty24, ty25, ty26, ty27, ty28, ty29, ty30, ty31, ty32, ty33, ty34, ty35, ty36, ty37, ty38, ty39⟩
theorem tys1 : (szOf Tryz.prog 12 = some 1) ∧ (aggOf Tryz.prog 12 = some false) ∧ (strOf Tryz.prog 12 = false) ∧ (isSlice Tryz.prog 12 = false) ∧ (isBool Tryz.prog 12 = false) ∧ (intOf' Tryz.prog 12 = some .u64) ∧ (elemOf Tryz.prog 12 = none) ∧ (zeroOf Tryz.prog 12 = some (.int .u64 0)) ∧ (szOf Tryz.prog 15 = some 1) ∧ (aggOf Tryz.prog 15 = some false) ∧ (szOf Tryz.prog 16 = some 1) ∧ (aggOf Tryz.prog 16 = some false) ∧ (szOf Tryz.prog 17 = some 1) ∧ (aggOf Tryz.prog 17 = some false) ∧ (szOf Tryz.prog 21 = some 1) ∧ (aggOf Tryz.prog 21 = some false) ∧ (strOf Tryz.prog 21 = false) ∧ (isSlice Tryz.prog 21 = false) ∧ (isBool Tryz.prog 21 = false) ∧ (intOf' Tryz.prog 21 = some .i32) ∧ (elemOf Tryz.prog 21 = none) ∧ (zeroOf Tryz.prog 21 = some (.int .i32 0)) ∧ (szOf Tryz.prog 22 = some 1) ∧ (aggOf Tryz.prog 22 = some false) ∧ (strOf Tryz.prog 22 = false) ∧ (isSlice Tryz.prog 22 = true) ∧ (isBool Tryz.prog 22 = false) ∧ (intOf' Tryz.prog 22 = none) ∧ (elemOf Tryz.prog 22 = some 5) ∧ (zeroOf Tryz.prog 22 = some (.slice none 0 0)) ∧ (elOf Tryz.prog 22 = some (5, 1, 1, [.int .u8 0])) ∧ (szOf Tryz.prog 24 = some 1) ∧ (aggOf Tryz.prog 24 = some false) ∧ (strOf Tryz.prog 24 = false) ∧ (isSlice Tryz.prog 24 = true) ∧ (isBool Tryz.prog 24 = false) ∧ (intOf' Tryz.prog 24 = none) ∧ (elemOf Tryz.prog 24 = some 33) ∧ (zeroOf Tryz.prog 24 = some (.slice none 0 0)) ∧ (elOf Tryz.prog 24 = some (33, 4, 48, [.string ⟨#[]⟩, .int .i64 0, .string ⟨#[]⟩, .int .i64 0])) := ⟨ty40, ty41, ty42, ty43, ty44, ty45, ty46, ty47, ty48, ty49, ty50, ty51, ty52, ty53, ty54, ty55, ty56, ty57, ty58, ty59, ty60, ty61, ty62, ty63, ty64, ty65, ty66, ty67, ty68, ty69, ty70, ty71, ty72, ty73, ty74, ty75, ty76, ty77, ty78, ty79⟩
theorem tys2 : (szOf Tryz.prog 26 = some 1) ∧ (aggOf Tryz.prog 26 = some true) ∧ (strOf Tryz.prog 26 = false) ∧ (isSlice Tryz.prog 26 = false) ∧ (isBool Tryz.prog 26 = false) ∧ (intOf' Tryz.prog 26 = none) ∧ (elemOf Tryz.prog 26 = none) ∧ (zeroOf Tryz.prog 26 = some (.agg #[.slice none 0 0])) ∧ (fldOf Tryz.prog 26 0 = some (0, 24)) ∧ (placesOf Tryz.prog 26 = some [(0, 1)]) ∧ (szOf Tryz.prog 29 = some 1) ∧ (aggOf Tryz.prog 29 = some false) ∧ (strOf Tryz.prog 29 = false) ∧ (isSlice Tryz.prog 29 = true) ∧ (isBool Tryz.prog 29 = false) ∧ (intOf' Tryz.prog 29 = none) ∧ (elemOf Tryz.prog 29 = some 9) ∧ (zeroOf Tryz.prog 29 = some (.slice none 0 0)) ∧ (elOf Tryz.prog 29 = some (9, 1, 16, [.string ⟨#[]⟩])) ∧ (szOf Tryz.prog 33 = some 4) ∧ (aggOf Tryz.prog 33 = some true) ∧ (strOf Tryz.prog 33 = false) ∧ (isSlice Tryz.prog 33 = false) ∧ (isBool Tryz.prog 33 = false) ∧ (intOf' Tryz.prog 33 = none) ∧ (elemOf Tryz.prog 33 = none) ∧ (zeroOf Tryz.prog 33 = some (.agg #[.string ⟨#[]⟩, .int .i64 0, .string ⟨#[]⟩, .int .i64 0])) ∧ (fldOf Tryz.prog 33 0 = some (0, 9)) ∧ (fldOf Tryz.prog 33 1 = some (1, 3)) ∧ (fldOf Tryz.prog 33 2 = some (2, 9)) ∧ (fldOf Tryz.prog 33 3 = some (3, 3)) ∧ (placesOf Tryz.prog 33 = some [(0, 1), (1, 1), (2, 1), (3, 1)]) ∧ (eqKs Tryz.prog 33 = some [.str, .int, .str, .int]) ∧ (szOf Tryz.prog 40 = some 1) ∧ (aggOf Tryz.prog 40 = some false) ∧ (szOf Tryz.prog 52 = some 3) ∧ (aggOf Tryz.prog 52 = some true) ∧ (strOf Tryz.prog 52 = false) ∧ (isSlice Tryz.prog 52 = false) ∧ (isBool Tryz.prog 52 = false) := ⟨ty80, ty81, ty82, ty83, ty84, ty85, ty86, ty87, ty88, ty89, ty90, ty91, ty92, ty93, ty94, ty95, ty96, ty97, ty98, ty99, ty100, ty101, ty102, ty103, ty104, ty105, ty106, ty107, ty108, ty109, ty110, ty111, ty112, ty113, ty114, ty115, ty116, ty117, ty118, ty119⟩
theorem tys3 : (intOf' Tryz.prog 52 = none) ∧ (elemOf Tryz.prog 52 = none) ∧ (zeroOf Tryz.prog 52 = some (.agg #[.slice none 0 0, .int .i64 0, .int .i64 0])) ∧ (fldOf Tryz.prog 52 0 = some (0, 22)) ∧ (fldOf Tryz.prog 52 1 = some (1, 3)) ∧ (fldOf Tryz.prog 52 2 = some (2, 3)) ∧ (placesOf Tryz.prog 52 = some [(0, 1), (1, 1), (2, 1)]) ∧ (szOf Tryz.prog 54 = some 1) ∧ (aggOf Tryz.prog 54 = some false) ∧ (strOf Tryz.prog 54 = false) ∧ (isSlice Tryz.prog 54 = true) ∧ (isBool Tryz.prog 54 = false) ∧ (intOf' Tryz.prog 54 = none) ∧ (elemOf Tryz.prog 54 = some 96) ∧ (zeroOf Tryz.prog 54 = some (.slice none 0 0)) ∧ (elOf Tryz.prog 54 = some (96, 5, 56, [.int .i64 0, .int .i64 0, .int .i64 0, .int .i64 0, .slice none 0 0])) ∧ (szOf Tryz.prog 56 = some 2) ∧ (aggOf Tryz.prog 56 = some true) ∧ (strOf Tryz.prog 56 = false) ∧ (isSlice Tryz.prog 56 = false) ∧ (isBool Tryz.prog 56 = false) ∧ (intOf' Tryz.prog 56 = none) ∧ (elemOf Tryz.prog 56 = none) ∧ (zeroOf Tryz.prog 56 = some (.agg #[.slice none 0 0, .slice none 0 0])) ∧ (fldOf Tryz.prog 56 0 = some (0, 54)) ∧ (fldOf Tryz.prog 56 1 = some (1, 29)) ∧ (placesOf Tryz.prog 56 = some [(0, 1), (1, 1)]) ∧ (szOf Tryz.prog 61 = some 1) ∧ (aggOf Tryz.prog 61 = some false) ∧ (strOf Tryz.prog 61 = false) ∧ (isSlice Tryz.prog 61 = true) ∧ (isBool Tryz.prog 61 = false) ∧ (intOf' Tryz.prog 61 = none) ∧ (elemOf Tryz.prog 61 = some 3) ∧ (zeroOf Tryz.prog 61 = some (.slice none 0 0)) ∧ (elOf Tryz.prog 61 = some (3, 1, 8, [.int .i64 0])) ∧ (szOf Tryz.prog 84 = some 1) ∧ (aggOf Tryz.prog 84 = some false) ∧ (szOf Tryz.prog 96 = some 5) ∧ (aggOf Tryz.prog 96 = some true) := ⟨ty120, ty121, ty122, ty123, ty124, ty125, ty126, ty127, ty128, ty129, ty130, ty131, ty132, ty133, ty134, ty135, ty136, ty137, ty138, ty139, ty140, ty141, ty142, ty143, ty144, ty145, ty146, ty147, ty148, ty149, ty150, ty151, ty152, ty153, ty154, ty155, ty156, ty157, ty158, ty159⟩
theorem tys4 : (strOf Tryz.prog 96 = false) ∧ (isSlice Tryz.prog 96 = false) ∧ (isBool Tryz.prog 96 = false) ∧ (intOf' Tryz.prog 96 = none) ∧ (elemOf Tryz.prog 96 = none) ∧ (zeroOf Tryz.prog 96 = some (.agg #[.int .i64 0, .int .i64 0, .int .i64 0, .int .i64 0, .slice none 0 0])) ∧ (fldOf Tryz.prog 96 0 = some (0, 3)) ∧ (fldOf Tryz.prog 96 1 = some (1, 3)) ∧ (fldOf Tryz.prog 96 2 = some (2, 3)) ∧ (fldOf Tryz.prog 96 3 = some (3, 3)) ∧ (fldOf Tryz.prog 96 4 = some (4, 61)) ∧ (placesOf Tryz.prog 96 = some [(0, 1), (1, 1), (2, 1), (3, 1), (4, 1)]) ∧ (szOf Tryz.prog 97 = some 1) ∧ (aggOf Tryz.prog 97 = some false) ∧ (strOf Tryz.prog 97 = false) ∧ (isSlice Tryz.prog 97 = true) ∧ (isBool Tryz.prog 97 = false) ∧ (intOf' Tryz.prog 97 = none) ∧ (elemOf Tryz.prog 97 = some 101) ∧ (zeroOf Tryz.prog 97 = some (.slice none 0 0)) ∧ (elOf Tryz.prog 97 = some (101, 2, 24, [.string ⟨#[]⟩, .int .i64 0])) ∧ (szOf Tryz.prog 101 = some 2) ∧ (aggOf Tryz.prog 101 = some true) ∧ (strOf Tryz.prog 101 = false) ∧ (isSlice Tryz.prog 101 = false) ∧ (isBool Tryz.prog 101 = false) ∧ (intOf' Tryz.prog 101 = none) ∧ (elemOf Tryz.prog 101 = none) ∧ (zeroOf Tryz.prog 101 = some (.agg #[.string ⟨#[]⟩, .int .i64 0])) ∧ (fldOf Tryz.prog 101 0 = some (0, 9)) ∧ (fldOf Tryz.prog 101 1 = some (1, 3)) ∧ (placesOf Tryz.prog 101 = some [(0, 1), (1, 1)]) ∧ (eqKs Tryz.prog 101 = some [.str, .int]) ∧ (szOf Tryz.prog 115 = some 1) ∧ (aggOf Tryz.prog 115 = some false) ∧ (strOf Tryz.prog 115 = false) ∧ (isSlice Tryz.prog 115 = false) ∧ (isBool Tryz.prog 115 = false) ∧ (intOf' Tryz.prog 115 = some .u64) ∧ (elemOf Tryz.prog 115 = none) := ⟨ty160, ty161, ty162, ty163, ty164, ty165, ty166, ty167, ty168, ty169, ty170, ty171, ty172, ty173, ty174, ty175, ty176, ty177, ty178, ty179, ty180, ty181, ty182, ty183, ty184, ty185, ty186, ty187, ty188, ty189, ty190, ty191, ty192, ty193, ty194, ty195, ty196, ty197, ty198, ty199⟩
theorem tys5 : (zeroOf Tryz.prog 115 = some (.int .u64 0)) ∧ (szOf Tryz.prog 116 = some 1) ∧ (aggOf Tryz.prog 116 = some false) ∧ (szOf Tryz.prog 133 = some 1) ∧ (aggOf Tryz.prog 133 = some false) ∧ (strOf Tryz.prog 133 = false) ∧ (isSlice Tryz.prog 133 = false) ∧ (isBool Tryz.prog 133 = false) ∧ (intOf' Tryz.prog 133 = some .u64) ∧ (elemOf Tryz.prog 133 = none) ∧ (zeroOf Tryz.prog 133 = some (.int .u64 0)) ∧ (szOf Tryz.prog 149 = some 1) ∧ (aggOf Tryz.prog 149 = some false) ∧ (strOf Tryz.prog 149 = false) ∧ (isSlice Tryz.prog 149 = false) ∧ (isBool Tryz.prog 149 = false) ∧ (intOf' Tryz.prog 149 = some .u32) ∧ (elemOf Tryz.prog 149 = none) ∧ (zeroOf Tryz.prog 149 = some (.int .u32 0)) := ⟨ty200, ty201, ty202, ty203, ty204, ty205, ty206, ty207, ty208, ty209, ty210, ty211, ty212, ty213, ty214, ty215, ty216, ty217, ty218⟩
theorem TY : ((szOf Tryz.prog 2 = some 1) ∧ (aggOf Tryz.prog 2 = some false) ∧ (strOf Tryz.prog 2 = false) ∧ (isSlice Tryz.prog 2 = false) ∧ (isBool Tryz.prog 2 = false) ∧ (intOf' Tryz.prog 2 = some .i64) ∧ (elemOf Tryz.prog 2 = none) ∧ (zeroOf Tryz.prog 2 = some (.int .i64 0)) ∧ (szOf Tryz.prog 3 = some 1) ∧ (aggOf Tryz.prog 3 = some false) ∧ (strOf Tryz.prog 3 = false) ∧ (isSlice Tryz.prog 3 = false) ∧ (isBool Tryz.prog 3 = false) ∧ (intOf' Tryz.prog 3 = some .i64) ∧ (elemOf Tryz.prog 3 = none) ∧ (zeroOf Tryz.prog 3 = some (.int .i64 0)) ∧ (szOf Tryz.prog 4 = some 1) ∧ (aggOf Tryz.prog 4 = some false) ∧ (strOf Tryz.prog 4 = false) ∧ (isSlice Tryz.prog 4 = false) ∧ (isBool Tryz.prog 4 = true) ∧ (intOf' Tryz.prog 4 = none) ∧ (elemOf Tryz.prog 4 = none) ∧ (zeroOf Tryz.prog 4 = some (.bool false)) ∧ (szOf Tryz.prog 5 = some 1) ∧ (aggOf Tryz.prog 5 = some false) ∧ (strOf Tryz.prog 5 = false) ∧ (isSlice Tryz.prog 5 = false) ∧ (isBool Tryz.prog 5 = false) ∧ (intOf' Tryz.prog 5 = some .u8) ∧ (elemOf Tryz.prog 5 = none) ∧ (zeroOf Tryz.prog 5 = some (.int .u8 0)) ∧ (szOf Tryz.prog 9 = some 1) ∧ (aggOf Tryz.prog 9 = some false) ∧ (strOf Tryz.prog 9 = true) ∧ (isSlice Tryz.prog 9 = false) ∧ (isBool Tryz.prog 9 = false) ∧ (intOf' Tryz.prog 9 = none) ∧ (elemOf Tryz.prog 9 = none) ∧ (zeroOf Tryz.prog 9 = some (.string ⟨#[]⟩))) ∧ ((szOf Tryz.prog 12 = some 1) ∧ (aggOf Tryz.prog 12 = some false) ∧ (strOf Tryz.prog 12 = false) ∧ (isSlice Tryz.prog 12 = false) ∧ (isBool Tryz.prog 12 = false) ∧ (intOf' Tryz.prog 12 = some .u64) ∧ (elemOf Tryz.prog 12 = none) ∧ (zeroOf Tryz.prog 12 = some (.int .u64 0)) ∧ (szOf Tryz.prog 15 = some 1) ∧ (aggOf Tryz.prog 15 = some false) ∧ (szOf Tryz.prog 16 = some 1) ∧ (aggOf Tryz.prog 16 = some false) ∧ (szOf Tryz.prog 17 = some 1) ∧ (aggOf Tryz.prog 17 = some false) ∧ (szOf Tryz.prog 21 = some 1) ∧ (aggOf Tryz.prog 21 = some false) ∧ (strOf Tryz.prog 21 = false) ∧ (isSlice Tryz.prog 21 = false) ∧ (isBool Tryz.prog 21 = false) ∧ (intOf' Tryz.prog 21 = some .i32) ∧ (elemOf Tryz.prog 21 = none) ∧ (zeroOf Tryz.prog 21 = some (.int .i32 0)) ∧ (szOf Tryz.prog 22 = some 1) ∧ (aggOf Tryz.prog 22 = some false) ∧ (strOf Tryz.prog 22 = false) ∧ (isSlice Tryz.prog 22 = true) ∧ (isBool Tryz.prog 22 = false) ∧ (intOf' Tryz.prog 22 = none) ∧ (elemOf Tryz.prog 22 = some 5) ∧ (zeroOf Tryz.prog 22 = some (.slice none 0 0)) ∧ (elOf Tryz.prog 22 = some (5, 1, 1, [.int .u8 0])) ∧ (szOf Tryz.prog 24 = some 1) ∧ (aggOf Tryz.prog 24 = some false) ∧ (strOf Tryz.prog 24 = false) ∧ (isSlice Tryz.prog 24 = true) ∧ (isBool Tryz.prog 24 = false) ∧ (intOf' Tryz.prog 24 = none) ∧ (elemOf Tryz.prog 24 = some 33) ∧ (zeroOf Tryz.prog 24 = some (.slice none 0 0)) ∧ (elOf Tryz.prog 24 = some (33, 4, 48, [.string ⟨#[]⟩, .int .i64 0, .string ⟨#[]⟩, .int .i64 0]))) ∧ ((szOf Tryz.prog 26 = some 1) ∧ (aggOf Tryz.prog 26 = some true) ∧ (strOf Tryz.prog 26 = false) ∧ (isSlice Tryz.prog 26 = false) ∧ (isBool Tryz.prog 26 = false) ∧ (intOf' Tryz.prog 26 = none) ∧ (elemOf Tryz.prog 26 = none) ∧ (zeroOf Tryz.prog 26 = some (.agg #[.slice none 0 0])) ∧ (fldOf Tryz.prog 26 0 = some (0, 24)) ∧ (placesOf Tryz.prog 26 = some [(0, 1)]) ∧ (szOf Tryz.prog 29 = some 1) ∧ (aggOf Tryz.prog 29 = some false) ∧ (strOf Tryz.prog 29 = false) ∧ (isSlice Tryz.prog 29 = true) ∧ (isBool Tryz.prog 29 = false) ∧ (intOf' Tryz.prog 29 = none) ∧ (elemOf Tryz.prog 29 = some 9) ∧ (zeroOf Tryz.prog 29 = some (.slice none 0 0)) ∧ (elOf Tryz.prog 29 = some (9, 1, 16, [.string ⟨#[]⟩])) ∧ (szOf Tryz.prog 33 = some 4) ∧ (aggOf Tryz.prog 33 = some true) ∧ (strOf Tryz.prog 33 = false) ∧ (isSlice Tryz.prog 33 = false) ∧ (isBool Tryz.prog 33 = false) ∧ (intOf' Tryz.prog 33 = none) ∧ (elemOf Tryz.prog 33 = none) ∧ (zeroOf Tryz.prog 33 = some (.agg #[.string ⟨#[]⟩, .int .i64 0, .string ⟨#[]⟩, .int .i64 0])) ∧ (fldOf Tryz.prog 33 0 = some (0, 9)) ∧ (fldOf Tryz.prog 33 1 = some (1, 3)) ∧ (fldOf Tryz.prog 33 2 = some (2, 9)) ∧ (fldOf Tryz.prog 33 3 = some (3, 3)) ∧ (placesOf Tryz.prog 33 = some [(0, 1), (1, 1), (2, 1), (3, 1)]) ∧ (eqKs Tryz.prog 33 = some [.str, .int, .str, .int]) ∧ (szOf Tryz.prog 40 = some 1) ∧ (aggOf Tryz.prog 40 = some false) ∧ (szOf Tryz.prog 52 = some 3) ∧ (aggOf Tryz.prog 52 = some true) ∧ (strOf Tryz.prog 52 = false) ∧ (isSlice Tryz.prog 52 = false) ∧ (isBool Tryz.prog 52 = false)) ∧ ((intOf' Tryz.prog 52 = none) ∧ (elemOf Tryz.prog 52 = none) ∧ (zeroOf Tryz.prog 52 = some (.agg #[.slice none 0 0, .int .i64 0, .int .i64 0])) ∧ (fldOf Tryz.prog 52 0 = some (0, 22)) ∧ (fldOf Tryz.prog 52 1 = some (1, 3)) ∧ (fldOf Tryz.prog 52 2 = some (2, 3)) ∧ (placesOf Tryz.prog 52 = some [(0, 1), (1, 1), (2, 1)]) ∧ (szOf Tryz.prog 54 = some 1) ∧ (aggOf Tryz.prog 54 = some false) ∧ (strOf Tryz.prog 54 = false) ∧ (isSlice Tryz.prog 54 = true) ∧ (isBool Tryz.prog 54 = false) ∧ (intOf' Tryz.prog 54 = none) ∧ (elemOf Tryz.prog 54 = some 96) ∧ (zeroOf Tryz.prog 54 = some (.slice none 0 0)) ∧ (elOf Tryz.prog 54 = some (96, 5, 56, [.int .i64 0, .int .i64 0, .int .i64 0, .int .i64 0, .slice none 0 0])) ∧ (szOf Tryz.prog 56 = some 2) ∧ (aggOf Tryz.prog 56 = some true) ∧ (strOf Tryz.prog 56 = false) ∧ (isSlice Tryz.prog 56 = false) ∧ (isBool Tryz.prog 56 = false) ∧ (intOf' Tryz.prog 56 = none) ∧ (elemOf Tryz.prog 56 = none) ∧ (zeroOf Tryz.prog 56 = some (.agg #[.slice none 0 0, .slice none 0 0])) ∧ (fldOf Tryz.prog 56 0 = some (0, 54)) ∧ (fldOf Tryz.prog 56 1 = some (1, 29)) ∧ (placesOf Tryz.prog 56 = some [(0, 1), (1, 1)]) ∧ (szOf Tryz.prog 61 = some 1) ∧ (aggOf Tryz.prog 61 = some false) ∧ (strOf Tryz.prog 61 = false) ∧ (isSlice Tryz.prog 61 = true) ∧ (isBool Tryz.prog 61 = false) ∧ (intOf' Tryz.prog 61 = none) ∧ (elemOf Tryz.prog 61 = some 3) ∧ (zeroOf Tryz.prog 61 = some (.slice none 0 0)) ∧ (elOf Tryz.prog 61 = some (3, 1, 8, [.int .i64 0])) ∧ (szOf Tryz.prog 84 = some 1) ∧ (aggOf Tryz.prog 84 = some false) ∧ (szOf Tryz.prog 96 = some 5) ∧ (aggOf Tryz.prog 96 = some true)) ∧ ((strOf Tryz.prog 96 = false) ∧ (isSlice Tryz.prog 96 = false) ∧ (isBool Tryz.prog 96 = false) ∧ (intOf' Tryz.prog 96 = none) ∧ (elemOf Tryz.prog 96 = none) ∧ (zeroOf Tryz.prog 96 = some (.agg #[.int .i64 0, .int .i64 0, .int .i64 0, .int .i64 0, .slice none 0 0])) ∧ (fldOf Tryz.prog 96 0 = some (0, 3)) ∧ (fldOf Tryz.prog 96 1 = some (1, 3)) ∧ (fldOf Tryz.prog 96 2 = some (2, 3)) ∧ (fldOf Tryz.prog 96 3 = some (3, 3)) ∧ (fldOf Tryz.prog 96 4 = some (4, 61)) ∧ (placesOf Tryz.prog 96 = some [(0, 1), (1, 1), (2, 1), (3, 1), (4, 1)]) ∧ (szOf Tryz.prog 97 = some 1) ∧ (aggOf Tryz.prog 97 = some false) ∧ (strOf Tryz.prog 97 = false) ∧ (isSlice Tryz.prog 97 = true) ∧ (isBool Tryz.prog 97 = false) ∧ (intOf' Tryz.prog 97 = none) ∧ (elemOf Tryz.prog 97 = some 101) ∧ (zeroOf Tryz.prog 97 = some (.slice none 0 0)) ∧ (elOf Tryz.prog 97 = some (101, 2, 24, [.string ⟨#[]⟩, .int .i64 0])) ∧ (szOf Tryz.prog 101 = some 2) ∧ (aggOf Tryz.prog 101 = some true) ∧ (strOf Tryz.prog 101 = false) ∧ (isSlice Tryz.prog 101 = false) ∧ (isBool Tryz.prog 101 = false) ∧ (intOf' Tryz.prog 101 = none) ∧ (elemOf Tryz.prog 101 = none) ∧ (zeroOf Tryz.prog 101 = some (.agg #[.string ⟨#[]⟩, .int .i64 0])) ∧ (fldOf Tryz.prog 101 0 = some (0, 9)) ∧ (fldOf Tryz.prog 101 1 = some (1, 3)) ∧ (placesOf Tryz.prog 101 = some [(0, 1), (1, 1)]) ∧ (eqKs Tryz.prog 101 = some [.str, .int]) ∧ (szOf Tryz.prog 115 = some 1) ∧ (aggOf Tryz.prog 115 = some false) ∧ (strOf Tryz.prog 115 = false) ∧ (isSlice Tryz.prog 115 = false) ∧ (isBool Tryz.prog 115 = false) ∧ (intOf' Tryz.prog 115 = some .u64) ∧ (elemOf Tryz.prog 115 = none)) ∧ ((zeroOf Tryz.prog 115 = some (.int .u64 0)) ∧ (szOf Tryz.prog 116 = some 1) ∧ (aggOf Tryz.prog 116 = some false) ∧ (szOf Tryz.prog 133 = some 1) ∧ (aggOf Tryz.prog 133 = some false) ∧ (strOf Tryz.prog 133 = false) ∧ (isSlice Tryz.prog 133 = false) ∧ (isBool Tryz.prog 133 = false) ∧ (intOf' Tryz.prog 133 = some .u64) ∧ (elemOf Tryz.prog 133 = none) ∧ (zeroOf Tryz.prog 133 = some (.int .u64 0)) ∧ (szOf Tryz.prog 149 = some 1) ∧ (aggOf Tryz.prog 149 = some false) ∧ (strOf Tryz.prog 149 = false) ∧ (isSlice Tryz.prog 149 = false) ∧ (isBool Tryz.prog 149 = false) ∧ (intOf' Tryz.prog 149 = some .u32) ∧ (elemOf Tryz.prog 149 = none) ∧ (zeroOf Tryz.prog 149 = some (.int .u32 0))) := ⟨tys0, tys1, tys2, tys3, tys4, tys5⟩
theorem mixed : Tryz.prog.follows .mixedOrders = true := by kernel_rfl
attribute [simp] TY
end Go.Proofs.YtmpgpkdijfcfhaaGreatDoor.Hz
