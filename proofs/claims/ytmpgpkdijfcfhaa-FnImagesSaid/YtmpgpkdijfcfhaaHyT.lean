/- What the calculus asks of the types, each fact by the kernel. Written by facts.py. -/
import Derived.Test.YtmpgpkdijfcfhaaHyGBb
import Derived.Test.YtmpgpkdijfcfhaaProg
namespace Go.Proofs.Ytmpgpkdijfcfhaa.Hz
theorem ty0 : szOf Try.prog 2 = some 1 := by kernel_rfl
theorem ty1 : aggOf Try.prog 2 = some false := by kernel_rfl
theorem ty2 : strOf Try.prog 2 = false := by kernel_rfl
theorem ty3 : isSlice Try.prog 2 = false := by kernel_rfl
theorem ty4 : isBool Try.prog 2 = false := by kernel_rfl
theorem ty5 : intOf' Try.prog 2 = some .i64 := by kernel_rfl
theorem ty6 : elemOf Try.prog 2 = none := by kernel_rfl
theorem ty7 : zeroOf Try.prog 2 = some (.int .i64 0) := by kernel_rfl
theorem ty8 : szOf Try.prog 3 = some 1 := by kernel_rfl
theorem ty9 : aggOf Try.prog 3 = some false := by kernel_rfl
theorem ty10 : strOf Try.prog 3 = false := by kernel_rfl
theorem ty11 : isSlice Try.prog 3 = false := by kernel_rfl
theorem ty12 : isBool Try.prog 3 = false := by kernel_rfl
theorem ty13 : intOf' Try.prog 3 = some .i64 := by kernel_rfl
theorem ty14 : elemOf Try.prog 3 = none := by kernel_rfl
theorem ty15 : zeroOf Try.prog 3 = some (.int .i64 0) := by kernel_rfl
theorem ty16 : szOf Try.prog 4 = some 1 := by kernel_rfl
theorem ty17 : aggOf Try.prog 4 = some false := by kernel_rfl
theorem ty18 : strOf Try.prog 4 = false := by kernel_rfl
theorem ty19 : isSlice Try.prog 4 = false := by kernel_rfl
theorem ty20 : isBool Try.prog 4 = true := by kernel_rfl
theorem ty21 : intOf' Try.prog 4 = none := by kernel_rfl
theorem ty22 : elemOf Try.prog 4 = none := by kernel_rfl
theorem ty23 : zeroOf Try.prog 4 = some (.bool false) := by kernel_rfl
theorem ty24 : szOf Try.prog 5 = some 1 := by kernel_rfl
theorem ty25 : aggOf Try.prog 5 = some false := by kernel_rfl
theorem ty26 : strOf Try.prog 5 = false := by kernel_rfl
theorem ty27 : isSlice Try.prog 5 = false := by kernel_rfl
theorem ty28 : isBool Try.prog 5 = false := by kernel_rfl
theorem ty29 : intOf' Try.prog 5 = some .u8 := by kernel_rfl
theorem ty30 : elemOf Try.prog 5 = none := by kernel_rfl
theorem ty31 : zeroOf Try.prog 5 = some (.int .u8 0) := by kernel_rfl
theorem ty32 : szOf Try.prog 9 = some 1 := by kernel_rfl
theorem ty33 : aggOf Try.prog 9 = some false := by kernel_rfl
theorem ty34 : strOf Try.prog 9 = true := by kernel_rfl
theorem ty35 : isSlice Try.prog 9 = false := by kernel_rfl
theorem ty36 : isBool Try.prog 9 = false := by kernel_rfl
theorem ty37 : intOf' Try.prog 9 = none := by kernel_rfl
theorem ty38 : elemOf Try.prog 9 = none := by kernel_rfl
theorem ty39 : zeroOf Try.prog 9 = some (.string ⟨#[]⟩) := by kernel_rfl
theorem ty40 : szOf Try.prog 12 = some 1 := by kernel_rfl
theorem ty41 : aggOf Try.prog 12 = some false := by kernel_rfl
theorem ty42 : strOf Try.prog 12 = false := by kernel_rfl
theorem ty43 : isSlice Try.prog 12 = false := by kernel_rfl
theorem ty44 : isBool Try.prog 12 = false := by kernel_rfl
theorem ty45 : intOf' Try.prog 12 = some .u64 := by kernel_rfl
theorem ty46 : elemOf Try.prog 12 = none := by kernel_rfl
theorem ty47 : zeroOf Try.prog 12 = some (.int .u64 0) := by kernel_rfl
theorem ty48 : szOf Try.prog 15 = some 1 := by kernel_rfl
theorem ty49 : aggOf Try.prog 15 = some false := by kernel_rfl
theorem ty50 : szOf Try.prog 16 = some 1 := by kernel_rfl
theorem ty51 : aggOf Try.prog 16 = some false := by kernel_rfl
theorem ty52 : szOf Try.prog 17 = some 1 := by kernel_rfl
theorem ty53 : aggOf Try.prog 17 = some false := by kernel_rfl
theorem ty54 : szOf Try.prog 21 = some 1 := by kernel_rfl
theorem ty55 : aggOf Try.prog 21 = some false := by kernel_rfl
theorem ty56 : strOf Try.prog 21 = false := by kernel_rfl
theorem ty57 : isSlice Try.prog 21 = false := by kernel_rfl
theorem ty58 : isBool Try.prog 21 = false := by kernel_rfl
theorem ty59 : intOf' Try.prog 21 = some .i32 := by kernel_rfl
theorem ty60 : elemOf Try.prog 21 = none := by kernel_rfl
theorem ty61 : zeroOf Try.prog 21 = some (.int .i32 0) := by kernel_rfl
theorem ty62 : szOf Try.prog 22 = some 1 := by kernel_rfl
theorem ty63 : aggOf Try.prog 22 = some false := by kernel_rfl
theorem ty64 : strOf Try.prog 22 = false := by kernel_rfl
theorem ty65 : isSlice Try.prog 22 = true := by kernel_rfl
theorem ty66 : isBool Try.prog 22 = false := by kernel_rfl
theorem ty67 : intOf' Try.prog 22 = none := by kernel_rfl
theorem ty68 : elemOf Try.prog 22 = some 9 := by kernel_rfl
theorem ty69 : zeroOf Try.prog 22 = some (.slice none 0 0) := by kernel_rfl
theorem ty70 : elOf Try.prog 22 = some (9, 1, 16, [.string ⟨#[]⟩]) := by kernel_rfl
theorem ty71 : szOf Try.prog 24 = some 1 := by kernel_rfl
theorem ty72 : aggOf Try.prog 24 = some false := by kernel_rfl
theorem ty73 : strOf Try.prog 24 = false := by kernel_rfl
theorem ty74 : isSlice Try.prog 24 = true := by kernel_rfl
theorem ty75 : isBool Try.prog 24 = false := by kernel_rfl
theorem ty76 : intOf' Try.prog 24 = none := by kernel_rfl
theorem ty77 : elemOf Try.prog 24 = some 49 := by kernel_rfl
theorem ty78 : zeroOf Try.prog 24 = some (.slice none 0 0) := by kernel_rfl
theorem ty79 : elOf Try.prog 24 = some (49, 5, 56, [.int .i64 0, .int .i64 0, .int .i64 0, .int .i64 0, .slice none 0 0]) := by kernel_rfl
theorem ty80 : szOf Try.prog 26 = some 2 := by kernel_rfl
theorem ty81 : aggOf Try.prog 26 = some true := by kernel_rfl
theorem ty82 : strOf Try.prog 26 = false := by kernel_rfl
theorem ty83 : isSlice Try.prog 26 = false := by kernel_rfl
theorem ty84 : isBool Try.prog 26 = false := by kernel_rfl
theorem ty85 : intOf' Try.prog 26 = none := by kernel_rfl
theorem ty86 : elemOf Try.prog 26 = none := by kernel_rfl
theorem ty87 : zeroOf Try.prog 26 = some (.agg #[.slice none 0 0, .slice none 0 0]) := by kernel_rfl
theorem ty88 : fldOf Try.prog 26 0 = some (0, 24) := by kernel_rfl
theorem ty89 : fldOf Try.prog 26 1 = some (1, 22) := by kernel_rfl
theorem ty90 : placesOf Try.prog 26 = some [(0, 1), (1, 1)] := by kernel_rfl
theorem ty91 : szOf Try.prog 34 = some 1 := by kernel_rfl
theorem ty92 : aggOf Try.prog 34 = some false := by kernel_rfl
theorem ty93 : strOf Try.prog 34 = false := by kernel_rfl
theorem ty94 : isSlice Try.prog 34 = true := by kernel_rfl
theorem ty95 : isBool Try.prog 34 = false := by kernel_rfl
theorem ty96 : intOf' Try.prog 34 = none := by kernel_rfl
theorem ty97 : elemOf Try.prog 34 = some 5 := by kernel_rfl
theorem ty98 : zeroOf Try.prog 34 = some (.slice none 0 0) := by kernel_rfl
theorem ty99 : elOf Try.prog 34 = some (5, 1, 1, [.int .u8 0]) := by kernel_rfl
theorem ty100 : szOf Try.prog 41 = some 1 := by kernel_rfl
theorem ty101 : aggOf Try.prog 41 = some false := by kernel_rfl
theorem ty102 : strOf Try.prog 41 = false := by kernel_rfl
theorem ty103 : isSlice Try.prog 41 = true := by kernel_rfl
theorem ty104 : isBool Try.prog 41 = false := by kernel_rfl
theorem ty105 : intOf' Try.prog 41 = none := by kernel_rfl
theorem ty106 : elemOf Try.prog 41 = some 44 := by kernel_rfl
theorem ty107 : zeroOf Try.prog 41 = some (.slice none 0 0) := by kernel_rfl
theorem ty108 : elOf Try.prog 41 = some (44, 2, 24, [.int .i64 0, .string ⟨#[]⟩]) := by kernel_rfl
theorem ty109 : szOf Try.prog 44 = some 2 := by kernel_rfl
theorem ty110 : aggOf Try.prog 44 = some true := by kernel_rfl
theorem ty111 : strOf Try.prog 44 = false := by kernel_rfl
theorem ty112 : isSlice Try.prog 44 = false := by kernel_rfl
theorem ty113 : isBool Try.prog 44 = false := by kernel_rfl
theorem ty114 : intOf' Try.prog 44 = none := by kernel_rfl
theorem ty115 : elemOf Try.prog 44 = none := by kernel_rfl
theorem ty116 : zeroOf Try.prog 44 = some (.agg #[.int .i64 0, .string ⟨#[]⟩]) := by kernel_rfl
theorem ty117 : fldOf Try.prog 44 0 = some (0, 3) := by kernel_rfl
theorem ty118 : fldOf Try.prog 44 1 = some (1, 9) := by kernel_rfl
theorem ty119 : placesOf Try.prog 44 = some [(0, 1), (1, 1)] := by kernel_rfl
theorem ty120 : eqKs Try.prog 44 = some [.int, .str] := by kernel_rfl
theorem ty121 : szOf Try.prog 47 = some 1 := by kernel_rfl
theorem ty122 : aggOf Try.prog 47 = some false := by kernel_rfl
theorem ty123 : strOf Try.prog 47 = false := by kernel_rfl
theorem ty124 : isSlice Try.prog 47 = true := by kernel_rfl
theorem ty125 : isBool Try.prog 47 = false := by kernel_rfl
theorem ty126 : intOf' Try.prog 47 = none := by kernel_rfl
theorem ty127 : elemOf Try.prog 47 = some 3 := by kernel_rfl
theorem ty128 : zeroOf Try.prog 47 = some (.slice none 0 0) := by kernel_rfl
theorem ty129 : elOf Try.prog 47 = some (3, 1, 8, [.int .i64 0]) := by kernel_rfl
theorem ty130 : szOf Try.prog 49 = some 5 := by kernel_rfl
theorem ty131 : aggOf Try.prog 49 = some true := by kernel_rfl
theorem ty132 : strOf Try.prog 49 = false := by kernel_rfl
theorem ty133 : isSlice Try.prog 49 = false := by kernel_rfl
theorem ty134 : isBool Try.prog 49 = false := by kernel_rfl
theorem ty135 : intOf' Try.prog 49 = none := by kernel_rfl
theorem ty136 : elemOf Try.prog 49 = none := by kernel_rfl
theorem ty137 : zeroOf Try.prog 49 = some (.agg #[.int .i64 0, .int .i64 0, .int .i64 0, .int .i64 0, .slice none 0 0]) := by kernel_rfl
theorem ty138 : fldOf Try.prog 49 0 = some (0, 3) := by kernel_rfl
theorem ty139 : fldOf Try.prog 49 1 = some (1, 3) := by kernel_rfl
theorem ty140 : fldOf Try.prog 49 2 = some (2, 3) := by kernel_rfl
theorem ty141 : fldOf Try.prog 49 3 = some (3, 3) := by kernel_rfl
theorem ty142 : fldOf Try.prog 49 4 = some (4, 47) := by kernel_rfl
theorem ty143 : placesOf Try.prog 49 = some [(0, 1), (1, 1), (2, 1), (3, 1), (4, 1)] := by kernel_rfl
theorem ty144 : szOf Try.prog 58 = some 1 := by kernel_rfl
theorem ty145 : aggOf Try.prog 58 = some false := by kernel_rfl
theorem ty146 : szOf Try.prog 81 = some 3 := by kernel_rfl
theorem ty147 : aggOf Try.prog 81 = some true := by kernel_rfl
theorem ty148 : strOf Try.prog 81 = false := by kernel_rfl
theorem ty149 : isSlice Try.prog 81 = false := by kernel_rfl
theorem ty150 : isBool Try.prog 81 = false := by kernel_rfl
theorem ty151 : intOf' Try.prog 81 = none := by kernel_rfl
theorem ty152 : elemOf Try.prog 81 = none := by kernel_rfl
theorem ty153 : zeroOf Try.prog 81 = some (.agg #[.slice none 0 0, .int .i64 0, .int .i64 0]) := by kernel_rfl
theorem ty154 : fldOf Try.prog 81 0 = some (0, 34) := by kernel_rfl
theorem ty155 : fldOf Try.prog 81 1 = some (1, 3) := by kernel_rfl
theorem ty156 : fldOf Try.prog 81 2 = some (2, 3) := by kernel_rfl
theorem ty157 : placesOf Try.prog 81 = some [(0, 1), (1, 1), (2, 1)] := by kernel_rfl
theorem ty158 : szOf Try.prog 82 = some 1 := by kernel_rfl
theorem ty159 : aggOf Try.prog 82 = some false := by kernel_rfl
theorem ty160 : strOf Try.prog 82 = false := by kernel_rfl
theorem ty161 : isSlice Try.prog 82 = false := by kernel_rfl
theorem ty162 : isBool Try.prog 82 = false := by kernel_rfl
theorem ty163 : intOf' Try.prog 82 = some .u64 := by kernel_rfl
theorem ty164 : elemOf Try.prog 82 = none := by kernel_rfl
theorem ty165 : zeroOf Try.prog 82 = some (.int .u64 0) := by kernel_rfl
theorem ty166 : szOf Try.prog 108 = some 1 := by kernel_rfl
theorem ty167 : aggOf Try.prog 108 = some false := by kernel_rfl
theorem ty168 : strOf Try.prog 108 = false := by kernel_rfl
theorem ty169 : isSlice Try.prog 108 = true := by kernel_rfl
theorem ty170 : isBool Try.prog 108 = false := by kernel_rfl
theorem ty171 : intOf' Try.prog 108 = none := by kernel_rfl
theorem ty172 : elemOf Try.prog 108 = some 124 := by kernel_rfl
theorem ty173 : zeroOf Try.prog 108 = some (.slice none 0 0) := by kernel_rfl
theorem ty174 : elOf Try.prog 108 = some (124, 2, 24, [.string ⟨#[]⟩, .int .i64 0]) := by kernel_rfl
theorem ty175 : szOf Try.prog 117 = some 1 := by kernel_rfl
theorem ty176 : aggOf Try.prog 117 = some false := by kernel_rfl
theorem ty177 : strOf Try.prog 117 = false := by kernel_rfl
theorem ty178 : isSlice Try.prog 117 = false := by kernel_rfl
theorem ty179 : isBool Try.prog 117 = false := by kernel_rfl
theorem ty180 : intOf' Try.prog 117 = some .u32 := by kernel_rfl
theorem ty181 : elemOf Try.prog 117 = none := by kernel_rfl
theorem ty182 : zeroOf Try.prog 117 = some (.int .u32 0) := by kernel_rfl
theorem ty183 : szOf Try.prog 120 = some 1 := by kernel_rfl
theorem ty184 : aggOf Try.prog 120 = some false := by kernel_rfl
theorem ty185 : strOf Try.prog 120 = false := by kernel_rfl
theorem ty186 : isSlice Try.prog 120 = false := by kernel_rfl
theorem ty187 : isBool Try.prog 120 = false := by kernel_rfl
theorem ty188 : intOf' Try.prog 120 = some .u64 := by kernel_rfl
theorem ty189 : elemOf Try.prog 120 = none := by kernel_rfl
theorem ty190 : zeroOf Try.prog 120 = some (.int .u64 0) := by kernel_rfl
theorem ty191 : szOf Try.prog 124 = some 2 := by kernel_rfl
theorem ty192 : aggOf Try.prog 124 = some true := by kernel_rfl
theorem ty193 : strOf Try.prog 124 = false := by kernel_rfl
theorem ty194 : isSlice Try.prog 124 = false := by kernel_rfl
theorem ty195 : isBool Try.prog 124 = false := by kernel_rfl
theorem ty196 : intOf' Try.prog 124 = none := by kernel_rfl
theorem ty197 : elemOf Try.prog 124 = none := by kernel_rfl
theorem ty198 : zeroOf Try.prog 124 = some (.agg #[.string ⟨#[]⟩, .int .i64 0]) := by kernel_rfl
theorem ty199 : fldOf Try.prog 124 0 = some (0, 9) := by kernel_rfl
theorem ty200 : fldOf Try.prog 124 1 = some (1, 3) := by kernel_rfl
theorem ty201 : placesOf Try.prog 124 = some [(0, 1), (1, 1)] := by kernel_rfl
theorem ty202 : eqKs Try.prog 124 = some [.str, .int] := by kernel_rfl
theorem ty203 : szOf Try.prog 146 = some 1 := by kernel_rfl
theorem ty204 : aggOf Try.prog 146 = some false := by kernel_rfl
theorem tys0 : (szOf Try.prog 2 = some 1) ∧ (aggOf Try.prog 2 = some false) ∧ (strOf Try.prog 2 = false) ∧ (isSlice Try.prog 2 = false) ∧ (isBool Try.prog 2 = false) ∧ (intOf' Try.prog 2 = some .i64) ∧ (elemOf Try.prog 2 = none) ∧ (zeroOf Try.prog 2 = some (.int .i64 0)) ∧ (szOf Try.prog 3 = some 1) ∧ (aggOf Try.prog 3 = some false) ∧ (strOf Try.prog 3 = false) ∧ (isSlice Try.prog 3 = false) ∧ (isBool Try.prog 3 = false) ∧ (intOf' Try.prog 3 = some .i64) ∧ (elemOf Try.prog 3 = none) ∧ (zeroOf Try.prog 3 = some (.int .i64 0)) ∧ (szOf Try.prog 4 = some 1) ∧ (aggOf Try.prog 4 = some false) ∧ (strOf Try.prog 4 = false) ∧ (isSlice Try.prog 4 = false) ∧ (isBool Try.prog 4 = true) ∧ (intOf' Try.prog 4 = none) ∧ (elemOf Try.prog 4 = none) ∧ (zeroOf Try.prog 4 = some (.bool false)) ∧ (szOf Try.prog 5 = some 1) ∧ (aggOf Try.prog 5 = some false) ∧ (strOf Try.prog 5 = false) ∧ (isSlice Try.prog 5 = false) ∧ (isBool Try.prog 5 = false) ∧ (intOf' Try.prog 5 = some .u8) ∧ (elemOf Try.prog 5 = none) ∧ (zeroOf Try.prog 5 = some (.int .u8 0)) ∧ (szOf Try.prog 9 = some 1) ∧ (aggOf Try.prog 9 = some false) ∧ (strOf Try.prog 9 = true) ∧ (isSlice Try.prog 9 = false) ∧ (isBool Try.prog 9 = false) ∧ (intOf' Try.prog 9 = none) ∧ (elemOf Try.prog 9 = none) ∧ (zeroOf Try.prog 9 = some (.string ⟨#[]⟩)) := ⟨ty0, ty1, ty2, ty3, ty4, ty5, ty6, ty7, ty8, ty9, ty10, ty11, ty12, ty13, ty14, ty15, ty16, ty17, ty18, ty19, ty20, ty21, ty22, ty23, ty24, ty25, ty26, ty27, ty28, ty29, ty30, ty31, ty32, ty33, ty34, ty35, ty36, ty37, ty38, ty39⟩
theorem tys1 : (szOf Try.prog 12 = some 1) ∧ (aggOf Try.prog 12 = some false) ∧ (strOf Try.prog 12 = false) ∧ (isSlice Try.prog 12 = false) ∧ (isBool Try.prog 12 = false) ∧ (intOf' Try.prog 12 = some .u64) ∧ (elemOf Try.prog 12 = none) ∧ (zeroOf Try.prog 12 = some (.int .u64 0)) ∧ (szOf Try.prog 15 = some 1) ∧ (aggOf Try.prog 15 = some false) ∧ (szOf Try.prog 16 = some 1) ∧ (aggOf Try.prog 16 = some false) ∧ (szOf Try.prog 17 = some 1) ∧ (aggOf Try.prog 17 = some false) ∧ (szOf Try.prog 21 = some 1) ∧ (aggOf Try.prog 21 = some false) ∧ (strOf Try.prog 21 = false) ∧ (isSlice Try.prog 21 = false) ∧ (isBool Try.prog 21 = false) ∧ (intOf' Try.prog 21 = some .i32) ∧ (elemOf Try.prog 21 = none) ∧ (zeroOf Try.prog 21 = some (.int .i32 0)) ∧ (szOf Try.prog 22 = some 1) ∧ (aggOf Try.prog 22 = some false) ∧ (strOf Try.prog 22 = false) ∧ (isSlice Try.prog 22 = true) ∧ (isBool Try.prog 22 = false) ∧ (intOf' Try.prog 22 = none) ∧ (elemOf Try.prog 22 = some 9) ∧ (zeroOf Try.prog 22 = some (.slice none 0 0)) ∧ (elOf Try.prog 22 = some (9, 1, 16, [.string ⟨#[]⟩])) ∧ (szOf Try.prog 24 = some 1) ∧ (aggOf Try.prog 24 = some false) ∧ (strOf Try.prog 24 = false) ∧ (isSlice Try.prog 24 = true) ∧ (isBool Try.prog 24 = false) ∧ (intOf' Try.prog 24 = none) ∧ (elemOf Try.prog 24 = some 49) ∧ (zeroOf Try.prog 24 = some (.slice none 0 0)) ∧ (elOf Try.prog 24 = some (49, 5, 56, [.int .i64 0, .int .i64 0, .int .i64 0, .int .i64 0, .slice none 0 0])) := ⟨ty40, ty41, ty42, ty43, ty44, ty45, ty46, ty47, ty48, ty49, ty50, ty51, ty52, ty53, ty54, ty55, ty56, ty57, ty58, ty59, ty60, ty61, ty62, ty63, ty64, ty65, ty66, ty67, ty68, ty69, ty70, ty71, ty72, ty73, ty74, ty75, ty76, ty77, ty78, ty79⟩
theorem tys2 : (szOf Try.prog 26 = some 2) ∧ (aggOf Try.prog 26 = some true) ∧ (strOf Try.prog 26 = false) ∧ (isSlice Try.prog 26 = false) ∧ (isBool Try.prog 26 = false) ∧ (intOf' Try.prog 26 = none) ∧ (elemOf Try.prog 26 = none) ∧ (zeroOf Try.prog 26 = some (.agg #[.slice none 0 0, .slice none 0 0])) ∧ (fldOf Try.prog 26 0 = some (0, 24)) ∧ (fldOf Try.prog 26 1 = some (1, 22)) ∧ (placesOf Try.prog 26 = some [(0, 1), (1, 1)]) ∧ (szOf Try.prog 34 = some 1) ∧ (aggOf Try.prog 34 = some false) ∧ (strOf Try.prog 34 = false) ∧ (isSlice Try.prog 34 = true) ∧ (isBool Try.prog 34 = false) ∧ (intOf' Try.prog 34 = none) ∧ (elemOf Try.prog 34 = some 5) ∧ (zeroOf Try.prog 34 = some (.slice none 0 0)) ∧ (elOf Try.prog 34 = some (5, 1, 1, [.int .u8 0])) ∧ (szOf Try.prog 41 = some 1) ∧ (aggOf Try.prog 41 = some false) ∧ (strOf Try.prog 41 = false) ∧ (isSlice Try.prog 41 = true) ∧ (isBool Try.prog 41 = false) ∧ (intOf' Try.prog 41 = none) ∧ (elemOf Try.prog 41 = some 44) ∧ (zeroOf Try.prog 41 = some (.slice none 0 0)) ∧ (elOf Try.prog 41 = some (44, 2, 24, [.int .i64 0, .string ⟨#[]⟩])) ∧ (szOf Try.prog 44 = some 2) ∧ (aggOf Try.prog 44 = some true) ∧ (strOf Try.prog 44 = false) ∧ (isSlice Try.prog 44 = false) ∧ (isBool Try.prog 44 = false) ∧ (intOf' Try.prog 44 = none) ∧ (elemOf Try.prog 44 = none) ∧ (zeroOf Try.prog 44 = some (.agg #[.int .i64 0, .string ⟨#[]⟩])) ∧ (fldOf Try.prog 44 0 = some (0, 3)) ∧ (fldOf Try.prog 44 1 = some (1, 9)) ∧ (placesOf Try.prog 44 = some [(0, 1), (1, 1)]) := ⟨ty80, ty81, ty82, ty83, ty84, ty85, ty86, ty87, ty88, ty89, ty90, ty91, ty92, ty93, ty94, ty95, ty96, ty97, ty98, ty99, ty100, ty101, ty102, ty103, ty104, ty105, ty106, ty107, ty108, ty109, ty110, ty111, ty112, ty113, ty114, ty115, ty116, ty117, ty118, ty119⟩
theorem tys3 : (eqKs Try.prog 44 = some [.int, .str]) ∧ (szOf Try.prog 47 = some 1) ∧ (aggOf Try.prog 47 = some false) ∧ (strOf Try.prog 47 = false) ∧ (isSlice Try.prog 47 = true) ∧ (isBool Try.prog 47 = false) ∧ (intOf' Try.prog 47 = none) ∧ (elemOf Try.prog 47 = some 3) ∧ (zeroOf Try.prog 47 = some (.slice none 0 0)) ∧ (elOf Try.prog 47 = some (3, 1, 8, [.int .i64 0])) ∧ (szOf Try.prog 49 = some 5) ∧ (aggOf Try.prog 49 = some true) ∧ (strOf Try.prog 49 = false) ∧ (isSlice Try.prog 49 = false) ∧ (isBool Try.prog 49 = false) ∧ (intOf' Try.prog 49 = none) ∧ (elemOf Try.prog 49 = none) ∧ (zeroOf Try.prog 49 = some (.agg #[.int .i64 0, .int .i64 0, .int .i64 0, .int .i64 0, .slice none 0 0])) ∧ (fldOf Try.prog 49 0 = some (0, 3)) ∧ (fldOf Try.prog 49 1 = some (1, 3)) ∧ (fldOf Try.prog 49 2 = some (2, 3)) ∧ (fldOf Try.prog 49 3 = some (3, 3)) ∧ (fldOf Try.prog 49 4 = some (4, 47)) ∧ (placesOf Try.prog 49 = some [(0, 1), (1, 1), (2, 1), (3, 1), (4, 1)]) ∧ (szOf Try.prog 58 = some 1) ∧ (aggOf Try.prog 58 = some false) ∧ (szOf Try.prog 81 = some 3) ∧ (aggOf Try.prog 81 = some true) ∧ (strOf Try.prog 81 = false) ∧ (isSlice Try.prog 81 = false) ∧ (isBool Try.prog 81 = false) ∧ (intOf' Try.prog 81 = none) ∧ (elemOf Try.prog 81 = none) ∧ (zeroOf Try.prog 81 = some (.agg #[.slice none 0 0, .int .i64 0, .int .i64 0])) ∧ (fldOf Try.prog 81 0 = some (0, 34)) ∧ (fldOf Try.prog 81 1 = some (1, 3)) ∧ (fldOf Try.prog 81 2 = some (2, 3)) ∧ (placesOf Try.prog 81 = some [(0, 1), (1, 1), (2, 1)]) ∧ (szOf Try.prog 82 = some 1) ∧ (aggOf Try.prog 82 = some false) := ⟨ty120, ty121, ty122, ty123, ty124, ty125, ty126, ty127, ty128, ty129, ty130, ty131, ty132, ty133, ty134, ty135, ty136, ty137, ty138, ty139, ty140, ty141, ty142, ty143, ty144, ty145, ty146, ty147, ty148, ty149, ty150, ty151, ty152, ty153, ty154, ty155, ty156, ty157, ty158, ty159⟩
theorem tys4 : (strOf Try.prog 82 = false) ∧ (isSlice Try.prog 82 = false) ∧ (isBool Try.prog 82 = false) ∧ (intOf' Try.prog 82 = some .u64) ∧ (elemOf Try.prog 82 = none) ∧ (zeroOf Try.prog 82 = some (.int .u64 0)) ∧ (szOf Try.prog 108 = some 1) ∧ (aggOf Try.prog 108 = some false) ∧ (strOf Try.prog 108 = false) ∧ (isSlice Try.prog 108 = true) ∧ (isBool Try.prog 108 = false) ∧ (intOf' Try.prog 108 = none) ∧ (elemOf Try.prog 108 = some 124) ∧ (zeroOf Try.prog 108 = some (.slice none 0 0)) ∧ (elOf Try.prog 108 = some (124, 2, 24, [.string ⟨#[]⟩, .int .i64 0])) ∧ (szOf Try.prog 117 = some 1) ∧ (aggOf Try.prog 117 = some false) ∧ (strOf Try.prog 117 = false) ∧ (isSlice Try.prog 117 = false) ∧ (isBool Try.prog 117 = false) ∧ (intOf' Try.prog 117 = some .u32) ∧ (elemOf Try.prog 117 = none) ∧ (zeroOf Try.prog 117 = some (.int .u32 0)) ∧ (szOf Try.prog 120 = some 1) ∧ (aggOf Try.prog 120 = some false) ∧ (strOf Try.prog 120 = false) ∧ (isSlice Try.prog 120 = false) ∧ (isBool Try.prog 120 = false) ∧ (intOf' Try.prog 120 = some .u64) ∧ (elemOf Try.prog 120 = none) ∧ (zeroOf Try.prog 120 = some (.int .u64 0)) ∧ (szOf Try.prog 124 = some 2) ∧ (aggOf Try.prog 124 = some true) ∧ (strOf Try.prog 124 = false) ∧ (isSlice Try.prog 124 = false) ∧ (isBool Try.prog 124 = false) ∧ (intOf' Try.prog 124 = none) ∧ (elemOf Try.prog 124 = none) ∧ (zeroOf Try.prog 124 = some (.agg #[.string ⟨#[]⟩, .int .i64 0])) ∧ (fldOf Try.prog 124 0 = some (0, 9)) := ⟨ty160, ty161, ty162, ty163, ty164, ty165, ty166, ty167, ty168, ty169, ty170, ty171, ty172, ty173, ty174, ty175, ty176, ty177, ty178, ty179, ty180, ty181, ty182, ty183, ty184, ty185, ty186, ty187, ty188, ty189, ty190, ty191, ty192, ty193, ty194, ty195, ty196, ty197, ty198, ty199⟩
theorem tys5 : (fldOf Try.prog 124 1 = some (1, 3)) ∧ (placesOf Try.prog 124 = some [(0, 1), (1, 1)]) ∧ (eqKs Try.prog 124 = some [.str, .int]) ∧ (szOf Try.prog 146 = some 1) ∧ (aggOf Try.prog 146 = some false) := ⟨ty200, ty201, ty202, ty203, ty204⟩
theorem TY : ((szOf Try.prog 2 = some 1) ∧ (aggOf Try.prog 2 = some false) ∧ (strOf Try.prog 2 = false) ∧ (isSlice Try.prog 2 = false) ∧ (isBool Try.prog 2 = false) ∧ (intOf' Try.prog 2 = some .i64) ∧ (elemOf Try.prog 2 = none) ∧ (zeroOf Try.prog 2 = some (.int .i64 0)) ∧ (szOf Try.prog 3 = some 1) ∧ (aggOf Try.prog 3 = some false) ∧ (strOf Try.prog 3 = false) ∧ (isSlice Try.prog 3 = false) ∧ (isBool Try.prog 3 = false) ∧ (intOf' Try.prog 3 = some .i64) ∧ (elemOf Try.prog 3 = none) ∧ (zeroOf Try.prog 3 = some (.int .i64 0)) ∧ (szOf Try.prog 4 = some 1) ∧ (aggOf Try.prog 4 = some false) ∧ (strOf Try.prog 4 = false) ∧ (isSlice Try.prog 4 = false) ∧ (isBool Try.prog 4 = true) ∧ (intOf' Try.prog 4 = none) ∧ (elemOf Try.prog 4 = none) ∧ (zeroOf Try.prog 4 = some (.bool false)) ∧ (szOf Try.prog 5 = some 1) ∧ (aggOf Try.prog 5 = some false) ∧ (strOf Try.prog 5 = false) ∧ (isSlice Try.prog 5 = false) ∧ (isBool Try.prog 5 = false) ∧ (intOf' Try.prog 5 = some .u8) ∧ (elemOf Try.prog 5 = none) ∧ (zeroOf Try.prog 5 = some (.int .u8 0)) ∧ (szOf Try.prog 9 = some 1) ∧ (aggOf Try.prog 9 = some false) ∧ (strOf Try.prog 9 = true) ∧ (isSlice Try.prog 9 = false) ∧ (isBool Try.prog 9 = false) ∧ (intOf' Try.prog 9 = none) ∧ (elemOf Try.prog 9 = none) ∧ (zeroOf Try.prog 9 = some (.string ⟨#[]⟩))) ∧ ((szOf Try.prog 12 = some 1) ∧ (aggOf Try.prog 12 = some false) ∧ (strOf Try.prog 12 = false) ∧ (isSlice Try.prog 12 = false) ∧ (isBool Try.prog 12 = false) ∧ (intOf' Try.prog 12 = some .u64) ∧ (elemOf Try.prog 12 = none) ∧ (zeroOf Try.prog 12 = some (.int .u64 0)) ∧ (szOf Try.prog 15 = some 1) ∧ (aggOf Try.prog 15 = some false) ∧ (szOf Try.prog 16 = some 1) ∧ (aggOf Try.prog 16 = some false) ∧ (szOf Try.prog 17 = some 1) ∧ (aggOf Try.prog 17 = some false) ∧ (szOf Try.prog 21 = some 1) ∧ (aggOf Try.prog 21 = some false) ∧ (strOf Try.prog 21 = false) ∧ (isSlice Try.prog 21 = false) ∧ (isBool Try.prog 21 = false) ∧ (intOf' Try.prog 21 = some .i32) ∧ (elemOf Try.prog 21 = none) ∧ (zeroOf Try.prog 21 = some (.int .i32 0)) ∧ (szOf Try.prog 22 = some 1) ∧ (aggOf Try.prog 22 = some false) ∧ (strOf Try.prog 22 = false) ∧ (isSlice Try.prog 22 = true) ∧ (isBool Try.prog 22 = false) ∧ (intOf' Try.prog 22 = none) ∧ (elemOf Try.prog 22 = some 9) ∧ (zeroOf Try.prog 22 = some (.slice none 0 0)) ∧ (elOf Try.prog 22 = some (9, 1, 16, [.string ⟨#[]⟩])) ∧ (szOf Try.prog 24 = some 1) ∧ (aggOf Try.prog 24 = some false) ∧ (strOf Try.prog 24 = false) ∧ (isSlice Try.prog 24 = true) ∧ (isBool Try.prog 24 = false) ∧ (intOf' Try.prog 24 = none) ∧ (elemOf Try.prog 24 = some 49) ∧ (zeroOf Try.prog 24 = some (.slice none 0 0)) ∧ (elOf Try.prog 24 = some (49, 5, 56, [.int .i64 0, .int .i64 0, .int .i64 0, .int .i64 0, .slice none 0 0]))) ∧ ((szOf Try.prog 26 = some 2) ∧ (aggOf Try.prog 26 = some true) ∧ (strOf Try.prog 26 = false) ∧ (isSlice Try.prog 26 = false) ∧ (isBool Try.prog 26 = false) ∧ (intOf' Try.prog 26 = none) ∧ (elemOf Try.prog 26 = none) ∧ (zeroOf Try.prog 26 = some (.agg #[.slice none 0 0, .slice none 0 0])) ∧ (fldOf Try.prog 26 0 = some (0, 24)) ∧ (fldOf Try.prog 26 1 = some (1, 22)) ∧ (placesOf Try.prog 26 = some [(0, 1), (1, 1)]) ∧ (szOf Try.prog 34 = some 1) ∧ (aggOf Try.prog 34 = some false) ∧ (strOf Try.prog 34 = false) ∧ (isSlice Try.prog 34 = true) ∧ (isBool Try.prog 34 = false) ∧ (intOf' Try.prog 34 = none) ∧ (elemOf Try.prog 34 = some 5) ∧ (zeroOf Try.prog 34 = some (.slice none 0 0)) ∧ (elOf Try.prog 34 = some (5, 1, 1, [.int .u8 0])) ∧ (szOf Try.prog 41 = some 1) ∧ (aggOf Try.prog 41 = some false) ∧ (strOf Try.prog 41 = false) ∧ (isSlice Try.prog 41 = true) ∧ (isBool Try.prog 41 = false) ∧ (intOf' Try.prog 41 = none) ∧ (elemOf Try.prog 41 = some 44) ∧ (zeroOf Try.prog 41 = some (.slice none 0 0)) ∧ (elOf Try.prog 41 = some (44, 2, 24, [.int .i64 0, .string ⟨#[]⟩])) ∧ (szOf Try.prog 44 = some 2) ∧ (aggOf Try.prog 44 = some true) ∧ (strOf Try.prog 44 = false) ∧ (isSlice Try.prog 44 = false) ∧ (isBool Try.prog 44 = false) ∧ (intOf' Try.prog 44 = none) ∧ (elemOf Try.prog 44 = none) ∧ (zeroOf Try.prog 44 = some (.agg #[.int .i64 0, .string ⟨#[]⟩])) ∧ (fldOf Try.prog 44 0 = some (0, 3)) ∧ (fldOf Try.prog 44 1 = some (1, 9)) ∧ (placesOf Try.prog 44 = some [(0, 1), (1, 1)])) ∧ ((eqKs Try.prog 44 = some [.int, .str]) ∧ (szOf Try.prog 47 = some 1) ∧ (aggOf Try.prog 47 = some false) ∧ (strOf Try.prog 47 = false) ∧ (isSlice Try.prog 47 = true) ∧ (isBool Try.prog 47 = false) ∧ (intOf' Try.prog 47 = none) ∧ (elemOf Try.prog 47 = some 3) ∧ (zeroOf Try.prog 47 = some (.slice none 0 0)) ∧ (elOf Try.prog 47 = some (3, 1, 8, [.int .i64 0])) ∧ (szOf Try.prog 49 = some 5) ∧ (aggOf Try.prog 49 = some true) ∧ (strOf Try.prog 49 = false) ∧ (isSlice Try.prog 49 = false) ∧ (isBool Try.prog 49 = false) ∧ (intOf' Try.prog 49 = none) ∧ (elemOf Try.prog 49 = none) ∧ (zeroOf Try.prog 49 = some (.agg #[.int .i64 0, .int .i64 0, .int .i64 0, .int .i64 0, .slice none 0 0])) ∧ (fldOf Try.prog 49 0 = some (0, 3)) ∧ (fldOf Try.prog 49 1 = some (1, 3)) ∧ (fldOf Try.prog 49 2 = some (2, 3)) ∧ (fldOf Try.prog 49 3 = some (3, 3)) ∧ (fldOf Try.prog 49 4 = some (4, 47)) ∧ (placesOf Try.prog 49 = some [(0, 1), (1, 1), (2, 1), (3, 1), (4, 1)]) ∧ (szOf Try.prog 58 = some 1) ∧ (aggOf Try.prog 58 = some false) ∧ (szOf Try.prog 81 = some 3) ∧ (aggOf Try.prog 81 = some true) ∧ (strOf Try.prog 81 = false) ∧ (isSlice Try.prog 81 = false) ∧ (isBool Try.prog 81 = false) ∧ (intOf' Try.prog 81 = none) ∧ (elemOf Try.prog 81 = none) ∧ (zeroOf Try.prog 81 = some (.agg #[.slice none 0 0, .int .i64 0, .int .i64 0])) ∧ (fldOf Try.prog 81 0 = some (0, 34)) ∧ (fldOf Try.prog 81 1 = some (1, 3)) ∧ (fldOf Try.prog 81 2 = some (2, 3)) ∧ (placesOf Try.prog 81 = some [(0, 1), (1, 1), (2, 1)]) ∧ (szOf Try.prog 82 = some 1) ∧ (aggOf Try.prog 82 = some false)) ∧ ((strOf Try.prog 82 = false) ∧ (isSlice Try.prog 82 = false) ∧ (isBool Try.prog 82 = false) ∧ (intOf' Try.prog 82 = some .u64) ∧ (elemOf Try.prog 82 = none) ∧ (zeroOf Try.prog 82 = some (.int .u64 0)) ∧ (szOf Try.prog 108 = some 1) ∧ (aggOf Try.prog 108 = some false) ∧ (strOf Try.prog 108 = false) ∧ (isSlice Try.prog 108 = true) ∧ (isBool Try.prog 108 = false) ∧ (intOf' Try.prog 108 = none) ∧ (elemOf Try.prog 108 = some 124) ∧ (zeroOf Try.prog 108 = some (.slice none 0 0)) ∧ (elOf Try.prog 108 = some (124, 2, 24, [.string ⟨#[]⟩, .int .i64 0])) ∧ (szOf Try.prog 117 = some 1) ∧ (aggOf Try.prog 117 = some false) ∧ (strOf Try.prog 117 = false) ∧ (isSlice Try.prog 117 = false) ∧ (isBool Try.prog 117 = false) ∧ (intOf' Try.prog 117 = some .u32) ∧ (elemOf Try.prog 117 = none) ∧ (zeroOf Try.prog 117 = some (.int .u32 0)) ∧ (szOf Try.prog 120 = some 1) ∧ (aggOf Try.prog 120 = some false) ∧ (strOf Try.prog 120 = false) ∧ (isSlice Try.prog 120 = false) ∧ (isBool Try.prog 120 = false) ∧ (intOf' Try.prog 120 = some .u64) ∧ (elemOf Try.prog 120 = none) ∧ (zeroOf Try.prog 120 = some (.int .u64 0)) ∧ (szOf Try.prog 124 = some 2) ∧ (aggOf Try.prog 124 = some true) ∧ (strOf Try.prog 124 = false) ∧ (isSlice Try.prog 124 = false) ∧ (isBool Try.prog 124 = false) ∧ (intOf' Try.prog 124 = none) ∧ (elemOf Try.prog 124 = none) ∧ (zeroOf Try.prog 124 = some (.agg #[.string ⟨#[]⟩, .int .i64 0])) ∧ (fldOf Try.prog 124 0 = some (0, 9))) ∧ ((fldOf Try.prog 124 1 = some (1, 3)) ∧ (placesOf Try.prog 124 = some [(0, 1), (1, 1)]) ∧ (eqKs Try.prog 124 = some [.str, .int]) ∧ (szOf Try.prog 146 = some 1) ∧ (aggOf Try.prog 146 = some false)) := ⟨tys0, tys1, tys2, tys3, tys4, tys5⟩
theorem mixed : Try.prog.follows .mixedOrders = true := by kernel_rfl
attribute [simp] TY
end Go.Proofs.Ytmpgpkdijfcfhaa.Hz
