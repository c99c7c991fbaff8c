/- What the calculus asks of the types, each fact by the kernel. Written by facts.py. -/
import Derived.Test.YtgfilbekfkhjjaaHyGBb
import Derived.Test.YtgfilbekfkhjjaaProg
namespace Go.Proofs.Ytgfilbekfkhjjaa.Hz
theorem ty0 : szOf Try.prog 2 = some 1 := by kernel_rfl
theorem ty1 : aggOf Try.prog 2 = some false := by kernel_rfl
theorem ty2 : strOf Try.prog 2 = false := by kernel_rfl
theorem ty3 : isSlice Try.prog 2 = false := by kernel_rfl
theorem ty4 : isBool Try.prog 2 = false := by kernel_rfl
theorem ty5 : intOf' Try.prog 2 = some .i64 := by kernel_rfl
theorem ty6 : elemOf Try.prog 2 = none := by kernel_rfl
theorem ty7 : zeroOf Try.prog 2 = some (.int .i64 0) := by kernel_rfl
theorem ty8 : szOf Try.prog 3 = some 1 := by kernel_rfl
theorem ty9 : aggOf Try.prog 3 = some false := by kernel_rfl
theorem ty10 : strOf Try.prog 3 = false := by kernel_rfl
theorem ty11 : isSlice Try.prog 3 = false := by kernel_rfl
theorem ty12 : isBool Try.prog 3 = false := by kernel_rfl
theorem ty13 : intOf' Try.prog 3 = some .i64 := by kernel_rfl
theorem ty14 : elemOf Try.prog 3 = none := by kernel_rfl
theorem ty15 : zeroOf Try.prog 3 = some (.int .i64 0) := by kernel_rfl
theorem ty16 : szOf Try.prog 4 = some 1 := by kernel_rfl
theorem ty17 : aggOf Try.prog 4 = some false := by kernel_rfl
theorem ty18 : strOf Try.prog 4 = false := by kernel_rfl
theorem ty19 : isSlice Try.prog 4 = false := by kernel_rfl
theorem ty20 : isBool Try.prog 4 = true := by kernel_rfl
theorem ty21 : intOf' Try.prog 4 = none := by kernel_rfl
theorem ty22 : elemOf Try.prog 4 = none := by kernel_rfl
theorem ty23 : zeroOf Try.prog 4 = some (.bool false) := by kernel_rfl
theorem ty24 : szOf Try.prog 5 = some 1 := by kernel_rfl
theorem ty25 : aggOf Try.prog 5 = some false := by kernel_rfl
theorem ty26 : strOf Try.prog 5 = false := by kernel_rfl
theorem ty27 : isSlice Try.prog 5 = false := by kernel_rfl
theorem ty28 : isBool Try.prog 5 = false := by kernel_rfl
theorem ty29 : intOf' Try.prog 5 = some .u8 := by kernel_rfl
theorem ty30 : elemOf Try.prog 5 = none := by kernel_rfl
theorem ty31 : zeroOf Try.prog 5 = some (.int .u8 0) := by kernel_rfl
theorem ty32 : szOf Try.prog 9 = some 1 := by kernel_rfl
theorem ty33 : aggOf Try.prog 9 = some false := by kernel_rfl
theorem ty34 : strOf Try.prog 9 = true := by kernel_rfl
theorem ty35 : isSlice Try.prog 9 = false := by kernel_rfl
theorem ty36 : isBool Try.prog 9 = false := by kernel_rfl
theorem ty37 : intOf' Try.prog 9 = none := by kernel_rfl
theorem ty38 : elemOf Try.prog 9 = none := by kernel_rfl
theorem ty39 : zeroOf Try.prog 9 = some (.string ⟨#[]⟩) := by kernel_rfl
theorem ty40 : szOf Try.prog 12 = some 1 := by kernel_rfl
theorem ty41 : aggOf Try.prog 12 = some false := by kernel_rfl
theorem ty42 : strOf Try.prog 12 = false := by kernel_rfl
theorem ty43 : isSlice Try.prog 12 = false := by kernel_rfl
theorem ty44 : isBool Try.prog 12 = false := by kernel_rfl
theorem ty45 : intOf' Try.prog 12 = some .u64 := by kernel_rfl
theorem ty46 : elemOf Try.prog 12 = none := by kernel_rfl
theorem ty47 : zeroOf Try.prog 12 = some (.int .u64 0) := by kernel_rfl
theorem ty48 : szOf Try.prog 15 = some 1 := by kernel_rfl
theorem ty49 : aggOf Try.prog 15 = some false := by kernel_rfl
theorem ty50 : szOf Try.prog 16 = some 1 := by kernel_rfl
theorem ty51 : aggOf Try.prog 16 = some false := by kernel_rfl
theorem ty52 : szOf Try.prog 17 = some 1 := by kernel_rfl
theorem ty53 : aggOf Try.prog 17 = some false := by kernel_rfl
theorem ty54 : szOf Try.prog 21 = some 1 := by kernel_rfl
theorem ty55 : aggOf Try.prog 21 = some false := by kernel_rfl
theorem ty56 : strOf Try.prog 21 = false := by kernel_rfl
theorem ty57 : isSlice Try.prog 21 = false := by kernel_rfl
theorem ty58 : isBool Try.prog 21 = false := by kernel_rfl
theorem ty59 : intOf' Try.prog 21 = some .i32 := by kernel_rfl
theorem ty60 : elemOf Try.prog 21 = none := by kernel_rfl
theorem ty61 : zeroOf Try.prog 21 = some (.int .i32 0) := by kernel_rfl
theorem ty62 : szOf Try.prog 22 = some 1 := by kernel_rfl
theorem ty63 : aggOf Try.prog 22 = some false := by kernel_rfl
theorem ty64 : strOf Try.prog 22 = false := by kernel_rfl
theorem ty65 : isSlice Try.prog 22 = true := by kernel_rfl
theorem ty66 : isBool Try.prog 22 = false := by kernel_rfl
theorem ty67 : intOf' Try.prog 22 = none := by kernel_rfl
theorem ty68 : elemOf Try.prog 22 = some 5 := by kernel_rfl
theorem ty69 : zeroOf Try.prog 22 = some (.slice none 0 0) := by kernel_rfl
theorem ty70 : elOf Try.prog 22 = some (5, 1, 1, [.int .u8 0]) := by kernel_rfl
theorem ty71 : szOf Try.prog 24 = some 1 := by kernel_rfl
theorem ty72 : aggOf Try.prog 24 = some false := by kernel_rfl
theorem ty73 : strOf Try.prog 24 = false := by kernel_rfl
theorem ty74 : isSlice Try.prog 24 = true := by kernel_rfl
theorem ty75 : isBool Try.prog 24 = false := by kernel_rfl
theorem ty76 : intOf' Try.prog 24 = none := by kernel_rfl
theorem ty77 : elemOf Try.prog 24 = some 39 := by kernel_rfl
theorem ty78 : zeroOf Try.prog 24 = some (.slice none 0 0) := by kernel_rfl
theorem ty79 : elOf Try.prog 24 = some (39, 5, 56, [.int .i64 0, .int .i64 0, .int .i64 0, .int .i64 0, .slice none 0 0]) := by kernel_rfl
theorem ty80 : szOf Try.prog 25 = some 1 := by kernel_rfl
theorem ty81 : aggOf Try.prog 25 = some false := by kernel_rfl
theorem ty82 : strOf Try.prog 25 = false := by kernel_rfl
theorem ty83 : isSlice Try.prog 25 = true := by kernel_rfl
theorem ty84 : isBool Try.prog 25 = false := by kernel_rfl
theorem ty85 : intOf' Try.prog 25 = none := by kernel_rfl
theorem ty86 : elemOf Try.prog 25 = some 9 := by kernel_rfl
theorem ty87 : zeroOf Try.prog 25 = some (.slice none 0 0) := by kernel_rfl
theorem ty88 : elOf Try.prog 25 = some (9, 1, 16, [.string ⟨#[]⟩]) := by kernel_rfl
theorem ty89 : szOf Try.prog 27 = some 2 := by kernel_rfl
theorem ty90 : aggOf Try.prog 27 = some true := by kernel_rfl
theorem ty91 : strOf Try.prog 27 = false := by kernel_rfl
theorem ty92 : isSlice Try.prog 27 = false := by kernel_rfl
theorem ty93 : isBool Try.prog 27 = false := by kernel_rfl
theorem ty94 : intOf' Try.prog 27 = none := by kernel_rfl
theorem ty95 : elemOf Try.prog 27 = none := by kernel_rfl
theorem ty96 : zeroOf Try.prog 27 = some (.agg #[.slice none 0 0, .slice none 0 0]) := by kernel_rfl
theorem ty97 : fldOf Try.prog 27 0 = some (0, 24) := by kernel_rfl
theorem ty98 : fldOf Try.prog 27 1 = some (1, 25) := by kernel_rfl
theorem ty99 : placesOf Try.prog 27 = some [(0, 1), (1, 1)] := by kernel_rfl
theorem ty100 : szOf Try.prog 37 = some 1 := by kernel_rfl
theorem ty101 : aggOf Try.prog 37 = some false := by kernel_rfl
theorem ty102 : strOf Try.prog 37 = false := by kernel_rfl
theorem ty103 : isSlice Try.prog 37 = true := by kernel_rfl
theorem ty104 : isBool Try.prog 37 = false := by kernel_rfl
theorem ty105 : intOf' Try.prog 37 = none := by kernel_rfl
theorem ty106 : elemOf Try.prog 37 = some 3 := by kernel_rfl
theorem ty107 : zeroOf Try.prog 37 = some (.slice none 0 0) := by kernel_rfl
theorem ty108 : elOf Try.prog 37 = some (3, 1, 8, [.int .i64 0]) := by kernel_rfl
theorem ty109 : szOf Try.prog 39 = some 5 := by kernel_rfl
theorem ty110 : aggOf Try.prog 39 = some true := by kernel_rfl
theorem ty111 : strOf Try.prog 39 = false := by kernel_rfl
theorem ty112 : isSlice Try.prog 39 = false := by kernel_rfl
theorem ty113 : isBool Try.prog 39 = false := by kernel_rfl
theorem ty114 : intOf' Try.prog 39 = none := by kernel_rfl
theorem ty115 : elemOf Try.prog 39 = none := by kernel_rfl
theorem ty116 : zeroOf Try.prog 39 = some (.agg #[.int .i64 0, .int .i64 0, .int .i64 0, .int .i64 0, .slice none 0 0]) := by kernel_rfl
theorem ty117 : fldOf Try.prog 39 0 = some (0, 3) := by kernel_rfl
theorem ty118 : fldOf Try.prog 39 1 = some (1, 3) := by kernel_rfl
theorem ty119 : fldOf Try.prog 39 2 = some (2, 3) := by kernel_rfl
theorem ty120 : fldOf Try.prog 39 3 = some (3, 3) := by kernel_rfl
theorem ty121 : fldOf Try.prog 39 4 = some (4, 37) := by kernel_rfl
theorem ty122 : placesOf Try.prog 39 = some [(0, 1), (1, 1), (2, 1), (3, 1), (4, 1)] := by kernel_rfl
theorem ty123 : szOf Try.prog 57 = some 1 := by kernel_rfl
theorem ty124 : aggOf Try.prog 57 = some false := by kernel_rfl
theorem ty125 : strOf Try.prog 57 = false := by kernel_rfl
theorem ty126 : isSlice Try.prog 57 = true := by kernel_rfl
theorem ty127 : isBool Try.prog 57 = false := by kernel_rfl
theorem ty128 : intOf' Try.prog 57 = none := by kernel_rfl
theorem ty129 : elemOf Try.prog 57 = some 60 := by kernel_rfl
theorem ty130 : zeroOf Try.prog 57 = some (.slice none 0 0) := by kernel_rfl
theorem ty131 : elOf Try.prog 57 = some (60, 2, 24, [.int .i64 0, .string ⟨#[]⟩]) := by kernel_rfl
theorem ty132 : szOf Try.prog 60 = some 2 := by kernel_rfl
theorem ty133 : aggOf Try.prog 60 = some true := by kernel_rfl
theorem ty134 : strOf Try.prog 60 = false := by kernel_rfl
theorem ty135 : isSlice Try.prog 60 = false := by kernel_rfl
theorem ty136 : isBool Try.prog 60 = false := by kernel_rfl
theorem ty137 : intOf' Try.prog 60 = none := by kernel_rfl
theorem ty138 : elemOf Try.prog 60 = none := by kernel_rfl
theorem ty139 : zeroOf Try.prog 60 = some (.agg #[.int .i64 0, .string ⟨#[]⟩]) := by kernel_rfl
theorem ty140 : fldOf Try.prog 60 0 = some (0, 3) := by kernel_rfl
theorem ty141 : fldOf Try.prog 60 1 = some (1, 9) := by kernel_rfl
theorem ty142 : placesOf Try.prog 60 = some [(0, 1), (1, 1)] := by kernel_rfl
theorem ty143 : eqKs Try.prog 60 = some [.int, .str] := by kernel_rfl
theorem ty144 : szOf Try.prog 62 = some 1 := by kernel_rfl
theorem ty145 : aggOf Try.prog 62 = some false := by kernel_rfl
theorem ty146 : szOf Try.prog 69 = some 1 := by kernel_rfl
theorem ty147 : aggOf Try.prog 69 = some false := by kernel_rfl
theorem ty148 : szOf Try.prog 95 = some 3 := by kernel_rfl
theorem ty149 : aggOf Try.prog 95 = some true := by kernel_rfl
theorem ty150 : strOf Try.prog 95 = false := by kernel_rfl
theorem ty151 : isSlice Try.prog 95 = false := by kernel_rfl
theorem ty152 : isBool Try.prog 95 = false := by kernel_rfl
theorem ty153 : intOf' Try.prog 95 = none := by kernel_rfl
theorem ty154 : elemOf Try.prog 95 = none := by kernel_rfl
theorem ty155 : zeroOf Try.prog 95 = some (.agg #[.slice none 0 0, .int .i64 0, .int .i64 0]) := by kernel_rfl
theorem ty156 : fldOf Try.prog 95 0 = some (0, 22) := by kernel_rfl
theorem ty157 : fldOf Try.prog 95 1 = some (1, 3) := by kernel_rfl
theorem ty158 : fldOf Try.prog 95 2 = some (2, 3) := by kernel_rfl
theorem ty159 : placesOf Try.prog 95 = some [(0, 1), (1, 1), (2, 1)] := by kernel_rfl
theorem ty160 : szOf Try.prog 103 = some 1 := by kernel_rfl
theorem ty161 : aggOf Try.prog 103 = some false := by kernel_rfl
theorem ty162 : strOf Try.prog 103 = false := by kernel_rfl
theorem ty163 : isSlice Try.prog 103 = false := by kernel_rfl
theorem ty164 : isBool Try.prog 103 = false := by kernel_rfl
theorem ty165 : intOf' Try.prog 103 = some .u64 := by kernel_rfl
theorem ty166 : elemOf Try.prog 103 = none := by kernel_rfl
theorem ty167 : zeroOf Try.prog 103 = some (.int .u64 0) := by kernel_rfl
theorem ty168 : szOf Try.prog 121 = some 1 := by kernel_rfl
theorem ty169 : aggOf Try.prog 121 = some false := by kernel_rfl
theorem ty170 : strOf Try.prog 121 = false := by kernel_rfl
theorem ty171 : isSlice Try.prog 121 = true := by kernel_rfl
theorem ty172 : isBool Try.prog 121 = false := by kernel_rfl
theorem ty173 : intOf' Try.prog 121 = none := by kernel_rfl
theorem ty174 : elemOf Try.prog 121 = some 134 := by kernel_rfl
theorem ty175 : zeroOf Try.prog 121 = some (.slice none 0 0) := by kernel_rfl
theorem ty176 : elOf Try.prog 121 = some (134, 2, 24, [.string ⟨#[]⟩, .int .i64 0]) := by kernel_rfl
theorem ty177 : szOf Try.prog 127 = some 1 := by kernel_rfl
theorem ty178 : aggOf Try.prog 127 = some false := by kernel_rfl
theorem ty179 : strOf Try.prog 127 = false := by kernel_rfl
theorem ty180 : isSlice Try.prog 127 = false := by kernel_rfl
theorem ty181 : isBool Try.prog 127 = false := by kernel_rfl
theorem ty182 : intOf' Try.prog 127 = some .u32 := by kernel_rfl
theorem ty183 : elemOf Try.prog 127 = none := by kernel_rfl
theorem ty184 : zeroOf Try.prog 127 = some (.int .u32 0) := by kernel_rfl
theorem ty185 : szOf Try.prog 130 = some 1 := by kernel_rfl
theorem ty186 : aggOf Try.prog 130 = some false := by kernel_rfl
theorem ty187 : strOf Try.prog 130 = false := by kernel_rfl
theorem ty188 : isSlice Try.prog 130 = false := by kernel_rfl
theorem ty189 : isBool Try.prog 130 = false := by kernel_rfl
theorem ty190 : intOf' Try.prog 130 = some .u64 := by kernel_rfl
theorem ty191 : elemOf Try.prog 130 = none := by kernel_rfl
theorem ty192 : zeroOf Try.prog 130 = some (.int .u64 0) := by kernel_rfl
theorem ty193 : szOf Try.prog 134 = some 2 := by kernel_rfl
theorem ty194 : aggOf Try.prog 134 = some true := by kernel_rfl
theorem ty195 : strOf Try.prog 134 = false := by kernel_rfl
theorem ty196 : isSlice Try.prog 134 = false := by kernel_rfl
theorem ty197 : isBool Try.prog 134 = false := by kernel_rfl
theorem ty198 : intOf' Try.prog 134 = none := by kernel_rfl
theorem ty199 : elemOf Try.prog 134 = none := by kernel_rfl
theorem ty200 : zeroOf Try.prog 134 = some (.agg #[.string ⟨#[]⟩, .int .i64 0]) := by kernel_rfl
theorem ty201 : fldOf Try.prog 134 0 = some (0, 9) := by kernel_rfl
theorem ty202 : fldOf Try.prog 134 1 = some (1, 3) := by kernel_rfl
theorem ty203 : placesOf Try.prog 134 = some [(0, 1), (1, 1)] := by kernel_rfl
theorem ty204 : eqKs Try.prog 134 = some [.str, .int] := by kernel_rfl
theorem ty205 : szOf Try.prog 154 = some 1 := by kernel_rfl
theorem ty206 : aggOf Try.prog 154 = some false := by kernel_rfl
theorem tys0 : (szOf Try.prog 2 = some 1) ∧ (aggOf Try.prog 2 = some false) ∧ (strOf Try.prog 2 = false) ∧ (isSlice Try.prog 2 = false) ∧ (isBool Try.prog 2 = false) ∧ (intOf' Try.prog 2 = some .i64) ∧ (elemOf Try.prog 2 = none) ∧ (zeroOf Try.prog 2 = some (.int .i64 0)) ∧ (szOf Try.prog 3 = some 1) ∧ (aggOf Try.prog 3 = some false) ∧ (strOf Try.prog 3 = false) ∧ (isSlice Try.prog 3 = false) ∧ (isBool Try.prog 3 = false) ∧ (intOf' Try.prog 3 = some .i64) ∧ (elemOf Try.prog 3 = none) ∧ (zeroOf Try.prog 3 = some (.int .i64 0)) ∧ (szOf Try.prog 4 = some 1) ∧ (aggOf Try.prog 4 = some false) ∧ (strOf Try.prog 4 = false) ∧ (isSlice Try.prog 4 = false) ∧ (isBool Try.prog 4 = true) ∧ (intOf' Try.prog 4 = none) ∧ (elemOf Try.prog 4 = none) ∧ (zeroOf Try.prog 4 = some (.bool false)) ∧ (szOf Try.prog 5 = some 1) ∧ (aggOf Try.prog 5 = some false) ∧ (strOf Try.prog 5 = false) ∧ (isSlice Try.prog 5 = false) ∧ (isBool Try.prog 5 = false) ∧ (intOf' Try.prog 5 = some .u8) ∧ (elemOf Try.prog 5 = none) ∧ (zeroOf Try.prog 5 = some (.int .u8 0)) ∧ (szOf Try.prog 9 = some 1) ∧ (aggOf Try.prog 9 = some false) ∧ (strOf Try.prog 9 = true) ∧ (isSlice Try.prog 9 = false) ∧ (isBool Try.prog 9 = false) ∧ (intOf' Try.prog 9 = none) ∧ (elemOf Try.prog 9 = none) ∧ (zeroOf Try.prog 9 = some (.string ⟨#[]⟩)) := ⟨ty0, ty1, ty2, ty3, ty4, ty5, ty6, ty7, ty8, ty9, ty10, ty11, ty12, ty13, ty14, ty15, ty16, ty17, ty18, ty19, ty20, ty21, ty22, ty23, ty24, ty25, ty26, ty27, ty28, ty29, ty30, ty31, ty32, ty33, ty34, ty35, ty36, ty37, ty38, ty39⟩
theorem tys1 : (szOf Try.prog 12 = some 1) ∧ (aggOf Try.prog 12 = some false) ∧ (strOf Try.prog 12 = false) ∧ (isSlice Try.prog 12 = false) ∧ (isBool Try.prog 12 = false) ∧ (intOf' Try.prog 12 = some .u64) ∧ (elemOf Try.prog 12 = none) ∧ (zeroOf Try.prog 12 = some (.int .u64 0)) ∧ (szOf Try.prog 15 = some 1) ∧ (aggOf Try.prog 15 = some false) ∧ (szOf Try.prog 16 = some 1) ∧ (aggOf Try.prog 16 = some false) ∧ (szOf Try.prog 17 = some 1) ∧ (aggOf Try.prog 17 = some false) ∧ (szOf Try.prog 21 = some 1) ∧ (aggOf Try.prog 21 = some false) ∧ (strOf Try.prog 21 = false) ∧ (isSlice Try.prog 21 = false) ∧ (isBool Try.prog 21 = false) ∧ (intOf' Try.prog 21 = some .i32) ∧ (elemOf Try.prog 21 = none) ∧ (zeroOf Try.prog 21 = some (.int .i32 0)) ∧ (szOf Try.prog 22 = some 1) ∧ (aggOf Try.prog 22 = some false) ∧ (strOf Try.prog 22 = false) ∧ (isSlice Try.prog 22 = true) ∧ (isBool Try.prog 22 = false) ∧ (intOf' Try.prog 22 = none) ∧ (elemOf Try.prog 22 = some 5) ∧ (zeroOf Try.prog 22 = some (.slice none 0 0)) ∧ (elOf Try.prog 22 = some (5, 1, 1, [.int .u8 0])) ∧ (szOf Try.prog 24 = some 1) ∧ (aggOf Try.prog 24 = some false) ∧ (strOf Try.prog 24 = false) ∧ (isSlice Try.prog 24 = true) ∧ (isBool Try.prog 24 = false) ∧ (intOf' Try.prog 24 = none) ∧ (elemOf Try.prog 24 = some 39) ∧ (zeroOf Try.prog 24 = some (.slice none 0 0)) ∧ (elOf Try.prog 24 = some (39, 5, 56, [.int .i64 0, .int .i64 0, .int .i64 0, .int .i64 0, .slice none 0 0])) := ⟨ty40, ty41, ty42, ty43, ty44, ty45, ty46, ty47, ty48, ty49, ty50, ty51, ty52, ty53, ty54, ty55, ty56, ty57, ty58, ty59, ty60, ty61, ty62, ty63, ty64, ty65, ty66, ty67, ty68, ty69, ty70, ty71, ty72, ty73, ty74, ty75, ty76, ty77, ty78, ty79⟩
theorem tys2 : (szOf Try.prog 25 = some 1) ∧ (aggOf Try.prog 25 = some false) ∧ (strOf Try.prog 25 = false) ∧ (isSlice Try.prog 25 = true) ∧ (isBool Try.prog 25 = false) ∧ (intOf' Try.prog 25 = none) ∧ (elemOf Try.prog 25 = some 9) ∧ (zeroOf Try.prog 25 = some (.slice none 0 0)) ∧ (elOf Try.prog 25 = some (9, 1, 16, [.string ⟨#[]⟩])) ∧ (szOf Try.prog 27 = some 2) ∧ (aggOf Try.prog 27 = some true) ∧ (strOf Try.prog 27 = false) ∧ (isSlice Try.prog 27 = false) ∧ (isBool Try.prog 27 = false) ∧ (intOf' Try.prog 27 = none) ∧ (elemOf Try.prog 27 = none) ∧ (zeroOf Try.prog 27 = some (.agg #[.slice none 0 0, .slice none 0 0])) ∧ (fldOf Try.prog 27 0 = some (0, 24)) ∧ (fldOf Try.prog 27 1 = some (1, 25)) ∧ (placesOf Try.prog 27 = some [(0, 1), (1, 1)]) ∧ (szOf Try.prog 37 = some 1) ∧ (aggOf Try.prog 37 = some false) ∧ (strOf Try.prog 37 = false) ∧ (isSlice Try.prog 37 = true) ∧ (isBool Try.prog 37 = false) ∧ (intOf' Try.prog 37 = none) ∧ (elemOf Try.prog 37 = some 3) ∧ (zeroOf Try.prog 37 = some (.slice none 0 0)) ∧ (elOf Try.prog 37 = some (3, 1, 8, [.int .i64 0])) ∧ (szOf Try.prog 39 = some 5) ∧ (aggOf Try.prog 39 = some true) ∧ (strOf Try.prog 39 = false) ∧ (isSlice Try.prog 39 = false) ∧ (isBool Try.prog 39 = false) ∧ (intOf' Try.prog 39 = none) ∧ (elemOf Try.prog 39 = none) ∧ (zeroOf Try.prog 39 = some (.agg #[.int .i64 0, .int .i64 0, .int .i64 0, .int .i64 0, .slice none 0 0])) ∧ (fldOf Try.prog 39 0 = some (0, 3)) ∧ (fldOf Try.prog 39 1 = some (1, 3)) ∧ (fldOf Try.prog 39 2 = some (2, 3)) := ⟨ty80, ty81, ty82, ty83, ty84, ty85, ty86, ty87, ty88, ty89, ty90, ty91, ty92, ty93, ty94, ty95, ty96, ty97, ty98, ty99, ty100, ty101, ty102, ty103, ty104, ty105, ty106, ty107, ty108, ty109, ty110, ty111, ty112, ty113, ty114, ty115, ty116, ty117, ty118, ty119⟩
theorem tys3 : (fldOf Try.prog 39 3 = some (3, 3)) ∧ (fldOf Try.prog 39 4 = some (4, 37)) ∧ (placesOf Try.prog 39 = some [(0, 1), (1, 1), (2, 1), (3, 1), (4, 1)]) ∧ (szOf Try.prog 57 = some 1) ∧ (aggOf Try.prog 57 = some false) ∧ (strOf Try.prog 57 = false) ∧ (isSlice Try.prog 57 = true) ∧ (isBool Try.prog 57 = false) ∧ (intOf' Try.prog 57 = none) ∧ (elemOf Try.prog 57 = some 60) ∧ (zeroOf Try.prog 57 = some (.slice none 0 0)) ∧ (elOf Try.prog 57 = some (60, 2, 24, [.int .i64 0, .string ⟨#[]⟩])) ∧ (szOf Try.prog 60 = some 2) ∧ (aggOf Try.prog 60 = some true) ∧ (strOf Try.prog 60 = false) ∧ (isSlice Try.prog 60 = false) ∧ (isBool Try.prog 60 = false) ∧ (intOf' Try.prog 60 = none) ∧ (elemOf Try.prog 60 = none) ∧ (zeroOf Try.prog 60 = some (.agg #[.int .i64 0, .string ⟨#[]⟩])) ∧ (fldOf Try.prog 60 0 = some (0, 3)) ∧ (fldOf Try.prog 60 1 = some (1, 9)) ∧ (placesOf Try.prog 60 = some [(0, 1), (1, 1)]) ∧ (eqKs Try.prog 60 = some [.int, .str]) ∧ (szOf Try.prog 62 = some 1) ∧ (aggOf Try.prog 62 = some false) ∧ (szOf Try.prog 69 = some 1) ∧ (aggOf Try.prog 69 = some false) ∧ (szOf Try.prog 95 = some 3) ∧ (aggOf Try.prog 95 = some true) ∧ (strOf Try.prog 95 = false) ∧ (isSlice Try.prog 95 = false) ∧ (isBool Try.prog 95 = false) ∧ (intOf' Try.prog 95 = none) ∧ (elemOf Try.prog 95 = none) ∧ (zeroOf Try.prog 95 = some (.agg #[.slice none 0 0, .int .i64 0, .int .i64 0])) ∧ (fldOf Try.prog 95 0 = some (0, 22)) ∧ (fldOf Try.prog 95 1 = some (1, 3)) ∧ (fldOf Try.prog 95 2 = some (2, 3)) ∧ (placesOf Try.prog 95 = some [(0, 1), (1, 1), (2, 1)]) := ⟨ty120, ty121, ty122, ty123, ty124, ty125, ty126, ty127, ty128, ty129, ty130, ty131, ty132, ty133, ty134, ty135, ty136, ty137, ty138, ty139, ty140, ty141, ty142, ty143, ty144, ty145, ty146, ty147, ty148, ty149, ty150, ty151, ty152, ty153, ty154, ty155, ty156, ty157, ty158, ty159⟩
theorem tys4 : (szOf Try.prog 103 = some 1) ∧ (aggOf Try.prog 103 = some false) ∧ (strOf Try.prog 103 = false) ∧ (isSlice Try.prog 103 = false) ∧ (isBool Try.prog 103 = false) ∧ (intOf' Try.prog 103 = some .u64) ∧ (elemOf Try.prog 103 = none) ∧ (zeroOf Try.prog 103 = some (.int .u64 0)) ∧ (szOf Try.prog 121 = some 1) ∧ (aggOf Try.prog 121 = some false) ∧ (strOf Try.prog 121 = false) ∧ (isSlice Try.prog 121 = true) ∧ (isBool Try.prog 121 = false) ∧ (intOf' Try.prog 121 = none) ∧ (elemOf Try.prog 121 = some 134) ∧ (zeroOf Try.prog 121 = some (.slice none 0 0)) ∧ (elOf Try.prog 121 = some (134, 2, 24, [.string ⟨#[]⟩, .int .i64 0])) ∧ (szOf Try.prog 127 = some 1) ∧ (aggOf Try.prog 127 = some false) ∧ (strOf Try.prog 127 = false) ∧ (isSlice Try.prog 127 = false) ∧ (isBool Try.prog 127 = false) ∧ (intOf' Try.prog 127 = some .u32) ∧ (elemOf Try.prog 127 = none) ∧ (zeroOf Try.prog 127 = some (.int .u32 0)) ∧ (szOf Try.prog 130 = some 1) ∧ (aggOf Try.prog 130 = some false) ∧ (strOf Try.prog 130 = false) ∧ (isSlice Try.prog 130 = false) ∧ (isBool Try.prog 130 = false) ∧ (intOf' Try.prog 130 = some .u64) ∧ (elemOf Try.prog 130 = none) ∧ (zeroOf Try.prog 130 = some (.int .u64 0)) ∧ (szOf Try.prog 134 = some 2) ∧ (aggOf Try.prog 134 = some true) ∧ (strOf Try.prog 134 = false) ∧ (isSlice Try.prog 134 = false) ∧ (isBool Try.prog 134 = false) ∧ (intOf' Try.prog 134 = none) ∧ (elemOf Try.prog 134 = none) := ⟨ty160, ty161, ty162, ty163, ty164, ty165, ty166, ty167, ty168, ty169, ty170, ty171, ty172, ty173, ty174, ty175, ty176, ty177, ty178, ty179, ty180, ty181, ty182, ty183, ty184, ty185, ty186, ty187, ty188, ty189, ty190, ty191, ty192, ty193, ty194, ty195, ty196, ty197, ty198, ty199⟩
theorem tys5 : (zeroOf Try.prog 134 = some (.agg #[.string ⟨#[]⟩, .int .i64 0])) ∧ (fldOf Try.prog 134 0 = some (0, 9)) ∧ (fldOf Try.prog 134 1 = some (1, 3)) ∧ (placesOf Try.prog 134 = some [(0, 1), (1, 1)]) ∧ (eqKs Try.prog 134 = some [.str, .int]) ∧ (szOf Try.prog 154 = some 1) ∧ (aggOf Try.prog 154 = some false) := ⟨ty200, ty201, ty202, ty203, ty204, ty205, ty206⟩
theorem TY : ((szOf Try.prog 2 = some 1) ∧ (aggOf Try.prog 2 = some false) ∧ (strOf Try.prog 2 = false) ∧ (isSlice Try.prog 2 = false) ∧ (isBool Try.prog 2 = false) ∧ (intOf' Try.prog 2 = some .i64) ∧ (elemOf Try.prog 2 = none) ∧ (zeroOf Try.prog 2 = some (.int .i64 0)) ∧ (szOf Try.prog 3 = some 1) ∧ (aggOf Try.prog 3 = some false) ∧ (strOf Try.prog 3 = false) ∧ (isSlice Try.prog 3 = false) ∧ (isBool Try.prog 3 = false) ∧ (intOf' Try.prog 3 = some .i64) ∧ (elemOf Try.prog 3 = none) ∧ (zeroOf Try.prog 3 = some (.int .i64 0)) ∧ (szOf Try.prog 4 = some 1) ∧ (aggOf Try.prog 4 = some false) ∧ (strOf Try.prog 4 = false) ∧ (isSlice Try.prog 4 = false) ∧ (isBool Try.prog 4 = true) ∧ (intOf' Try.prog 4 = none) ∧ (elemOf Try.prog 4 = none) ∧ (zeroOf Try.prog 4 = some (.bool false)) ∧ (szOf Try.prog 5 = some 1) ∧ (aggOf Try.prog 5 = some false) ∧ (strOf Try.prog 5 = false) ∧ (isSlice Try.prog 5 = false) ∧ (isBool Try.prog 5 = false) ∧ (intOf' Try.prog 5 = some .u8) ∧ (elemOf Try.prog 5 = none) ∧ (zeroOf Try.prog 5 = some (.int .u8 0)) ∧ (szOf Try.prog 9 = some 1) ∧ (aggOf Try.prog 9 = some false) ∧ (strOf Try.prog 9 = true) ∧ (isSlice Try.prog 9 = false) ∧ (isBool Try.prog 9 = false) ∧ (intOf' Try.prog 9 = none) ∧ (elemOf Try.prog 9 = none) ∧ (zeroOf Try.prog 9 = some (.string ⟨#[]⟩))) ∧ ((szOf Try.prog 12 = some 1) ∧ (aggOf Try.prog 12 = some false) ∧ (strOf Try.prog 12 = false) ∧ (isSlice Try.prog 12 = false) ∧ (isBool Try.prog 12 = false) ∧ (intOf' Try.prog 12 = some .u64) ∧ (elemOf Try.prog 12 = none) ∧ (zeroOf Try.prog 12 = some (.int .u64 0)) ∧ (szOf Try.prog 15 = some 1) ∧ (aggOf Try.prog 15 = some false) ∧ (szOf Try.prog 16 = some 1) ∧ (aggOf Try.prog 16 = some false) ∧ (szOf Try.prog 17 = some 1) ∧ (aggOf Try.prog 17 = some false) ∧ (szOf Try.prog 21 = some 1) ∧ (aggOf Try.prog 21 = some false) ∧ (strOf Try.prog 21 = false) ∧ (isSlice Try.prog 21 = false) ∧ (isBool Try.prog 21 = false) ∧ (intOf' Try.prog 21 = some .i32) ∧ (elemOf Try.prog 21 = none) ∧ (zeroOf Try.prog 21 = some (.int .i32 0)) ∧ (szOf Try.prog 22 = some 1) ∧ (aggOf Try.prog 22 = some false) ∧ (strOf Try.prog 22 = false) ∧ (isSlice Try.prog 22 = true) ∧ (isBool Try.prog 22 = false) ∧ (intOf' Try.prog 22 = none) ∧ (elemOf Try.prog 22 = some 5) ∧ (zeroOf Try.prog 22 = some (.slice none 0 0)) ∧ (elOf Try.prog 22 = some (5, 1, 1, [.int .u8 0])) ∧ (szOf Try.prog 24 = some 1) ∧ (aggOf Try.prog 24 = some false) ∧ (strOf Try.prog 24 = false) ∧ (isSlice Try.prog 24 = true) ∧ (isBool Try.prog 24 = false) ∧ (intOf' Try.prog 24 = none) ∧ (elemOf Try.prog 24 = some 39) ∧ (zeroOf Try.prog 24 = some (.slice none 0 0)) ∧ (elOf Try.prog 24 = some (39, 5, 56, [.int .i64 0, .int .i64 0, .int .i64 0, .int .i64 0, .slice none 0 0]))) ∧ ((szOf Try.prog 25 = some 1) ∧ (aggOf Try.prog 25 = some false) ∧ (strOf Try.prog 25 = false) ∧ (isSlice Try.prog 25 = true) ∧ (isBool Try.prog 25 = false) ∧ (intOf' Try.prog 25 = none) ∧ (elemOf Try.prog 25 = some 9) ∧ (zeroOf Try.prog 25 = some (.slice none 0 0)) ∧ (elOf Try.prog 25 = some (9, 1, 16, [.string ⟨#[]⟩])) ∧ (szOf Try.prog 27 = some 2) ∧ (aggOf Try.prog 27 = some true) ∧ (strOf Try.prog 27 = false) ∧ (isSlice Try.prog 27 = false) ∧ (isBool Try.prog 27 = false) ∧ (intOf' Try.prog 27 = none) ∧ (elemOf Try.prog 27 = none) ∧ (zeroOf Try.prog 27 = some (.agg #[.slice none 0 0, .slice none 0 0])) ∧ (fldOf Try.prog 27 0 = some (0, 24)) ∧ (fldOf Try.prog 27 1 = some (1, 25)) ∧ (placesOf Try.prog 27 = some [(0, 1), (1, 1)]) ∧ (szOf Try.prog 37 = some 1) ∧ (aggOf Try.prog 37 = some false) ∧ (strOf Try.prog 37 = false) ∧ (isSlice Try.prog 37 = true) ∧ (isBool Try.prog 37 = false) ∧ (intOf' Try.prog 37 = none) ∧ (elemOf Try.prog 37 = some 3) ∧ (zeroOf Try.prog 37 = some (.slice none 0 0)) ∧ (elOf Try.prog 37 = some (3, 1, 8, [.int .i64 0])) ∧ (szOf Try.prog 39 = some 5) ∧ (aggOf Try.prog 39 = some true) ∧ (strOf Try.prog 39 = false) ∧ (isSlice Try.prog 39 = false) ∧ (isBool Try.prog 39 = false) ∧ (intOf' Try.prog 39 = none) ∧ (elemOf Try.prog 39 = none) ∧ (zeroOf Try.prog 39 = some (.agg #[.int .i64 0, .int .i64 0, .int .i64 0, .int .i64 0, .slice none 0 0])) ∧ (fldOf Try.prog 39 0 = some (0, 3)) ∧ (fldOf Try.prog 39 1 = some (1, 3)) ∧ (fldOf Try.prog 39 2 = some (2, 3))) ∧ ((fldOf Try.prog 39 3 = some (3, 3)) ∧ (fldOf Try.prog 39 4 = some (4, 37)) ∧ (placesOf Try.prog 39 = some [(0, 1), (1, 1), (2, 1), (3, 1), (4, 1)]) ∧ (szOf Try.prog 57 = some 1) ∧ (aggOf Try.prog 57 = some false) ∧ (strOf Try.prog 57 = false) ∧ (isSlice Try.prog 57 = true) ∧ (isBool Try.prog 57 = false) ∧ (intOf' Try.prog 57 = none) ∧ (elemOf Try.prog 57 = some 60) ∧ (zeroOf Try.prog 57 = some (.slice none 0 0)) ∧ (elOf Try.prog 57 = some (60, 2, 24, [.int .i64 0, .string ⟨#[]⟩])) ∧ (szOf Try.prog 60 = some 2) ∧ (aggOf Try.prog 60 = some true) ∧ (strOf Try.prog 60 = false) ∧ (isSlice Try.prog 60 = false) ∧ (isBool Try.prog 60 = false) ∧ (intOf' Try.prog 60 = none) ∧ (elemOf Try.prog 60 = none) ∧ (zeroOf Try.prog 60 = some (.agg #[.int .i64 0, .string ⟨#[]⟩])) ∧ (fldOf Try.prog 60 0 = some (0, 3)) ∧ (fldOf Try.prog 60 1 = some (1, 9)) ∧ (placesOf Try.prog 60 = some [(0, 1), (1, 1)]) ∧ (eqKs Try.prog 60 = some [.int, .str]) ∧ (szOf Try.prog 62 = some 1) ∧ (aggOf Try.prog 62 = some false) ∧ (szOf Try.prog 69 = some 1) ∧ (aggOf Try.prog 69 = some false) ∧ (szOf Try.prog 95 = some 3) ∧ (aggOf Try.prog 95 = some true) ∧ (strOf Try.prog 95 = false) ∧ (isSlice Try.prog 95 = false) ∧ (isBool Try.prog 95 = false) ∧ (intOf' Try.prog 95 = none) ∧ (elemOf Try.prog 95 = none) ∧ (zeroOf Try.prog 95 = some (.agg #[.slice none 0 0, .int .i64 0, .int .i64 0])) ∧ (fldOf Try.prog 95 0 = some (0, 22)) ∧ (fldOf Try.prog 95 1 = some (1, 3)) ∧ (fldOf Try.prog 95 2 = some (2, 3)) ∧ (placesOf Try.prog 95 = some [(0, 1), (1, 1), (2, 1)])) ∧ ((szOf Try.prog 103 = some 1) ∧ (aggOf Try.prog 103 = some false) ∧ (strOf Try.prog 103 = false) ∧ (isSlice Try.prog 103 = false) ∧ (isBool Try.prog 103 = false) ∧ (intOf' Try.prog 103 = some .u64) ∧ (elemOf Try.prog 103 = none) ∧ (zeroOf Try.prog 103 = some (.int .u64 0)) ∧ (szOf Try.prog 121 = some 1) ∧ (aggOf Try.prog 121 = some false) ∧ (strOf Try.prog 121 = false) ∧ (isSlice Try.prog 121 = true) ∧ (isBool Try.prog 121 = false) ∧ (intOf' Try.prog 121 = none) ∧ (elemOf Try.prog 121 = some 134) ∧ (zeroOf Try.prog 121 = some (.slice none 0 0)) ∧ (elOf Try.prog 121 = some (134, 2, 24, [.string ⟨#[]⟩, .int .i64 0])) ∧ (szOf Try.prog 127 = some 1) ∧ (aggOf Try.prog 127 = some false) ∧ (strOf Try.prog 127 = false) ∧ (isSlice Try.prog 127 = false) ∧ (isBool Try.prog 127 = false) ∧ (intOf' Try.prog 127 = some .u32) ∧ (elemOf Try.prog 127 = none) ∧ (zeroOf Try.prog 127 = some (.int .u32 0)) ∧ (szOf Try.prog 130 = some 1) ∧ (aggOf Try.prog 130 = some false) ∧ (strOf Try.prog 130 = false) ∧ (isSlice Try.prog 130 = false) ∧ (isBool Try.prog 130 = false) ∧ (intOf' Try.prog 130 = some .u64) ∧ (elemOf Try.prog 130 = none) ∧ (zeroOf Try.prog 130 = some (.int .u64 0)) ∧ (szOf Try.prog 134 = some 2) ∧ (aggOf Try.prog 134 = some true) ∧ (strOf Try.prog 134 = false) ∧ (isSlice Try.prog 134 = false) ∧ (isBool Try.prog 134 = false) ∧ (intOf' Try.prog 134 = none) ∧ (elemOf Try.prog 134 = none)) ∧ ((zeroOf Try.prog 134 = some (.agg #[.string ⟨#[]⟩, .int .i64 0])) ∧ (fldOf Try.prog 134 0 = some (0, 9)) ∧ (fldOf Try.prog 134 1 = some (1, 3)) ∧ (placesOf Try.prog 134 = some [(0, 1), (1, 1)]) ∧ (eqKs Try.prog 134 = some [.str, .int]) ∧ (szOf Try.prog 154 = some 1) ∧ (aggOf Try.prog 154 = some false)) := ⟨tys0, tys1, tys2, tys3, tys4, tys5⟩
theorem mixed : Try.prog.follows .mixedOrders = true := by kernel_rfl
attribute [simp] TY
end Go.Proofs.Ytgfilbekfkhjjaa.Hz
