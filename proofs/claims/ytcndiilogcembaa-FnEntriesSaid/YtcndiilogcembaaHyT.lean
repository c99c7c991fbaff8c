/- What the calculus asks of the types, each fact by the kernel. Written by facts.py. -/
import Derived.Test.YtcndiilogcembaaHyGB
import Derived.Test.YtcndiilogcembaaProg
namespace Go.Proofs.Ytcndiilogcembaa.Hz
theorem ty0 : szOf Try.prog 2 = some 1 := by kernel_rfl
theorem ty1 : aggOf Try.prog 2 = some false := by kernel_rfl
theorem ty2 : strOf Try.prog 2 = false := by kernel_rfl
theorem ty3 : isSlice Try.prog 2 = false := by kernel_rfl
theorem ty4 : isBool Try.prog 2 = false := by kernel_rfl
theorem ty5 : intOf' Try.prog 2 = some .i64 := by kernel_rfl
theorem ty6 : elemOf Try.prog 2 = none := by kernel_rfl
theorem ty7 : zeroOf Try.prog 2 = some (.int .i64 0) := by kernel_rfl
theorem ty8 : szOf Try.prog 3 = some 1 := by kernel_rfl
theorem ty9 : aggOf Try.prog 3 = some false := by kernel_rfl
theorem ty10 : strOf Try.prog 3 = false := by kernel_rfl
theorem ty11 : isSlice Try.prog 3 = false := by kernel_rfl
theorem ty12 : isBool Try.prog 3 = false := by kernel_rfl
theorem ty13 : intOf' Try.prog 3 = some .i64 := by kernel_rfl
theorem ty14 : elemOf Try.prog 3 = none := by kernel_rfl
theorem ty15 : zeroOf Try.prog 3 = some (.int .i64 0) := by kernel_rfl
theorem ty16 : szOf Try.prog 4 = some 1 := by kernel_rfl
theorem ty17 : aggOf Try.prog 4 = some false := by kernel_rfl
theorem ty18 : strOf Try.prog 4 = false := by kernel_rfl
theorem ty19 : isSlice Try.prog 4 = false := by kernel_rfl
theorem ty20 : isBool Try.prog 4 = true := by kernel_rfl
theorem ty21 : intOf' Try.prog 4 = none := by kernel_rfl
theorem ty22 : elemOf Try.prog 4 = none := by kernel_rfl
theorem ty23 : zeroOf Try.prog 4 = some (.bool false) := by kernel_rfl
theorem ty24 : szOf Try.prog 5 = some 1 := by kernel_rfl
theorem ty25 : aggOf Try.prog 5 = some false := by kernel_rfl
theorem ty26 : strOf Try.prog 5 = false := by kernel_rfl
theorem ty27 : isSlice Try.prog 5 = false := by kernel_rfl
theorem ty28 : isBool Try.prog 5 = false := by kernel_rfl
theorem ty29 : intOf' Try.prog 5 = some .u8 := by kernel_rfl
theorem ty30 : elemOf Try.prog 5 = none := by kernel_rfl
theorem ty31 : zeroOf Try.prog 5 = some (.int .u8 0) := by kernel_rfl
theorem ty32 : szOf Try.prog 9 = some 1 := by kernel_rfl
theorem ty33 : aggOf Try.prog 9 = some false := by kernel_rfl
theorem ty34 : strOf Try.prog 9 = true := by kernel_rfl
theorem ty35 : isSlice Try.prog 9 = false := by kernel_rfl
theorem ty36 : isBool Try.prog 9 = false := by kernel_rfl
theorem ty37 : intOf' Try.prog 9 = none := by kernel_rfl
theorem ty38 : elemOf Try.prog 9 = none := by kernel_rfl
theorem ty39 : zeroOf Try.prog 9 = some (.string ⟨#[]⟩) := by kernel_rfl
theorem ty40 : szOf Try.prog 12 = some 1 := by kernel_rfl
theorem ty41 : aggOf Try.prog 12 = some false := by kernel_rfl
theorem ty42 : strOf Try.prog 12 = false := by kernel_rfl
theorem ty43 : isSlice Try.prog 12 = false := by kernel_rfl
theorem ty44 : isBool Try.prog 12 = false := by kernel_rfl
theorem ty45 : intOf' Try.prog 12 = some .u64 := by kernel_rfl
theorem ty46 : elemOf Try.prog 12 = none := by kernel_rfl
theorem ty47 : zeroOf Try.prog 12 = some (.int .u64 0) := by kernel_rfl
theorem ty48 : szOf Try.prog 15 = some 1 := by kernel_rfl
theorem ty49 : aggOf Try.prog 15 = some false := by kernel_rfl
theorem ty50 : szOf Try.prog 16 = some 1 := by kernel_rfl
theorem ty51 : aggOf Try.prog 16 = some false := by kernel_rfl
theorem ty52 : szOf Try.prog 17 = some 1 := by kernel_rfl
theorem ty53 : aggOf Try.prog 17 = some false := by kernel_rfl
theorem ty54 : szOf Try.prog 21 = some 1 := by kernel_rfl
theorem ty55 : aggOf Try.prog 21 = some false := by kernel_rfl
theorem ty56 : strOf Try.prog 21 = false := by kernel_rfl
theorem ty57 : isSlice Try.prog 21 = false := by kernel_rfl
theorem ty58 : isBool Try.prog 21 = false := by kernel_rfl
theorem ty59 : intOf' Try.prog 21 = some .i32 := by kernel_rfl
theorem ty60 : elemOf Try.prog 21 = none := by kernel_rfl
theorem ty61 : zeroOf Try.prog 21 = some (.int .i32 0) := by kernel_rfl
theorem ty62 : szOf Try.prog 22 = some 1 := by kernel_rfl
theorem ty63 : aggOf Try.prog 22 = some false := by kernel_rfl
theorem ty64 : strOf Try.prog 22 = false := by kernel_rfl
theorem ty65 : isSlice Try.prog 22 = true := by kernel_rfl
theorem ty66 : isBool Try.prog 22 = false := by kernel_rfl
theorem ty67 : intOf' Try.prog 22 = none := by kernel_rfl
theorem ty68 : elemOf Try.prog 22 = some 67 := by kernel_rfl
theorem ty69 : zeroOf Try.prog 22 = some (.slice none 0 0) := by kernel_rfl
theorem ty70 : elOf Try.prog 22 = some (67, 2, 24, [.string ⟨#[]⟩, .int .i64 0]) := by kernel_rfl
theorem ty71 : szOf Try.prog 24 = some 1 := by kernel_rfl
theorem ty72 : aggOf Try.prog 24 = some false := by kernel_rfl
theorem ty73 : strOf Try.prog 24 = false := by kernel_rfl
theorem ty74 : isSlice Try.prog 24 = true := by kernel_rfl
theorem ty75 : isBool Try.prog 24 = false := by kernel_rfl
theorem ty76 : intOf' Try.prog 24 = none := by kernel_rfl
theorem ty77 : elemOf Try.prog 24 = some 38 := by kernel_rfl
theorem ty78 : zeroOf Try.prog 24 = some (.slice none 0 0) := by kernel_rfl
theorem ty79 : elOf Try.prog 24 = some (38, 2, 24, [.string ⟨#[]⟩, .int .i64 0]) := by kernel_rfl
theorem ty80 : szOf Try.prog 31 = some 1 := by kernel_rfl
theorem ty81 : aggOf Try.prog 31 = some false := by kernel_rfl
theorem ty82 : strOf Try.prog 31 = false := by kernel_rfl
theorem ty83 : isSlice Try.prog 31 = true := by kernel_rfl
theorem ty84 : isBool Try.prog 31 = false := by kernel_rfl
theorem ty85 : intOf' Try.prog 31 = none := by kernel_rfl
theorem ty86 : elemOf Try.prog 31 = some 5 := by kernel_rfl
theorem ty87 : zeroOf Try.prog 31 = some (.slice none 0 0) := by kernel_rfl
theorem ty88 : elOf Try.prog 31 = some (5, 1, 1, [.int .u8 0]) := by kernel_rfl
theorem ty89 : szOf Try.prog 38 = some 2 := by kernel_rfl
theorem ty90 : aggOf Try.prog 38 = some true := by kernel_rfl
theorem ty91 : strOf Try.prog 38 = false := by kernel_rfl
theorem ty92 : isSlice Try.prog 38 = false := by kernel_rfl
theorem ty93 : isBool Try.prog 38 = false := by kernel_rfl
theorem ty94 : intOf' Try.prog 38 = none := by kernel_rfl
theorem ty95 : elemOf Try.prog 38 = none := by kernel_rfl
theorem ty96 : zeroOf Try.prog 38 = some (.agg #[.string ⟨#[]⟩, .int .i64 0]) := by kernel_rfl
theorem ty97 : fldOf Try.prog 38 0 = some (0, 9) := by kernel_rfl
theorem ty98 : fldOf Try.prog 38 1 = some (1, 3) := by kernel_rfl
theorem ty99 : placesOf Try.prog 38 = some [(0, 1), (1, 1)] := by kernel_rfl
theorem ty100 : eqKs Try.prog 38 = some [.str, .int] := by kernel_rfl
theorem ty101 : szOf Try.prog 42 = some 1 := by kernel_rfl
theorem ty102 : aggOf Try.prog 42 = some false := by kernel_rfl
theorem ty103 : strOf Try.prog 42 = false := by kernel_rfl
theorem ty104 : isSlice Try.prog 42 = true := by kernel_rfl
theorem ty105 : isBool Try.prog 42 = false := by kernel_rfl
theorem ty106 : intOf' Try.prog 42 = none := by kernel_rfl
theorem ty107 : elemOf Try.prog 42 = some 115 := by kernel_rfl
theorem ty108 : zeroOf Try.prog 42 = some (.slice none 0 0) := by kernel_rfl
theorem ty109 : elOf Try.prog 42 = some (115, 5, 56, [.int .i64 0, .int .i64 0, .int .i64 0, .int .i64 0, .slice none 0 0]) := by kernel_rfl
theorem ty110 : szOf Try.prog 43 = some 1 := by kernel_rfl
theorem ty111 : aggOf Try.prog 43 = some false := by kernel_rfl
theorem ty112 : strOf Try.prog 43 = false := by kernel_rfl
theorem ty113 : isSlice Try.prog 43 = true := by kernel_rfl
theorem ty114 : isBool Try.prog 43 = false := by kernel_rfl
theorem ty115 : intOf' Try.prog 43 = none := by kernel_rfl
theorem ty116 : elemOf Try.prog 43 = some 9 := by kernel_rfl
theorem ty117 : zeroOf Try.prog 43 = some (.slice none 0 0) := by kernel_rfl
theorem ty118 : elOf Try.prog 43 = some (9, 1, 16, [.string ⟨#[]⟩]) := by kernel_rfl
theorem ty119 : szOf Try.prog 45 = some 2 := by kernel_rfl
theorem ty120 : aggOf Try.prog 45 = some true := by kernel_rfl
theorem ty121 : strOf Try.prog 45 = false := by kernel_rfl
theorem ty122 : isSlice Try.prog 45 = false := by kernel_rfl
theorem ty123 : isBool Try.prog 45 = false := by kernel_rfl
theorem ty124 : intOf' Try.prog 45 = none := by kernel_rfl
theorem ty125 : elemOf Try.prog 45 = none := by kernel_rfl
theorem ty126 : zeroOf Try.prog 45 = some (.agg #[.slice none 0 0, .slice none 0 0]) := by kernel_rfl
theorem ty127 : fldOf Try.prog 45 0 = some (0, 42) := by kernel_rfl
theorem ty128 : fldOf Try.prog 45 1 = some (1, 43) := by kernel_rfl
theorem ty129 : placesOf Try.prog 45 = some [(0, 1), (1, 1)] := by kernel_rfl
theorem ty130 : szOf Try.prog 48 = some 1 := by kernel_rfl
theorem ty131 : aggOf Try.prog 48 = some false := by kernel_rfl
theorem ty132 : strOf Try.prog 48 = false := by kernel_rfl
theorem ty133 : isSlice Try.prog 48 = true := by kernel_rfl
theorem ty134 : isBool Try.prog 48 = false := by kernel_rfl
theorem ty135 : intOf' Try.prog 48 = none := by kernel_rfl
theorem ty136 : elemOf Try.prog 48 = some 98 := by kernel_rfl
theorem ty137 : zeroOf Try.prog 48 = some (.slice none 0 0) := by kernel_rfl
theorem ty138 : elOf Try.prog 48 = some (98, 5, 56, [.int .i64 0, .int .i64 0, .int .i64 0, .int .i64 0, .slice none 0 0]) := by kernel_rfl
theorem ty139 : szOf Try.prog 50 = some 2 := by kernel_rfl
theorem ty140 : aggOf Try.prog 50 = some true := by kernel_rfl
theorem ty141 : strOf Try.prog 50 = false := by kernel_rfl
theorem ty142 : isSlice Try.prog 50 = false := by kernel_rfl
theorem ty143 : isBool Try.prog 50 = false := by kernel_rfl
theorem ty144 : intOf' Try.prog 50 = none := by kernel_rfl
theorem ty145 : elemOf Try.prog 50 = none := by kernel_rfl
theorem ty146 : zeroOf Try.prog 50 = some (.agg #[.slice none 0 0, .slice none 0 0]) := by kernel_rfl
theorem ty147 : fldOf Try.prog 50 0 = some (0, 48) := by kernel_rfl
theorem ty148 : fldOf Try.prog 50 1 = some (1, 43) := by kernel_rfl
theorem ty149 : placesOf Try.prog 50 = some [(0, 1), (1, 1)] := by kernel_rfl
theorem ty150 : szOf Try.prog 57 = some 1 := by kernel_rfl
theorem ty151 : aggOf Try.prog 57 = some false := by kernel_rfl
theorem ty152 : strOf Try.prog 57 = false := by kernel_rfl
theorem ty153 : isSlice Try.prog 57 = true := by kernel_rfl
theorem ty154 : isBool Try.prog 57 = false := by kernel_rfl
theorem ty155 : intOf' Try.prog 57 = none := by kernel_rfl
theorem ty156 : elemOf Try.prog 57 = some 105 := by kernel_rfl
theorem ty157 : zeroOf Try.prog 57 = some (.slice none 0 0) := by kernel_rfl
theorem ty158 : elOf Try.prog 57 = some (105, 2, 24, [.int .i64 0, .string ⟨#[]⟩]) := by kernel_rfl
theorem ty159 : szOf Try.prog 67 = some 2 := by kernel_rfl
theorem ty160 : aggOf Try.prog 67 = some true := by kernel_rfl
theorem ty161 : strOf Try.prog 67 = false := by kernel_rfl
theorem ty162 : isSlice Try.prog 67 = false := by kernel_rfl
theorem ty163 : isBool Try.prog 67 = false := by kernel_rfl
theorem ty164 : intOf' Try.prog 67 = none := by kernel_rfl
theorem ty165 : elemOf Try.prog 67 = none := by kernel_rfl
theorem ty166 : zeroOf Try.prog 67 = some (.agg #[.string ⟨#[]⟩, .int .i64 0]) := by kernel_rfl
theorem ty167 : fldOf Try.prog 67 0 = some (0, 9) := by kernel_rfl
theorem ty168 : fldOf Try.prog 67 1 = some (1, 3) := by kernel_rfl
theorem ty169 : placesOf Try.prog 67 = some [(0, 1), (1, 1)] := by kernel_rfl
theorem ty170 : eqKs Try.prog 67 = some [.str, .int] := by kernel_rfl
theorem ty171 : szOf Try.prog 75 = some 1 := by kernel_rfl
theorem ty172 : aggOf Try.prog 75 = some false := by kernel_rfl
theorem ty173 : szOf Try.prog 81 = some 1 := by kernel_rfl
theorem ty174 : aggOf Try.prog 81 = some false := by kernel_rfl
theorem ty175 : strOf Try.prog 81 = false := by kernel_rfl
theorem ty176 : isSlice Try.prog 81 = true := by kernel_rfl
theorem ty177 : isBool Try.prog 81 = false := by kernel_rfl
theorem ty178 : intOf' Try.prog 81 = none := by kernel_rfl
theorem ty179 : elemOf Try.prog 81 = some 3 := by kernel_rfl
theorem ty180 : zeroOf Try.prog 81 = some (.slice none 0 0) := by kernel_rfl
theorem ty181 : elOf Try.prog 81 = some (3, 1, 8, [.int .i64 0]) := by kernel_rfl
theorem ty182 : szOf Try.prog 98 = some 5 := by kernel_rfl
theorem ty183 : aggOf Try.prog 98 = some true := by kernel_rfl
theorem ty184 : strOf Try.prog 98 = false := by kernel_rfl
theorem ty185 : isSlice Try.prog 98 = false := by kernel_rfl
theorem ty186 : isBool Try.prog 98 = false := by kernel_rfl
theorem ty187 : intOf' Try.prog 98 = none := by kernel_rfl
theorem ty188 : elemOf Try.prog 98 = none := by kernel_rfl
theorem ty189 : zeroOf Try.prog 98 = some (.agg #[.int .i64 0, .int .i64 0, .int .i64 0, .int .i64 0, .slice none 0 0]) := by kernel_rfl
theorem ty190 : fldOf Try.prog 98 0 = some (0, 3) := by kernel_rfl
theorem ty191 : fldOf Try.prog 98 1 = some (1, 3) := by kernel_rfl
theorem ty192 : fldOf Try.prog 98 2 = some (2, 3) := by kernel_rfl
theorem ty193 : fldOf Try.prog 98 3 = some (3, 3) := by kernel_rfl
theorem ty194 : fldOf Try.prog 98 4 = some (4, 81) := by kernel_rfl
theorem ty195 : placesOf Try.prog 98 = some [(0, 1), (1, 1), (2, 1), (3, 1), (4, 1)] := by kernel_rfl
theorem ty196 : szOf Try.prog 105 = some 2 := by kernel_rfl
theorem ty197 : aggOf Try.prog 105 = some true := by kernel_rfl
theorem ty198 : strOf Try.prog 105 = false := by kernel_rfl
theorem ty199 : isSlice Try.prog 105 = false := by kernel_rfl
theorem ty200 : isBool Try.prog 105 = false := by kernel_rfl
theorem ty201 : intOf' Try.prog 105 = none := by kernel_rfl
theorem ty202 : elemOf Try.prog 105 = none := by kernel_rfl
theorem ty203 : zeroOf Try.prog 105 = some (.agg #[.int .i64 0, .string ⟨#[]⟩]) := by kernel_rfl
theorem ty204 : fldOf Try.prog 105 0 = some (0, 3) := by kernel_rfl
theorem ty205 : fldOf Try.prog 105 1 = some (1, 9) := by kernel_rfl
theorem ty206 : placesOf Try.prog 105 = some [(0, 1), (1, 1)] := by kernel_rfl
theorem ty207 : eqKs Try.prog 105 = some [.int, .str] := by kernel_rfl
theorem ty208 : szOf Try.prog 111 = some 3 := by kernel_rfl
theorem ty209 : aggOf Try.prog 111 = some true := by kernel_rfl
theorem ty210 : strOf Try.prog 111 = false := by kernel_rfl
theorem ty211 : isSlice Try.prog 111 = false := by kernel_rfl
theorem ty212 : isBool Try.prog 111 = false := by kernel_rfl
theorem ty213 : intOf' Try.prog 111 = none := by kernel_rfl
theorem ty214 : elemOf Try.prog 111 = none := by kernel_rfl
theorem ty215 : zeroOf Try.prog 111 = some (.agg #[.slice none 0 0, .int .i64 0, .int .i64 0]) := by kernel_rfl
theorem ty216 : fldOf Try.prog 111 0 = some (0, 31) := by kernel_rfl
theorem ty217 : fldOf Try.prog 111 1 = some (1, 3) := by kernel_rfl
theorem ty218 : fldOf Try.prog 111 2 = some (2, 3) := by kernel_rfl
theorem ty219 : placesOf Try.prog 111 = some [(0, 1), (1, 1), (2, 1)] := by kernel_rfl
theorem ty220 : szOf Try.prog 113 = some 1 := by kernel_rfl
theorem ty221 : aggOf Try.prog 113 = some false := by kernel_rfl
theorem ty222 : strOf Try.prog 113 = false := by kernel_rfl
theorem ty223 : isSlice Try.prog 113 = false := by kernel_rfl
theorem ty224 : isBool Try.prog 113 = false := by kernel_rfl
theorem ty225 : intOf' Try.prog 113 = some .u64 := by kernel_rfl
theorem ty226 : elemOf Try.prog 113 = none := by kernel_rfl
theorem ty227 : zeroOf Try.prog 113 = some (.int .u64 0) := by kernel_rfl
theorem ty228 : szOf Try.prog 115 = some 5 := by kernel_rfl
theorem ty229 : aggOf Try.prog 115 = some true := by kernel_rfl
theorem ty230 : strOf Try.prog 115 = false := by kernel_rfl
theorem ty231 : isSlice Try.prog 115 = false := by kernel_rfl
theorem ty232 : isBool Try.prog 115 = false := by kernel_rfl
theorem ty233 : intOf' Try.prog 115 = none := by kernel_rfl
theorem ty234 : elemOf Try.prog 115 = none := by kernel_rfl
theorem ty235 : zeroOf Try.prog 115 = some (.agg #[.int .i64 0, .int .i64 0, .int .i64 0, .int .i64 0, .slice none 0 0]) := by kernel_rfl
theorem ty236 : fldOf Try.prog 115 0 = some (0, 3) := by kernel_rfl
theorem ty237 : fldOf Try.prog 115 1 = some (1, 3) := by kernel_rfl
theorem ty238 : fldOf Try.prog 115 2 = some (2, 3) := by kernel_rfl
theorem ty239 : fldOf Try.prog 115 3 = some (3, 3) := by kernel_rfl
theorem ty240 : fldOf Try.prog 115 4 = some (4, 81) := by kernel_rfl
theorem ty241 : placesOf Try.prog 115 = some [(0, 1), (1, 1), (2, 1), (3, 1), (4, 1)] := by kernel_rfl
theorem ty242 : szOf Try.prog 131 = some 1 := by kernel_rfl
theorem ty243 : aggOf Try.prog 131 = some false := by kernel_rfl
theorem ty244 : strOf Try.prog 131 = false := by kernel_rfl
theorem ty245 : isSlice Try.prog 131 = false := by kernel_rfl
theorem ty246 : isBool Try.prog 131 = false := by kernel_rfl
theorem ty247 : intOf' Try.prog 131 = some .u32 := by kernel_rfl
theorem ty248 : elemOf Try.prog 131 = none := by kernel_rfl
theorem ty249 : zeroOf Try.prog 131 = some (.int .u32 0) := by kernel_rfl
theorem ty250 : szOf Try.prog 134 = some 1 := by kernel_rfl
theorem ty251 : aggOf Try.prog 134 = some false := by kernel_rfl
theorem ty252 : strOf Try.prog 134 = false := by kernel_rfl
theorem ty253 : isSlice Try.prog 134 = false := by kernel_rfl
theorem ty254 : isBool Try.prog 134 = false := by kernel_rfl
theorem ty255 : intOf' Try.prog 134 = some .u64 := by kernel_rfl
theorem ty256 : elemOf Try.prog 134 = none := by kernel_rfl
theorem ty257 : zeroOf Try.prog 134 = some (.int .u64 0) := by kernel_rfl
theorem ty258 : szOf Try.prog 147 = some 1 := by kernel_rfl
theorem ty259 : aggOf Try.prog 147 = some false := by kernel_rfl
theorem tys0 : (szOf Try.prog 2 = some 1) ∧ (aggOf Try.prog 2 = some false) ∧ (strOf Try.prog 2 = false) ∧ (isSlice Try.prog 2 = false) ∧ (isBool Try.prog 2 = false) ∧ (intOf' Try.prog 2 = some .i64) ∧ (elemOf Try.prog 2 = none) ∧ (zeroOf Try.prog 2 = some (.int .i64 0)) ∧ (szOf Try.prog 3 = some 1) ∧ (aggOf Try.prog 3 = some false) ∧ (strOf Try.prog 3 = false) ∧ (isSlice Try.prog 3 = false) ∧ (isBool Try.prog 3 = false) ∧ (intOf' Try.prog 3 = some .i64) ∧ (elemOf Try.prog 3 = none) ∧ (zeroOf Try.prog 3 = some (.int .i64 0)) ∧ (szOf Try.prog 4 = some 1) ∧ (aggOf Try.prog 4 = some false) ∧ (strOf Try.prog 4 = false) ∧ (isSlice Try.prog 4 = false) ∧ (isBool Try.prog 4 = true) ∧ (intOf' Try.prog 4 = none) ∧ (elemOf Try.prog 4 = none) ∧ (zeroOf Try.prog 4 = some (.bool false)) ∧ (szOf Try.prog 5 = some 1) ∧ (aggOf Try.prog 5 = some false) ∧ (strOf Try.prog 5 = false) ∧ (isSlice Try.prog 5 = false) ∧ (isBool Try.prog 5 = false) ∧ (intOf' Try.prog 5 = some .u8) ∧ (elemOf Try.prog 5 = none) ∧ (zeroOf Try.prog 5 = some (.int .u8 0)) ∧ (szOf Try.prog 9 = some 1) ∧ (aggOf Try.prog 9 = some false) ∧ (strOf Try.prog 9 = true) ∧ (isSlice Try.prog 9 = false) ∧ (isBool Try.prog 9 = false) ∧ (intOf' Try.prog 9 = none) ∧ (elemOf Try.prog 9 = none) ∧ (zeroOf Try.prog 9 = some (.string ⟨#[]⟩)) := ⟨ty0, ty1, ty2, ty3, ty4, ty5, ty6, ty7, ty8, ty9, ty10, ty11, ty12, ty13, ty14, ty15, ty16, ty17, ty18, ty19, ty20, ty21, ty22, ty23, ty24, ty25, ty26, ty27, ty28, ty29, ty30, ty31, ty32, ty33, ty34, ty35, ty36, ty37, ty38, ty39⟩
theorem tys1 : (szOf Try.prog 12 = some 1) ∧ (aggOf Try.prog 12 = some false) ∧ (strOf Try.prog 12 = false) ∧ (isSlice Try.prog 12 = false) ∧ (isBool Try.prog 12 = false) ∧ (intOf' Try.prog 12 = some .u64) ∧ (elemOf Try.prog 12 = none) ∧ (zeroOf Try.prog 12 = some (.int .u64 0)) ∧ (szOf Try.prog 15 = some 1) ∧ (aggOf Try.prog 15 = some false) ∧ (szOf Try.prog 16 = some 1) ∧ (aggOf Try.prog 16 = some false) ∧ (szOf Try.prog 17 = some 1) ∧ (aggOf Try.prog 17 = some false) ∧ (szOf Try.prog 21 = some 1) ∧ (aggOf Try.prog 21 = some false) ∧ (strOf Try.prog 21 = false) ∧ (isSlice Try.prog 21 = false) ∧ (isBool Try.prog 21 = false) ∧ (intOf' Try.prog 21 = some .i32) ∧ (elemOf Try.prog 21 = none) ∧ (zeroOf Try.prog 21 = some (.int .i32 0)) ∧ (szOf Try.prog 22 = some 1) ∧ (aggOf Try.prog 22 = some false) ∧ (strOf Try.prog 22 = false) ∧ (isSlice Try.prog 22 = true) ∧ (isBool Try.prog 22 = false) ∧ (intOf' Try.prog 22 = none) ∧ (elemOf Try.prog 22 = some 67) ∧ (zeroOf Try.prog 22 = some (.slice none 0 0)) ∧ (elOf Try.prog 22 = some (67, 2, 24, [.string ⟨#[]⟩, .int .i64 0])) ∧ (szOf Try.prog 24 = some 1) ∧ (aggOf Try.prog 24 = some false) ∧ (strOf Try.prog 24 = false) ∧ (isSlice Try.prog 24 = true) ∧ (isBool Try.prog 24 = false) ∧ (intOf' Try.prog 24 = none) ∧ (elemOf Try.prog 24 = some 38) ∧ (zeroOf Try.prog 24 = some (.slice none 0 0)) ∧ (elOf Try.prog 24 = some (38, 2, 24, [.string ⟨#[]⟩, .int .i64 0])) := ⟨ty40, ty41, ty42, ty43, ty44, ty45, ty46, ty47, ty48, ty49, ty50, ty51, ty52, ty53, ty54, ty55, ty56, ty57, ty58, ty59, ty60, ty61, ty62, ty63, ty64, ty65, ty66, ty67, ty68, ty69, ty70, ty71, ty72, ty73, ty74, ty75, ty76, ty77, ty78, ty79⟩
theorem tys2 : (szOf Try.prog 31 = some 1) ∧ (aggOf Try.prog 31 = some false) ∧ (strOf Try.prog 31 = false) ∧ (isSlice Try.prog 31 = true) ∧ (isBool Try.prog 31 = false) ∧ (intOf' Try.prog 31 = none) ∧ (elemOf Try.prog 31 = some 5) ∧ (zeroOf Try.prog 31 = some (.slice none 0 0)) ∧ (elOf Try.prog 31 = some (5, 1, 1, [.int .u8 0])) ∧ (szOf Try.prog 38 = some 2) ∧ (aggOf Try.prog 38 = some true) ∧ (strOf Try.prog 38 = false) ∧ (isSlice Try.prog 38 = false) ∧ (isBool Try.prog 38 = false) ∧ (intOf' Try.prog 38 = none) ∧ (elemOf Try.prog 38 = none) ∧ (zeroOf Try.prog 38 = some (.agg #[.string ⟨#[]⟩, .int .i64 0])) ∧ (fldOf Try.prog 38 0 = some (0, 9)) ∧ (fldOf Try.prog 38 1 = some (1, 3)) ∧ (placesOf Try.prog 38 = some [(0, 1), (1, 1)]) ∧ (eqKs Try.prog 38 = some [.str, .int]) ∧ (szOf Try.prog 42 = some 1) ∧ (aggOf Try.prog 42 = some false) ∧ (strOf Try.prog 42 = false) ∧ (isSlice Try.prog 42 = true) ∧ (isBool Try.prog 42 = false) ∧ (intOf' Try.prog 42 = none) ∧ (elemOf Try.prog 42 = some 115) ∧ (zeroOf Try.prog 42 = some (.slice none 0 0)) ∧ (elOf Try.prog 42 = some (115, 5, 56, [.int .i64 0, .int .i64 0, .int .i64 0, .int .i64 0, .slice none 0 0])) ∧ (szOf Try.prog 43 = some 1) ∧ (aggOf Try.prog 43 = some false) ∧ (strOf Try.prog 43 = false) ∧ (isSlice Try.prog 43 = true) ∧ (isBool Try.prog 43 = false) ∧ (intOf' Try.prog 43 = none) ∧ (elemOf Try.prog 43 = some 9) ∧ (zeroOf Try.prog 43 = some (.slice none 0 0)) ∧ (elOf Try.prog 43 = some (9, 1, 16, [.string ⟨#[]⟩])) ∧ (szOf Try.prog 45 = some 2) := ⟨ty80, ty81, ty82, ty83, ty84, ty85, ty86, ty87, ty88, ty89, ty90, ty91, ty92, ty93, ty94, ty95, ty96, ty97, ty98, ty99, ty100, ty101, ty102, ty103, ty104, ty105, ty106, ty107, ty108, ty109, ty110, ty111, ty112, ty113, ty114, ty115, ty116, ty117, ty118, ty119⟩
theorem tys3 : (aggOf Try.prog 45 = some true) ∧ (strOf Try.prog 45 = false) ∧ (isSlice Try.prog 45 = false) ∧ (isBool Try.prog 45 = false) ∧ (intOf' Try.prog 45 = none) ∧ (elemOf Try.prog 45 = none) ∧ (zeroOf Try.prog 45 = some (.agg #[.slice none 0 0, .slice none 0 0])) ∧ (fldOf Try.prog 45 0 = some (0, 42)) ∧ (fldOf Try.prog 45 1 = some (1, 43)) ∧ (placesOf Try.prog 45 = some [(0, 1), (1, 1)]) ∧ (szOf Try.prog 48 = some 1) ∧ (aggOf Try.prog 48 = some false) ∧ (strOf Try.prog 48 = false) ∧ (isSlice Try.prog 48 = true) ∧ (isBool Try.prog 48 = false) ∧ (intOf' Try.prog 48 = none) ∧ (elemOf Try.prog 48 = some 98) ∧ (zeroOf Try.prog 48 = some (.slice none 0 0)) ∧ (elOf Try.prog 48 = some (98, 5, 56, [.int .i64 0, .int .i64 0, .int .i64 0, .int .i64 0, .slice none 0 0])) ∧ (szOf Try.prog 50 = some 2) ∧ (aggOf Try.prog 50 = some true) ∧ (strOf Try.prog 50 = false) ∧ (isSlice Try.prog 50 = false) ∧ (isBool Try.prog 50 = false) ∧ (intOf' Try.prog 50 = none) ∧ (elemOf Try.prog 50 = none) ∧ (zeroOf Try.prog 50 = some (.agg #[.slice none 0 0, .slice none 0 0])) ∧ (fldOf Try.prog 50 0 = some (0, 48)) ∧ (fldOf Try.prog 50 1 = some (1, 43)) ∧ (placesOf Try.prog 50 = some [(0, 1), (1, 1)]) ∧ (szOf Try.prog 57 = some 1) ∧ (aggOf Try.prog 57 = some false) ∧ (strOf Try.prog 57 = false) ∧ (isSlice Try.prog 57 = true) ∧ (isBool Try.prog 57 = false) ∧ (intOf' Try.prog 57 = none) ∧ (elemOf Try.prog 57 = some 105) ∧ (zeroOf Try.prog 57 = some (.slice none 0 0)) ∧ (elOf Try.prog 57 = some (105, 2, 24, [.int .i64 0, .string ⟨#[]⟩])) ∧ (szOf Try.prog 67 = some 2) := ⟨ty120, ty121, ty122, ty123, ty124, ty125, ty126, ty127, ty128, ty129, ty130, ty131, ty132, ty133, ty134, ty135, ty136, ty137, ty138, ty139, ty140, ty141, ty142, ty143, ty144, ty145, ty146, ty147, ty148, ty149, ty150, ty151, ty152, ty153, ty154, ty155, ty156, ty157, ty158, ty159⟩
theorem tys4 : (aggOf Try.prog 67 = some true) ∧ (strOf Try.prog 67 = false) ∧ (isSlice Try.prog 67 = false) ∧ (isBool Try.prog 67 = false) ∧ (intOf' Try.prog 67 = none) ∧ (elemOf Try.prog 67 = none) ∧ (zeroOf Try.prog 67 = some (.agg #[.string ⟨#[]⟩, .int .i64 0])) ∧ (fldOf Try.prog 67 0 = some (0, 9)) ∧ (fldOf Try.prog 67 1 = some (1, 3)) ∧ (placesOf Try.prog 67 = some [(0, 1), (1, 1)]) ∧ (eqKs Try.prog 67 = some [.str, .int]) ∧ (szOf Try.prog 75 = some 1) ∧ (aggOf Try.prog 75 = some false) ∧ (szOf Try.prog 81 = some 1) ∧ (aggOf Try.prog 81 = some false) ∧ (strOf Try.prog 81 = false) ∧ (isSlice Try.prog 81 = true) ∧ (isBool Try.prog 81 = false) ∧ (intOf' Try.prog 81 = none) ∧ (elemOf Try.prog 81 = some 3) ∧ (zeroOf Try.prog 81 = some (.slice none 0 0)) ∧ (elOf Try.prog 81 = some (3, 1, 8, [.int .i64 0])) ∧ (szOf Try.prog 98 = some 5) ∧ (aggOf Try.prog 98 = some true) ∧ (strOf Try.prog 98 = false) ∧ (isSlice Try.prog 98 = false) ∧ (isBool Try.prog 98 = false) ∧ (intOf' Try.prog 98 = none) ∧ (elemOf Try.prog 98 = none) ∧ (zeroOf Try.prog 98 = some (.agg #[.int .i64 0, .int .i64 0, .int .i64 0, .int .i64 0, .slice none 0 0])) ∧ (fldOf Try.prog 98 0 = some (0, 3)) ∧ (fldOf Try.prog 98 1 = some (1, 3)) ∧ (fldOf Try.prog 98 2 = some (2, 3)) ∧ (fldOf Try.prog 98 3 = some (3, 3)) ∧ (fldOf Try.prog 98 4 = some (4, 81)) ∧ (placesOf Try.prog 98 = some [(0, 1), (1, 1), (2, 1), (3, 1), (4, 1)]) ∧ (szOf Try.prog 105 = some 2) ∧ (aggOf Try.prog 105 = some true) ∧ (strOf Try.prog 105 = false) ∧ (isSlice Try.prog 105 = false) := ⟨ty160, ty161, ty162, ty163, ty164, ty165, ty166, ty167, ty168, ty169, ty170, ty171, ty172, ty173, ty174, ty175, ty176, ty177, ty178, ty179, ty180, ty181, ty182, ty183, ty184, ty185, ty186, ty187, ty188, ty189, ty190, ty191, ty192, ty193, ty194, ty195, ty196, ty197, ty198, ty199⟩
theorem tys5 : (isBool Try.prog 105 = false) ∧ (intOf' Try.prog 105 = none) ∧ (elemOf Try.prog 105 = none) ∧ (zeroOf Try.prog 105 = some (.agg #[.int .i64 0, .string ⟨#[]⟩])) ∧ (fldOf Try.prog 105 0 = some (0, 3)) ∧ (fldOf Try.prog 105 1 = some (1, 9)) ∧ (placesOf Try.prog 105 = some [(0, 1), (1, 1)]) ∧ (eqKs Try.prog 105 = some [.int, .str]) ∧ (szOf Try.prog 111 = some 3) ∧ (aggOf Try.prog 111 = some true) ∧ (strOf Try.prog 111 = false) ∧ (isSlice Try.prog 111 = false) ∧ (isBool Try.prog 111 = false) ∧ (intOf' Try.prog 111 = none) ∧ (elemOf Try.prog 111 = none) ∧ (zeroOf Try.prog 111 = some (.agg #[.slice none 0 0, .int .i64 0, .int .i64 0])) ∧ (fldOf Try.prog 111 0 = some (0, 31)) ∧ (fldOf Try.prog 111 1 = some (1, 3)) ∧ (fldOf Try.prog 111 2 = some (2, 3)) ∧ (placesOf Try.prog 111 = some [(0, 1), (1, 1), (2, 1)]) ∧ (szOf Try.prog 113 = some 1) ∧ (aggOf Try.prog 113 = some false) ∧ (strOf Try.prog 113 = false) ∧ (isSlice Try.prog 113 = false) ∧ (isBool Try.prog 113 = false) ∧ (intOf' Try.prog 113 = some .u64) ∧ (elemOf Try.prog 113 = none) ∧ (zeroOf Try.prog 113 = some (.int .u64 0)) ∧ (szOf Try.prog 115 = some 5) ∧ (aggOf Try.prog 115 = some true) ∧ (strOf Try.prog 115 = false) ∧ (isSlice Try.prog 115 = false) ∧ (isBool Try.prog 115 = false) ∧ (intOf' Try.prog 115 = none) ∧ (elemOf Try.prog 115 = none) ∧ (zeroOf Try.prog 115 = some (.agg #[.int .i64 0, .int .i64 0, .int .i64 0, .int .i64 0, .slice none 0 0])) ∧ (fldOf Try.prog 115 0 = some (0, 3)) ∧ (fldOf Try.prog 115 1 = some (1, 3)) ∧ (fldOf Try.prog 115 2 = some (2, 3)) ∧ (fldOf Try.prog 115 3 = some (3, 3)) := ⟨ty200, ty201, ty202, ty203, ty204, ty205, ty206, ty207, ty208, ty209, ty210, ty211, ty212, ty213, ty214, ty215, ty216, ty217, ty218, ty219, ty220, ty221, ty222, ty223, ty224, ty225, ty226, ty227, ty228, ty229, ty230, ty231, ty232, ty233, ty234, ty235, ty236, ty237, ty238, ty239⟩
theorem tys6 : (fldOf Try.prog 115 4 = some (4, 81)) ∧ (placesOf Try.prog 115 = some [(0, 1), (1, 1), (2, 1), (3, 1), (4, 1)]) ∧ (szOf Try.prog 131 = some 1) ∧ (aggOf Try.prog 131 = some false) ∧ (strOf Try.prog 131 = false) ∧ (isSlice Try.prog 131 = false) ∧ (isBool Try.prog 131 = false) ∧ (intOf' Try.prog 131 = some .u32) ∧ (elemOf Try.prog 131 = none) ∧ (zeroOf Try.prog 131 = some (.int .u32 0)) ∧ (szOf Try.prog 134 = some 1) ∧ (aggOf Try.prog 134 = some false) ∧ (strOf Try.prog 134 = false) ∧ (isSlice Try.prog 134 = false) ∧ (isBool Try.prog 134 = false) ∧ (intOf' Try.prog 134 = some .u64) ∧ (elemOf Try.prog 134 = none) ∧ (zeroOf Try.prog 134 = some (.int .u64 0)) ∧ (szOf Try.prog 147 = some 1) ∧ (aggOf Try.prog 147 = some false) := ⟨ty240, ty241, ty242, ty243, ty244, ty245, ty246, ty247, ty248, ty249, ty250, ty251, ty252, ty253, ty254, ty255, ty256, ty257, ty258, ty259⟩
theorem TY : ((szOf Try.prog 2 = some 1) ∧ (aggOf Try.prog 2 = some false) ∧ (strOf Try.prog 2 = false) ∧ (isSlice Try.prog 2 = false) ∧ (isBool Try.prog 2 = false) ∧ (intOf' Try.prog 2 = some .i64) ∧ (elemOf Try.prog 2 = none) ∧ (zeroOf Try.prog 2 = some (.int .i64 0)) ∧ (szOf Try.prog 3 = some 1) ∧ (aggOf Try.prog 3 = some false) ∧ (strOf Try.prog 3 = false) ∧ (isSlice Try.prog 3 = false) ∧ (isBool Try.prog 3 = false) ∧ (intOf' Try.prog 3 = some .i64) ∧ (elemOf Try.prog 3 = none) ∧ (zeroOf Try.prog 3 = some (.int .i64 0)) ∧ (szOf Try.prog 4 = some 1) ∧ (aggOf Try.prog 4 = some false) ∧ (strOf Try.prog 4 = false) ∧ (isSlice Try.prog 4 = false) ∧ (isBool Try.prog 4 = true) ∧ (intOf' Try.prog 4 = none) ∧ (elemOf Try.prog 4 = none) ∧ (zeroOf Try.prog 4 = some (.bool false)) ∧ (szOf Try.prog 5 = some 1) ∧ (aggOf Try.prog 5 = some false) ∧ (strOf Try.prog 5 = false) ∧ (isSlice Try.prog 5 = false) ∧ (isBool Try.prog 5 = false) ∧ (intOf' Try.prog 5 = some .u8) ∧ (elemOf Try.prog 5 = none) ∧ (zeroOf Try.prog 5 = some (.int .u8 0)) ∧ (szOf Try.prog 9 = some 1) ∧ (aggOf Try.prog 9 = some false) ∧ (strOf Try.prog 9 = true) ∧ (isSlice Try.prog 9 = false) ∧ (isBool Try.prog 9 = false) ∧ (intOf' Try.prog 9 = none) ∧ (elemOf Try.prog 9 = none) ∧ (zeroOf Try.prog 9 = some (.string ⟨#[]⟩))) ∧ ((szOf Try.prog 12 = some 1) ∧ (aggOf Try.prog 12 = some false) ∧ (strOf Try.prog 12 = false) ∧ (isSlice Try.prog 12 = false) ∧ (isBool Try.prog 12 = false) ∧ (intOf' Try.prog 12 = some .u64) ∧ (elemOf Try.prog 12 = none) ∧ (zeroOf Try.prog 12 = some (.int .u64 0)) ∧ (szOf Try.prog 15 = some 1) ∧ (aggOf Try.prog 15 = some false) ∧ (szOf Try.prog 16 = some 1) ∧ (aggOf Try.prog 16 = some false) ∧ (szOf Try.prog 17 = some 1) ∧ (aggOf Try.prog 17 = some false) ∧ (szOf Try.prog 21 = some 1) ∧ (aggOf Try.prog 21 = some false) ∧ (strOf Try.prog 21 = false) ∧ (isSlice Try.prog 21 = false) ∧ (isBool Try.prog 21 = false) ∧ (intOf' Try.prog 21 = some .i32) ∧ (elemOf Try.prog 21 = none) ∧ (zeroOf Try.prog 21 = some (.int .i32 0)) ∧ (szOf Try.prog 22 = some 1) ∧ (aggOf Try.prog 22 = some false) ∧ (strOf Try.prog 22 = false) ∧ (isSlice Try.prog 22 = true) ∧ (isBool Try.prog 22 = false) ∧ (intOf' Try.prog 22 = none) ∧ (elemOf Try.prog 22 = some 67) ∧ (zeroOf Try.prog 22 = some (.slice none 0 0)) ∧ (elOf Try.prog 22 = some (67, 2, 24, [.string ⟨#[]⟩, .int .i64 0])) ∧ (szOf Try.prog 24 = some 1) ∧ (aggOf Try.prog 24 = some false) ∧ (strOf Try.prog 24 = false) ∧ (isSlice Try.prog 24 = true) ∧ (isBool Try.prog 24 = false) ∧ (intOf' Try.prog 24 = none) ∧ (elemOf Try.prog 24 = some 38) ∧ (zeroOf Try.prog 24 = some (.slice none 0 0)) ∧ (elOf Try.prog 24 = some (38, 2, 24, [.string ⟨#[]⟩, .int .i64 0]))) ∧ ((szOf Try.prog 31 = some 1) ∧ (aggOf Try.prog 31 = some false) ∧ (strOf Try.prog 31 = false) ∧ (isSlice Try.prog 31 = true) ∧ (isBool Try.prog 31 = false) ∧ (intOf' Try.prog 31 = none) ∧ (elemOf Try.prog 31 = some 5) ∧ (zeroOf Try.prog 31 = some (.slice none 0 0)) ∧ (elOf Try.prog 31 = some (5, 1, 1, [.int .u8 0])) ∧ (szOf Try.prog 38 = some 2) ∧ (aggOf Try.prog 38 = some true) ∧ (strOf Try.prog 38 = false) ∧ (isSlice Try.prog 38 = false) ∧ (isBool Try.prog 38 = false) ∧ (intOf' Try.prog 38 = none) ∧ (elemOf Try.prog 38 = none) ∧ (zeroOf Try.prog 38 = some (.agg #[.string ⟨#[]⟩, .int .i64 0])) ∧ (fldOf Try.prog 38 0 = some (0, 9)) ∧ (fldOf Try.prog 38 1 = some (1, 3)) ∧ (placesOf Try.prog 38 = some [(0, 1), (1, 1)]) ∧ (eqKs Try.prog 38 = some [.str, .int]) ∧ (szOf Try.prog 42 = some 1) ∧ (aggOf Try.prog 42 = some false) ∧ (strOf Try.prog 42 = false) ∧ (isSlice Try.prog 42 = true) ∧ (isBool Try.prog 42 = false) ∧ (intOf' Try.prog 42 = none) ∧ (elemOf Try.prog 42 = some 115) ∧ (zeroOf Try.prog 42 = some (.slice none 0 0)) ∧ (elOf Try.prog 42 = some (115, 5, 56, [.int .i64 0, .int .i64 0, .int .i64 0, .int .i64 0, .slice none 0 0])) ∧ (szOf Try.prog 43 = some 1) ∧ (aggOf Try.prog 43 = some false) ∧ (strOf Try.prog 43 = false) ∧ (isSlice Try.prog 43 = true) ∧ (isBool Try.prog 43 = false) ∧ (intOf' Try.prog 43 = none) ∧ (elemOf Try.prog 43 = some 9) ∧ (zeroOf Try.prog 43 = some (.slice none 0 0)) ∧ (elOf Try.prog 43 = some (9, 1, 16, [.string ⟨#[]⟩])) ∧ (szOf Try.prog 45 = some 2)) ∧ ((aggOf Try.prog 45 = some true) ∧ (strOf Try.prog 45 = false) ∧ (isSlice Try.prog 45 = false) ∧ (isBool Try.prog 45 = false) ∧ (intOf' Try.prog 45 = none) ∧ (elemOf Try.prog 45 = none) ∧ (zeroOf Try.prog 45 = some (.agg #[.slice none 0 0, .slice none 0 0])) ∧ (fldOf Try.prog 45 0 = some (0, 42)) ∧ (fldOf Try.prog 45 1 = some (1, 43)) ∧ (placesOf Try.prog 45 = some [(0, 1), (1, 1)]) ∧ (szOf Try.prog 48 = some 1) ∧ (aggOf Try.prog 48 = some false) ∧ (strOf Try.prog 48 = false) ∧ (isSlice Try.prog 48 = true) ∧ (isBool Try.prog 48 = false) ∧ (intOf' Try.prog 48 = none) ∧ (elemOf Try.prog 48 = some 98) ∧ (zeroOf Try.prog 48 = some (.slice none 0 0)) ∧ (elOf Try.prog 48 = some (98, 5, 56, [.int .i64 0, .int .i64 0, .int .i64 0, .int .i64 0, .slice none 0 0])) ∧ (szOf Try.prog 50 = some 2) ∧ (aggOf Try.prog 50 = some true) ∧ (strOf Try.prog 50 = false) ∧ (isSlice Try.prog 50 = false) ∧ (isBool Try.prog 50 = false) ∧ (intOf' Try.prog 50 = none) ∧ (elemOf Try.prog 50 = none) ∧ (zeroOf Try.prog 50 = some (.agg #[.slice none 0 0, .slice none 0 0])) ∧ (fldOf Try.prog 50 0 = some (0, 48)) ∧ (fldOf Try.prog 50 1 = some (1, 43)) ∧ (placesOf Try.prog 50 = some [(0, 1), (1, 1)]) ∧ (szOf Try.prog 57 = some 1) ∧ (aggOf Try.prog 57 = some false) ∧ (strOf Try.prog 57 = false) ∧ (isSlice Try.prog 57 = true) ∧ (isBool Try.prog 57 = false) ∧ (intOf' Try.prog 57 = none) ∧ (elemOf Try.prog 57 = some 105) ∧ (zeroOf Try.prog 57 = some (.slice none 0 0)) ∧ (elOf Try.prog 57 = some (105, 2, 24, [.int .i64 0, .string ⟨#[]⟩])) ∧ (szOf Try.prog 67 = some 2)) ∧ ((aggOf Try.prog 67 = some true) ∧ (strOf Try.prog 67 = false) ∧ (isSlice Try.prog 67 = false) ∧ (isBool Try.prog 67 = false) ∧ (intOf' Try.prog 67 = none) ∧ (elemOf Try.prog 67 = none) ∧ (zeroOf Try.prog 67 = some (.agg #[.string ⟨#[]⟩, .int .i64 0])) ∧ (fldOf Try.prog 67 0 = some (0, 9)) ∧ (fldOf Try.prog 67 1 = some (1, 3)) ∧ (placesOf Try.prog 67 = some [(0, 1), (1, 1)]) ∧ (eqKs Try.prog 67 = some [.str, .int]) ∧ (szOf Try.prog 75 = some 1) ∧ (aggOf Try.prog 75 = some false) ∧ (szOf Try.prog 81 = some 1) ∧ (aggOf Try.prog 81 = some false) ∧ (strOf Try.prog 81 = false) ∧ (isSlice Try.prog 81 = true) ∧ (isBool Try.prog 81 = false) ∧ (intOf' Try.prog 81 = none) ∧ (elemOf Try.prog 81 = some 3) ∧ (zeroOf Try.prog 81 = some (.slice none 0 0)) ∧ (elOf Try.prog 81 = some (3, 1, 8, [.int .i64 0])) ∧ (szOf Try.prog 98 = some 5) ∧ (aggOf Try.prog 98 = some true) ∧ (strOf Try.prog 98 = false) ∧ (isSlice Try.prog 98 = false) ∧ (isBool Try.prog 98 = false) ∧ (intOf' Try.prog 98 = none) ∧ (elemOf Try.prog 98 = none) ∧ (zeroOf Try.prog 98 = some (.agg #[.int .i64 0, .int .i64 0, .int .i64 0, .int .i64 0, .slice none 0 0])) ∧ (fldOf Try.prog 98 0 = some (0, 3)) ∧ (fldOf Try.prog 98 1 = some (1, 3)) ∧ (fldOf Try.prog 98 2 = some (2, 3)) ∧ (fldOf Try.prog 98 3 = some (3, 3)) ∧ (fldOf Try.prog 98 4 = some (4, 81)) ∧ (placesOf Try.prog 98 = some [(0, 1), (1, 1), (2, 1), (3, 1), (4, 1)]) ∧ (szOf Try.prog 105 = some 2) ∧ (aggOf Try.prog 105 = some true) ∧ (strOf Try.prog 105 = false) ∧ (isSlice Try.prog 105 = false)) ∧ ((isBool Try.prog 105 = false) ∧ (intOf' Try.prog 105 = none) ∧ (elemOf Try.prog 105 = none) ∧ (zeroOf Try.prog 105 = some (.agg #[.int .i64 0, .string ⟨#[]⟩])) ∧ (fldOf Try.prog 105 0 = some (0, 3)) ∧ (fldOf Try.prog 105 1 = some (1, 9)) ∧ (placesOf Try.prog 105 = some [(0, 1), (1, 1)]) ∧ (eqKs Try.prog 105 = some [.int, .str]) ∧ (szOf Try.prog 111 = some 3) ∧ (aggOf Try.prog 111 = some true) ∧ (strOf Try.prog 111 = false) ∧ (isSlice Try.prog 111 = false) ∧ (isBool Try.prog 111 = false) ∧ (intOf' Try.prog 111 = none) ∧ (elemOf Try.prog 111 = none) ∧ (zeroOf Try.prog 111 = some (.agg #[.slice none 0 0, .int .i64 0, .int .i64 0])) ∧ (fldOf Try.prog 111 0 = some (0, 31)) ∧ (fldOf Try.prog 111 1 = some (1, 3)) ∧ (fldOf Try.prog 111 2 = some (2, 3)) ∧ (placesOf Try.prog 111 = some [(0, 1), (1, 1), (2, 1)]) ∧ (szOf Try.prog 113 = some 1) ∧ (aggOf Try.prog 113 = some false) ∧ (strOf Try.prog 113 = false) ∧ (isSlice Try.prog 113 = false) ∧ (isBool Try.prog 113 = false) ∧ (intOf' Try.prog 113 = some .u64) ∧ (elemOf Try.prog 113 = none) ∧ (zeroOf Try.prog 113 = some (.int .u64 0)) ∧ (szOf Try.prog 115 = some 5) ∧ (aggOf Try.prog 115 = some true) ∧ (strOf Try.prog 115 = false) ∧ (isSlice Try.prog 115 = false) ∧ (isBool Try.prog 115 = false) ∧ (intOf' Try.prog 115 = none) ∧ (elemOf Try.prog 115 = none) ∧ (zeroOf Try.prog 115 = some (.agg #[.int .i64 0, .int .i64 0, .int .i64 0, .int .i64 0, .slice none 0 0])) ∧ (fldOf Try.prog 115 0 = some (0, 3)) ∧ (fldOf Try.prog 115 1 = some (1, 3)) ∧ (fldOf Try.prog 115 2 = some (2, 3)) ∧ (fldOf Try.prog 115 3 = some (3, 3))) ∧ ((fldOf Try.prog 115 4 = some (4, 81)) ∧ (placesOf Try.prog 115 = some [(0, 1), (1, 1), (2, 1), (3, 1), (4, 1)]) ∧ (szOf Try.prog 131 = some 1) ∧ (aggOf Try.prog 131 = some false) ∧ (strOf Try.prog 131 = false) ∧ (isSlice Try.prog 131 = false) ∧ (isBool Try.prog 131 = false) ∧ (intOf' Try.prog 131 = some .u32) ∧ (elemOf Try.prog 131 = none) ∧ (zeroOf Try.prog 131 = some (.int .u32 0)) ∧ (szOf Try.prog 134 = some 1) ∧ (aggOf Try.prog 134 = some false) ∧ (strOf Try.prog 134 = false) ∧ (isSlice Try.prog 134 = false) ∧ (isBool Try.prog 134 = false) ∧ (intOf' Try.prog 134 = some .u64) ∧ (elemOf Try.prog 134 = none) ∧ (zeroOf Try.prog 134 = some (.int .u64 0)) ∧ (szOf Try.prog 147 = some 1) ∧ (aggOf Try.prog 147 = some false)) := ⟨tys0, tys1, tys2, tys3, tys4, tys5, tys6⟩
theorem mixed : Try.prog.follows .mixedOrders = true := by kernel_rfl
attribute [simp] TY
end Go.Proofs.Ytcndiilogcembaa.Hz
