/- What the calculus asks of the types, each fact by the kernel. Written by facts.py. -/
import Derived.Test.YtccpaikdmncidaaHyGB
import Derived.Test.YtccpaikdmncidaaProg
namespace Go.Proofs.Ytccpaikdmncidaa.Hz
theorem ty0 : szOf Try.prog 2 = some 1 := by kernel_rfl
theorem ty1 : aggOf Try.prog 2 = some false := by kernel_rfl
theorem ty2 : strOf Try.prog 2 = false := by kernel_rfl
theorem ty3 : isSlice Try.prog 2 = false := by kernel_rfl
theorem ty4 : isBool Try.prog 2 = false := by kernel_rfl
theorem ty5 : intOf' Try.prog 2 = some .i64 := by kernel_rfl
theorem ty6 : elemOf Try.prog 2 = none := by kernel_rfl
theorem ty7 : zeroOf Try.prog 2 = some (.int .i64 0) := by kernel_rfl
theorem ty8 : szOf Try.prog 3 = some 1 := by kernel_rfl
theorem ty9 : aggOf Try.prog 3 = some false := by kernel_rfl
theorem ty10 : strOf Try.prog 3 = false := by kernel_rfl
theorem ty11 : isSlice Try.prog 3 = false := by kernel_rfl
theorem ty12 : isBool Try.prog 3 = false := by kernel_rfl
theorem ty13 : intOf' Try.prog 3 = some .i64 := by kernel_rfl
theorem ty14 : elemOf Try.prog 3 = none := by kernel_rfl
theorem ty15 : zeroOf Try.prog 3 = some (.int .i64 0) := by kernel_rfl
theorem ty16 : szOf Try.prog 4 = some 1 := by kernel_rfl
theorem ty17 : aggOf Try.prog 4 = some false := by kernel_rfl
theorem ty18 : strOf Try.prog 4 = false := by kernel_rfl
theorem ty19 : isSlice Try.prog 4 = false := by kernel_rfl
theorem ty20 : isBool Try.prog 4 = true := by kernel_rfl
theorem ty21 : intOf' Try.prog 4 = none := by kernel_rfl
theorem ty22 : elemOf Try.prog 4 = none := by kernel_rfl
theorem ty23 : zeroOf Try.prog 4 = some (.bool false) := by kernel_rfl
theorem ty24 : szOf Try.prog 5 = some 1 := by kernel_rfl
theorem ty25 : aggOf Try.prog 5 = some false := by kernel_rfl
theorem ty26 : strOf Try.prog 5 = false := by kernel_rfl
theorem ty27 : isSlice Try.prog 5 = false := by kernel_rfl
theorem ty28 : isBool Try.prog 5 = false := by kernel_rfl
theorem ty29 : intOf' Try.prog 5 = some .u8 := by kernel_rfl
theorem ty30 : elemOf Try.prog 5 = none := by kernel_rfl
theorem ty31 : zeroOf Try.prog 5 = some (.int .u8 0) := by kernel_rfl
theorem ty32 : szOf Try.prog 9 = some 1 := by kernel_rfl
theorem ty33 : aggOf Try.prog 9 = some false := by kernel_rfl
theorem ty34 : strOf Try.prog 9 = true := by kernel_rfl
theorem ty35 : isSlice Try.prog 9 = false := by kernel_rfl
theorem ty36 : isBool Try.prog 9 = false := by kernel_rfl
theorem ty37 : intOf' Try.prog 9 = none := by kernel_rfl
theorem ty38 : elemOf Try.prog 9 = none := by kernel_rfl
theorem ty39 : zeroOf Try.prog 9 = some (.string ⟨#[]⟩) := by kernel_rfl
theorem ty40 : szOf Try.prog 12 = some 1 := by kernel_rfl
theorem ty41 : aggOf Try.prog 12 = some false := by kernel_rfl
theorem ty42 : strOf Try.prog 12 = false := by kernel_rfl
theorem ty43 : isSlice Try.prog 12 = false := by kernel_rfl
theorem ty44 : isBool Try.prog 12 = false := by kernel_rfl
theorem ty45 : intOf' Try.prog 12 = some .u64 := by kernel_rfl
theorem ty46 : elemOf Try.prog 12 = none := by kernel_rfl
theorem ty47 : zeroOf Try.prog 12 = some (.int .u64 0) := by kernel_rfl
theorem ty48 : szOf Try.prog 15 = some 1 := by kernel_rfl
theorem ty49 : aggOf Try.prog 15 = some false := by kernel_rfl
theorem ty50 : szOf Try.prog 16 = some 1 := by kernel_rfl
theorem ty51 : aggOf Try.prog 16 = some false := by kernel_rfl
theorem ty52 : szOf Try.prog 17 = some 1 := by kernel_rfl
theorem ty53 : aggOf Try.prog 17 = some false := by kernel_rfl
theorem ty54 : szOf Try.prog 21 = some 1 := by kernel_rfl
theorem ty55 : aggOf Try.prog 21 = some false := by kernel_rfl
theorem ty56 : strOf Try.prog 21 = false := by kernel_rfl
theorem ty57 : isSlice Try.prog 21 = false := by kernel_rfl
theorem ty58 : isBool Try.prog 21 = false := by kernel_rfl
theorem ty59 : intOf' Try.prog 21 = some .i32 := by kernel_rfl
theorem ty60 : elemOf Try.prog 21 = none := by kernel_rfl
theorem ty61 : zeroOf Try.prog 21 = some (.int .i32 0) := by kernel_rfl
theorem ty62 : szOf Try.prog 22 = some 1 := by kernel_rfl
theorem ty63 : aggOf Try.prog 22 = some false := by kernel_rfl
theorem ty64 : strOf Try.prog 22 = false := by kernel_rfl
theorem ty65 : isSlice Try.prog 22 = true := by kernel_rfl
theorem ty66 : isBool Try.prog 22 = false := by kernel_rfl
theorem ty67 : intOf' Try.prog 22 = none := by kernel_rfl
theorem ty68 : elemOf Try.prog 22 = some 127 := by kernel_rfl
theorem ty69 : zeroOf Try.prog 22 = some (.slice none 0 0) := by kernel_rfl
theorem ty70 : elOf Try.prog 22 = some (127, 5, 56, [.int .i64 0, .int .i64 0, .int .i64 0, .int .i64 0, .slice none 0 0]) := by kernel_rfl
theorem ty71 : szOf Try.prog 23 = some 1 := by kernel_rfl
theorem ty72 : aggOf Try.prog 23 = some false := by kernel_rfl
theorem ty73 : strOf Try.prog 23 = false := by kernel_rfl
theorem ty74 : isSlice Try.prog 23 = true := by kernel_rfl
theorem ty75 : isBool Try.prog 23 = false := by kernel_rfl
theorem ty76 : intOf' Try.prog 23 = none := by kernel_rfl
theorem ty77 : elemOf Try.prog 23 = some 9 := by kernel_rfl
theorem ty78 : zeroOf Try.prog 23 = some (.slice none 0 0) := by kernel_rfl
theorem ty79 : elOf Try.prog 23 = some (9, 1, 16, [.string ⟨#[]⟩]) := by kernel_rfl
theorem ty80 : szOf Try.prog 25 = some 2 := by kernel_rfl
theorem ty81 : aggOf Try.prog 25 = some true := by kernel_rfl
theorem ty82 : strOf Try.prog 25 = false := by kernel_rfl
theorem ty83 : isSlice Try.prog 25 = false := by kernel_rfl
theorem ty84 : isBool Try.prog 25 = false := by kernel_rfl
theorem ty85 : intOf' Try.prog 25 = none := by kernel_rfl
theorem ty86 : elemOf Try.prog 25 = none := by kernel_rfl
theorem ty87 : zeroOf Try.prog 25 = some (.agg #[.slice none 0 0, .slice none 0 0]) := by kernel_rfl
theorem ty88 : fldOf Try.prog 25 0 = some (0, 22) := by kernel_rfl
theorem ty89 : fldOf Try.prog 25 1 = some (1, 23) := by kernel_rfl
theorem ty90 : placesOf Try.prog 25 = some [(0, 1), (1, 1)] := by kernel_rfl
theorem ty91 : szOf Try.prog 27 = some 1 := by kernel_rfl
theorem ty92 : aggOf Try.prog 27 = some false := by kernel_rfl
theorem ty93 : strOf Try.prog 27 = false := by kernel_rfl
theorem ty94 : isSlice Try.prog 27 = true := by kernel_rfl
theorem ty95 : isBool Try.prog 27 = false := by kernel_rfl
theorem ty96 : intOf' Try.prog 27 = none := by kernel_rfl
theorem ty97 : elemOf Try.prog 27 = some 47 := by kernel_rfl
theorem ty98 : zeroOf Try.prog 27 = some (.slice none 0 0) := by kernel_rfl
theorem ty99 : elOf Try.prog 27 = some (47, 5, 56, [.int .i64 0, .int .i64 0, .int .i64 0, .int .i64 0, .slice none 0 0]) := by kernel_rfl
theorem ty100 : szOf Try.prog 29 = some 2 := by kernel_rfl
theorem ty101 : aggOf Try.prog 29 = some true := by kernel_rfl
theorem ty102 : strOf Try.prog 29 = false := by kernel_rfl
theorem ty103 : isSlice Try.prog 29 = false := by kernel_rfl
theorem ty104 : isBool Try.prog 29 = false := by kernel_rfl
theorem ty105 : intOf' Try.prog 29 = none := by kernel_rfl
theorem ty106 : elemOf Try.prog 29 = none := by kernel_rfl
theorem ty107 : zeroOf Try.prog 29 = some (.agg #[.slice none 0 0, .slice none 0 0]) := by kernel_rfl
theorem ty108 : fldOf Try.prog 29 0 = some (0, 27) := by kernel_rfl
theorem ty109 : fldOf Try.prog 29 1 = some (1, 23) := by kernel_rfl
theorem ty110 : placesOf Try.prog 29 = some [(0, 1), (1, 1)] := by kernel_rfl
theorem ty111 : szOf Try.prog 35 = some 1 := by kernel_rfl
theorem ty112 : aggOf Try.prog 35 = some false := by kernel_rfl
theorem ty113 : strOf Try.prog 35 = false := by kernel_rfl
theorem ty114 : isSlice Try.prog 35 = true := by kernel_rfl
theorem ty115 : isBool Try.prog 35 = false := by kernel_rfl
theorem ty116 : intOf' Try.prog 35 = none := by kernel_rfl
theorem ty117 : elemOf Try.prog 35 = some 5 := by kernel_rfl
theorem ty118 : zeroOf Try.prog 35 = some (.slice none 0 0) := by kernel_rfl
theorem ty119 : elOf Try.prog 35 = some (5, 1, 1, [.int .u8 0]) := by kernel_rfl
theorem ty120 : szOf Try.prog 45 = some 1 := by kernel_rfl
theorem ty121 : aggOf Try.prog 45 = some false := by kernel_rfl
theorem ty122 : strOf Try.prog 45 = false := by kernel_rfl
theorem ty123 : isSlice Try.prog 45 = true := by kernel_rfl
theorem ty124 : isBool Try.prog 45 = false := by kernel_rfl
theorem ty125 : intOf' Try.prog 45 = none := by kernel_rfl
theorem ty126 : elemOf Try.prog 45 = some 3 := by kernel_rfl
theorem ty127 : zeroOf Try.prog 45 = some (.slice none 0 0) := by kernel_rfl
theorem ty128 : elOf Try.prog 45 = some (3, 1, 8, [.int .i64 0]) := by kernel_rfl
theorem ty129 : szOf Try.prog 47 = some 5 := by kernel_rfl
theorem ty130 : aggOf Try.prog 47 = some true := by kernel_rfl
theorem ty131 : strOf Try.prog 47 = false := by kernel_rfl
theorem ty132 : isSlice Try.prog 47 = false := by kernel_rfl
theorem ty133 : isBool Try.prog 47 = false := by kernel_rfl
theorem ty134 : intOf' Try.prog 47 = none := by kernel_rfl
theorem ty135 : elemOf Try.prog 47 = none := by kernel_rfl
theorem ty136 : zeroOf Try.prog 47 = some (.agg #[.int .i64 0, .int .i64 0, .int .i64 0, .int .i64 0, .slice none 0 0]) := by kernel_rfl
theorem ty137 : fldOf Try.prog 47 0 = some (0, 3) := by kernel_rfl
theorem ty138 : fldOf Try.prog 47 1 = some (1, 3) := by kernel_rfl
theorem ty139 : fldOf Try.prog 47 2 = some (2, 3) := by kernel_rfl
theorem ty140 : fldOf Try.prog 47 3 = some (3, 3) := by kernel_rfl
theorem ty141 : fldOf Try.prog 47 4 = some (4, 45) := by kernel_rfl
theorem ty142 : placesOf Try.prog 47 = some [(0, 1), (1, 1), (2, 1), (3, 1), (4, 1)] := by kernel_rfl
theorem ty143 : szOf Try.prog 55 = some 1 := by kernel_rfl
theorem ty144 : aggOf Try.prog 55 = some false := by kernel_rfl
theorem ty145 : strOf Try.prog 55 = false := by kernel_rfl
theorem ty146 : isSlice Try.prog 55 = true := by kernel_rfl
theorem ty147 : isBool Try.prog 55 = false := by kernel_rfl
theorem ty148 : intOf' Try.prog 55 = none := by kernel_rfl
theorem ty149 : elemOf Try.prog 55 = some 63 := by kernel_rfl
theorem ty150 : zeroOf Try.prog 55 = some (.slice none 0 0) := by kernel_rfl
theorem ty151 : elOf Try.prog 55 = some (63, 2, 24, [.string ⟨#[]⟩, .int .i64 0]) := by kernel_rfl
theorem ty152 : szOf Try.prog 63 = some 2 := by kernel_rfl
theorem ty153 : aggOf Try.prog 63 = some true := by kernel_rfl
theorem ty154 : strOf Try.prog 63 = false := by kernel_rfl
theorem ty155 : isSlice Try.prog 63 = false := by kernel_rfl
theorem ty156 : isBool Try.prog 63 = false := by kernel_rfl
theorem ty157 : intOf' Try.prog 63 = none := by kernel_rfl
theorem ty158 : elemOf Try.prog 63 = none := by kernel_rfl
theorem ty159 : zeroOf Try.prog 63 = some (.agg #[.string ⟨#[]⟩, .int .i64 0]) := by kernel_rfl
theorem ty160 : fldOf Try.prog 63 0 = some (0, 9) := by kernel_rfl
theorem ty161 : fldOf Try.prog 63 1 = some (1, 3) := by kernel_rfl
theorem ty162 : placesOf Try.prog 63 = some [(0, 1), (1, 1)] := by kernel_rfl
theorem ty163 : eqKs Try.prog 63 = some [.str, .int] := by kernel_rfl
theorem ty164 : szOf Try.prog 72 = some 1 := by kernel_rfl
theorem ty165 : aggOf Try.prog 72 = some false := by kernel_rfl
theorem ty166 : strOf Try.prog 72 = false := by kernel_rfl
theorem ty167 : isSlice Try.prog 72 = true := by kernel_rfl
theorem ty168 : isBool Try.prog 72 = false := by kernel_rfl
theorem ty169 : intOf' Try.prog 72 = none := by kernel_rfl
theorem ty170 : elemOf Try.prog 72 = some 75 := by kernel_rfl
theorem ty171 : zeroOf Try.prog 72 = some (.slice none 0 0) := by kernel_rfl
theorem ty172 : elOf Try.prog 72 = some (75, 2, 24, [.int .i64 0, .string ⟨#[]⟩]) := by kernel_rfl
theorem ty173 : szOf Try.prog 75 = some 2 := by kernel_rfl
theorem ty174 : aggOf Try.prog 75 = some true := by kernel_rfl
theorem ty175 : strOf Try.prog 75 = false := by kernel_rfl
theorem ty176 : isSlice Try.prog 75 = false := by kernel_rfl
theorem ty177 : isBool Try.prog 75 = false := by kernel_rfl
theorem ty178 : intOf' Try.prog 75 = none := by kernel_rfl
theorem ty179 : elemOf Try.prog 75 = none := by kernel_rfl
theorem ty180 : zeroOf Try.prog 75 = some (.agg #[.int .i64 0, .string ⟨#[]⟩]) := by kernel_rfl
theorem ty181 : fldOf Try.prog 75 0 = some (0, 3) := by kernel_rfl
theorem ty182 : fldOf Try.prog 75 1 = some (1, 9) := by kernel_rfl
theorem ty183 : placesOf Try.prog 75 = some [(0, 1), (1, 1)] := by kernel_rfl
theorem ty184 : eqKs Try.prog 75 = some [.int, .str] := by kernel_rfl
theorem ty185 : szOf Try.prog 86 = some 1 := by kernel_rfl
theorem ty186 : aggOf Try.prog 86 = some false := by kernel_rfl
theorem ty187 : szOf Try.prog 92 = some 1 := by kernel_rfl
theorem ty188 : aggOf Try.prog 92 = some false := by kernel_rfl
theorem ty189 : szOf Try.prog 127 = some 5 := by kernel_rfl
theorem ty190 : aggOf Try.prog 127 = some true := by kernel_rfl
theorem ty191 : strOf Try.prog 127 = false := by kernel_rfl
theorem ty192 : isSlice Try.prog 127 = false := by kernel_rfl
theorem ty193 : isBool Try.prog 127 = false := by kernel_rfl
theorem ty194 : intOf' Try.prog 127 = none := by kernel_rfl
theorem ty195 : elemOf Try.prog 127 = none := by kernel_rfl
theorem ty196 : zeroOf Try.prog 127 = some (.agg #[.int .i64 0, .int .i64 0, .int .i64 0, .int .i64 0, .slice none 0 0]) := by kernel_rfl
theorem ty197 : fldOf Try.prog 127 0 = some (0, 3) := by kernel_rfl
theorem ty198 : fldOf Try.prog 127 1 = some (1, 3) := by kernel_rfl
theorem ty199 : fldOf Try.prog 127 2 = some (2, 3) := by kernel_rfl
theorem ty200 : fldOf Try.prog 127 3 = some (3, 3) := by kernel_rfl
theorem ty201 : fldOf Try.prog 127 4 = some (4, 45) := by kernel_rfl
theorem ty202 : placesOf Try.prog 127 = some [(0, 1), (1, 1), (2, 1), (3, 1), (4, 1)] := by kernel_rfl
theorem ty203 : szOf Try.prog 135 = some 3 := by kernel_rfl
theorem ty204 : aggOf Try.prog 135 = some true := by kernel_rfl
theorem ty205 : strOf Try.prog 135 = false := by kernel_rfl
theorem ty206 : isSlice Try.prog 135 = false := by kernel_rfl
theorem ty207 : isBool Try.prog 135 = false := by kernel_rfl
theorem ty208 : intOf' Try.prog 135 = none := by kernel_rfl
theorem ty209 : elemOf Try.prog 135 = none := by kernel_rfl
theorem ty210 : zeroOf Try.prog 135 = some (.agg #[.slice none 0 0, .int .i64 0, .int .i64 0]) := by kernel_rfl
theorem ty211 : fldOf Try.prog 135 0 = some (0, 35) := by kernel_rfl
theorem ty212 : fldOf Try.prog 135 1 = some (1, 3) := by kernel_rfl
theorem ty213 : fldOf Try.prog 135 2 = some (2, 3) := by kernel_rfl
theorem ty214 : placesOf Try.prog 135 = some [(0, 1), (1, 1), (2, 1)] := by kernel_rfl
theorem ty215 : szOf Try.prog 142 = some 1 := by kernel_rfl
theorem ty216 : aggOf Try.prog 142 = some false := by kernel_rfl
theorem ty217 : strOf Try.prog 142 = false := by kernel_rfl
theorem ty218 : isSlice Try.prog 142 = false := by kernel_rfl
theorem ty219 : isBool Try.prog 142 = false := by kernel_rfl
theorem ty220 : intOf' Try.prog 142 = some .u64 := by kernel_rfl
theorem ty221 : elemOf Try.prog 142 = none := by kernel_rfl
theorem ty222 : zeroOf Try.prog 142 = some (.int .u64 0) := by kernel_rfl
theorem ty223 : szOf Try.prog 159 = some 1 := by kernel_rfl
theorem ty224 : aggOf Try.prog 159 = some false := by kernel_rfl
theorem ty225 : strOf Try.prog 159 = false := by kernel_rfl
theorem ty226 : isSlice Try.prog 159 = false := by kernel_rfl
theorem ty227 : isBool Try.prog 159 = false := by kernel_rfl
theorem ty228 : intOf' Try.prog 159 = some .u32 := by kernel_rfl
theorem ty229 : elemOf Try.prog 159 = none := by kernel_rfl
theorem ty230 : zeroOf Try.prog 159 = some (.int .u32 0) := by kernel_rfl
theorem ty231 : szOf Try.prog 162 = some 1 := by kernel_rfl
theorem ty232 : aggOf Try.prog 162 = some false := by kernel_rfl
theorem ty233 : strOf Try.prog 162 = false := by kernel_rfl
theorem ty234 : isSlice Try.prog 162 = false := by kernel_rfl
theorem ty235 : isBool Try.prog 162 = false := by kernel_rfl
theorem ty236 : intOf' Try.prog 162 = some .u64 := by kernel_rfl
theorem ty237 : elemOf Try.prog 162 = none := by kernel_rfl
theorem ty238 : zeroOf Try.prog 162 = some (.int .u64 0) := by kernel_rfl
theorem ty239 : szOf Try.prog 176 = some 1 := by kernel_rfl
theorem ty240 : aggOf Try.prog 176 = some false := by kernel_rfl
theorem tys0 : (szOf Try.prog 2 = some 1) ∧ (aggOf Try.prog 2 = some false) ∧ (strOf Try.prog 2 = false) ∧ (isSlice Try.prog 2 = false) ∧ (isBool Try.prog 2 = false) ∧ (intOf' Try.prog 2 = some .i64) ∧ (elemOf Try.prog 2 = none) ∧ (zeroOf Try.prog 2 = some (.int .i64 0)) ∧ (szOf Try.prog 3 = some 1) ∧ (aggOf Try.prog 3 = some false) ∧ (strOf Try.prog 3 = false) ∧ (isSlice Try.prog 3 = false) ∧ (isBool Try.prog 3 = false) ∧ (intOf' Try.prog 3 = some .i64) ∧ (elemOf Try.prog 3 = none) ∧ (zeroOf Try.prog 3 = some (.int .i64 0)) ∧ (szOf Try.prog 4 = some 1) ∧ (aggOf Try.prog 4 = some false) ∧ (strOf Try.prog 4 = false) ∧ (isSlice Try.prog 4 = false) ∧ (isBool Try.prog 4 = true) ∧ (intOf' Try.prog 4 = none) ∧ (elemOf Try.prog 4 = none) ∧ (zeroOf Try.prog 4 = some (.bool false)) ∧ (szOf Try.prog 5 = some 1) ∧ (aggOf Try.prog 5 = some false) ∧ (strOf Try.prog 5 = false) ∧ (isSlice Try.prog 5 = false) ∧ (isBool Try.prog 5 = false) ∧ (intOf' Try.prog 5 = some .u8) ∧ (elemOf Try.prog 5 = none) ∧ (zeroOf Try.prog 5 = some (.int .u8 0)) ∧ (szOf Try.prog 9 = some 1) ∧ (aggOf Try.prog 9 = some false) ∧ (strOf Try.prog 9 = true) ∧ (isSlice Try.prog 9 = false) ∧ (isBool Try.prog 9 = false) ∧ (intOf' Try.prog 9 = none) ∧ (elemOf Try.prog 9 = none) ∧ (zeroOf Try.prog 9 = some (.string ⟨#[]⟩)) := ⟨ty0, ty1, ty2, ty3, ty4, ty5, ty6, ty7, ty8, ty9, ty10, ty11, ty12, ty13, ty14, ty15, ty16, ty17, ty18, ty19, ty20, ty21, ty22, ty23, ty24, ty25, ty26, ty27, ty28, ty29, ty30, ty31, ty32, ty33, ty34, ty35, ty36, ty37, ty38, ty39⟩
theorem tys1 : (szOf Try.prog 12 = some 1) ∧ (aggOf Try.prog 12 = some false) ∧ (strOf Try.prog 12 = false) ∧ (isSlice Try.prog 12 = false) ∧ (isBool Try.prog 12 = false) ∧ (intOf' Try.prog 12 = some .u64) ∧ (elemOf Try.prog 12 = none) ∧ (zeroOf Try.prog 12 = some (.int .u64 0)) ∧ (szOf Try.prog 15 = some 1) ∧ (aggOf Try.prog 15 = some false) ∧ (szOf Try.prog 16 = some 1) ∧ (aggOf Try.prog 16 = some false) ∧ (szOf Try.prog 17 = some 1) ∧ (aggOf Try.prog 17 = some false) ∧ (szOf Try.prog 21 = some 1) ∧ (aggOf Try.prog 21 = some false) ∧ (strOf Try.prog 21 = false) ∧ (isSlice Try.prog 21 = false) ∧ (isBool Try.prog 21 = false) ∧ (intOf' Try.prog 21 = some .i32) ∧ (elemOf Try.prog 21 = none) ∧ (zeroOf Try.prog 21 = some (.int .i32 0)) ∧ (szOf Try.prog 22 = some 1) ∧ (aggOf Try.prog 22 = some false) ∧ (strOf Try.prog 22 = false) ∧ (isSlice Try.prog 22 = true) ∧ (isBool Try.prog 22 = false) ∧ (intOf' Try.prog 22 = none) ∧ (elemOf Try.prog 22 = some 127) ∧ (zeroOf Try.prog 22 = some (.slice none 0 0)) ∧ (elOf Try.prog 22 = some (127, 5, 56, [.int .i64 0, .int .i64 0, .int .i64 0, .int .i64 0, .slice none 0 0])) ∧ (szOf Try.prog 23 = some 1) ∧ (aggOf Try.prog 23 = some false) ∧ (strOf Try.prog 23 = false) ∧ (isSlice Try.prog 23 = true) ∧ (isBool Try.prog 23 = false) ∧ (intOf' Try.prog 23 = none) ∧ (elemOf Try.prog 23 = some 9) ∧ (zeroOf Try.prog 23 = some (.slice none 0 0)) ∧ (elOf Try.prog 23 = some (9, 1, 16, [.string ⟨#[]⟩])) := ⟨ty40, ty41, ty42, ty43, ty44, ty45, ty46, ty47, ty48, ty49, ty50, ty51, ty52, ty53, ty54, ty55, ty56, ty57, ty58, ty59, ty60, ty61, ty62, ty63, ty64, ty65, ty66, ty67, ty68, ty69, ty70, ty71, ty72, ty73, ty74, ty75, ty76, ty77, ty78, ty79⟩
theorem tys2 : (szOf Try.prog 25 = some 2) ∧ (aggOf Try.prog 25 = some true) ∧ (strOf Try.prog 25 = false) ∧ (isSlice Try.prog 25 = false) ∧ (isBool Try.prog 25 = false) ∧ (intOf' Try.prog 25 = none) ∧ (elemOf Try.prog 25 = none) ∧ (zeroOf Try.prog 25 = some (.agg #[.slice none 0 0, .slice none 0 0])) ∧ (fldOf Try.prog 25 0 = some (0, 22)) ∧ (fldOf Try.prog 25 1 = some (1, 23)) ∧ (placesOf Try.prog 25 = some [(0, 1), (1, 1)]) ∧ (szOf Try.prog 27 = some 1) ∧ (aggOf Try.prog 27 = some false) ∧ (strOf Try.prog 27 = false) ∧ (isSlice Try.prog 27 = true) ∧ (isBool Try.prog 27 = false) ∧ (intOf' Try.prog 27 = none) ∧ (elemOf Try.prog 27 = some 47) ∧ (zeroOf Try.prog 27 = some (.slice none 0 0)) ∧ (elOf Try.prog 27 = some (47, 5, 56, [.int .i64 0, .int .i64 0, .int .i64 0, .int .i64 0, .slice none 0 0])) ∧ (szOf Try.prog 29 = some 2) ∧ (aggOf Try.prog 29 = some true) ∧ (strOf Try.prog 29 = false) ∧ (isSlice Try.prog 29 = false) ∧ (isBool Try.prog 29 = false) ∧ (intOf' Try.prog 29 = none) ∧ (elemOf Try.prog 29 = none) ∧ (zeroOf Try.prog 29 = some (.agg #[.slice none 0 0, .slice none 0 0])) ∧ (fldOf Try.prog 29 0 = some (0, 27)) ∧ (fldOf Try.prog 29 1 = some (1, 23)) ∧ (placesOf Try.prog 29 = some [(0, 1), (1, 1)]) ∧ (szOf Try.prog 35 = some 1) ∧ (aggOf Try.prog 35 = some false) ∧ (strOf Try.prog 35 = false) ∧ (isSlice Try.prog 35 = true) ∧ (isBool Try.prog 35 = false) ∧ (intOf' Try.prog 35 = none) ∧ (elemOf Try.prog 35 = some 5) ∧ (zeroOf Try.prog 35 = some (.slice none 0 0)) ∧ (elOf Try.prog 35 = some (5, 1, 1, [.int .u8 0])) := ⟨ty80, ty81, ty82, ty83, ty84, ty85, ty86, ty87, ty88, ty89, ty90, ty91, ty92, ty93, ty94, ty95, ty96, ty97, ty98, ty99, ty100, ty101, ty102, ty103, ty104, ty105, ty106, ty107, ty108, ty109, ty110, ty111, ty112, ty113, ty114, ty115, ty116, ty117, ty118, ty119⟩
theorem tys3 : (szOf Try.prog 45 = some 1) ∧ (aggOf Try.prog 45 = some false) ∧ (strOf Try.prog 45 = false) ∧ (isSlice Try.prog 45 = true) ∧ (isBool Try.prog 45 = false) ∧ (intOf' Try.prog 45 = none) ∧ (elemOf Try.prog 45 = some 3) ∧ (zeroOf Try.prog 45 = some (.slice none 0 0)) ∧ (elOf Try.prog 45 = some (3, 1, 8, [.int .i64 0])) ∧ (szOf Try.prog 47 = some 5) ∧ (aggOf Try.prog 47 = some true) ∧ (strOf Try.prog 47 = false) ∧ (isSlice Try.prog 47 = false) ∧ (isBool Try.prog 47 = false) ∧ (intOf' Try.prog 47 = none) ∧ (elemOf Try.prog 47 = none) ∧ (zeroOf Try.prog 47 = some (.agg #[.int .i64 0, .int .i64 0, .int .i64 0, .int .i64 0, .slice none 0 0])) ∧ (fldOf Try.prog 47 0 = some (0, 3)) ∧ (fldOf Try.prog 47 1 = some (1, 3)) ∧ (fldOf Try.prog 47 2 = some (2, 3)) ∧ (fldOf Try.prog 47 3 = some (3, 3)) ∧ (fldOf Try.prog 47 4 = some (4, 45)) ∧ (placesOf Try.prog 47 = some [(0, 1), (1, 1), (2, 1), (3, 1), (4, 1)]) ∧ (szOf Try.prog 55 = some 1) ∧ (aggOf Try.prog 55 = some false) ∧ (strOf Try.prog 55 = false) ∧ (isSlice Try.prog 55 = true) ∧ (isBool Try.prog 55 = false) ∧ (intOf' Try.prog 55 = none) ∧ (elemOf Try.prog 55 = some 63) ∧ (zeroOf Try.prog 55 = some (.slice none 0 0)) ∧ (elOf Try.prog 55 = some (63, 2, 24, [.string ⟨#[]⟩, .int .i64 0])) ∧ (szOf Try.prog 63 = some 2) ∧ (aggOf Try.prog 63 = some true) ∧ (strOf Try.prog 63 = false) ∧ (isSlice Try.prog 63 = false) ∧ (isBool Try.prog 63 = false) ∧ (intOf' Try.prog 63 = none) ∧ (elemOf Try.prog 63 = none) ∧ (zeroOf Try.prog 63 = some (.agg #[.string ⟨#[]⟩, .int .i64 0])) := ⟨ty120, ty121, ty122, ty123, ty124, ty125, ty126, ty127, ty128, ty129, ty130, ty131, ty132, ty133, ty134, ty135, ty136, ty137, ty138, ty139, ty140, ty141, ty142, ty143, ty144, ty145, ty146, ty147, ty148, ty149, ty150, ty151, ty152, ty153, ty154, ty155, ty156, ty157, ty158, ty159⟩
theorem tys4 : (fldOf Try.prog 63 0 = some (0, 9)) ∧ (fldOf Try.prog 63 1 = some (1, 3)) ∧ (placesOf Try.prog 63 = some [(0, 1), (1, 1)]) ∧ (eqKs Try.prog 63 = some [.str, .int]) ∧ (szOf Try.prog 72 = some 1) ∧ (aggOf Try.prog 72 = some false) ∧ (strOf Try.prog 72 = false) ∧ (isSlice Try.prog 72 = true) ∧ (isBool Try.prog 72 = false) ∧ (intOf' Try.prog 72 = none) ∧ (elemOf Try.prog 72 = some 75) ∧ (zeroOf Try.prog 72 = some (.slice none 0 0)) ∧ (elOf Try.prog 72 = some (75, 2, 24, [.int .i64 0, .string ⟨#[]⟩])) ∧ (szOf Try.prog 75 = some 2) ∧ (aggOf Try.prog 75 = some true) ∧ (strOf Try.prog 75 = false) ∧ (isSlice Try.prog 75 = false) ∧ (isBool Try.prog 75 = false) ∧ (intOf' Try.prog 75 = none) ∧ (elemOf Try.prog 75 = none) ∧ (zeroOf Try.prog 75 = some (.agg #[.int .i64 0, .string ⟨#[]⟩])) ∧ (fldOf Try.prog 75 0 = some (0, 3)) ∧ (fldOf Try.prog 75 1 = some (1, 9)) ∧ (placesOf Try.prog 75 = some [(0, 1), (1, 1)]) ∧ (eqKs Try.prog 75 = some [.int, .str]) ∧ (szOf Try.prog 86 = some 1) ∧ (aggOf Try.prog 86 = some false) ∧ (szOf Try.prog 92 = some 1) ∧ (aggOf Try.prog 92 = some false) ∧ (szOf Try.prog 127 = some 5) ∧ (aggOf Try.prog 127 = some true) ∧ (strOf Try.prog 127 = false) ∧ (isSlice Try.prog 127 = false) ∧ (isBool Try.prog 127 = false) ∧ (intOf' Try.prog 127 = none) ∧ (elemOf Try.prog 127 = none) ∧ (zeroOf Try.prog 127 = some (.agg #[.int .i64 0, .int .i64 0, .int .i64 0, .int .i64 0, .slice none 0 0])) ∧ (fldOf Try.prog 127 0 = some (0, 3)) ∧ (fldOf Try.prog 127 1 = some (1, 3)) ∧ (fldOf Try.prog 127 2 = some (2, 3)) := ⟨ty160, ty161, ty162, ty163, ty164, ty165, ty166, ty167, ty168, ty169, ty170, ty171, ty172, ty173, ty174, ty175, ty176, ty177, ty178, ty179, ty180, ty181, ty182, ty183, ty184, ty185, ty186, ty187, ty188, ty189, ty190, ty191, ty192, ty193, ty194, ty195, ty196, ty197, ty198, ty199⟩
theorem tys5 : (fldOf Try.prog 127 3 = some (3, 3)) ∧ (fldOf Try.prog 127 4 = some (4, 45)) ∧ (placesOf Try.prog 127 = some [(0, 1), (1, 1), (2, 1), (3, 1), (4, 1)]) ∧ (szOf Try.prog 135 = some 3) ∧ (aggOf Try.prog 135 = some true) ∧ (strOf Try.prog 135 = false) ∧ (isSlice Try.prog 135 = false) ∧ (isBool Try.prog 135 = false) ∧ (intOf' Try.prog 135 = none) ∧ (elemOf Try.prog 135 = none) ∧ (zeroOf Try.prog 135 = some (.agg #[.slice none 0 0, .int .i64 0, .int .i64 0])) ∧ (fldOf Try.prog 135 0 = some (0, 35)) ∧ (fldOf Try.prog 135 1 = some (1, 3)) ∧ (fldOf Try.prog 135 2 = some (2, 3)) ∧ (placesOf Try.prog 135 = some [(0, 1), (1, 1), (2, 1)]) ∧ (szOf Try.prog 142 = some 1) ∧ (aggOf Try.prog 142 = some false) ∧ (strOf Try.prog 142 = false) ∧ (isSlice Try.prog 142 = false) ∧ (isBool Try.prog 142 = false) ∧ (intOf' Try.prog 142 = some .u64) ∧ (elemOf Try.prog 142 = none) ∧ (zeroOf Try.prog 142 = some (.int .u64 0)) ∧ (szOf Try.prog 159 = some 1) ∧ (aggOf Try.prog 159 = some false) ∧ (strOf Try.prog 159 = false) ∧ (isSlice Try.prog 159 = false) ∧ (isBool Try.prog 159 = false) ∧ (intOf' Try.prog 159 = some .u32) ∧ (elemOf Try.prog 159 = none) ∧ (zeroOf Try.prog 159 = some (.int .u32 0)) ∧ (szOf Try.prog 162 = some 1) ∧ (aggOf Try.prog 162 = some false) ∧ (strOf Try.prog 162 = false) ∧ (isSlice Try.prog 162 = false) ∧ (isBool Try.prog 162 = false) ∧ (intOf' Try.prog 162 = some .u64) ∧ (elemOf Try.prog 162 = none) ∧ (zeroOf Try.prog 162 = some (.int .u64 0)) ∧ (szOf Try.prog 176 = some 1) := ⟨ty200, ty201, ty202, ty203, ty204, ty205, ty206, ty207, ty208, ty209, ty210, ty211, ty212, ty213, ty214, ty215, ty216, ty217, ty218, ty219, ty220, ty221, ty222, ty223, ty224, ty225, ty226, ty227, ty228, ty229, ty230, ty231, ty232, ty233, ty234, ty235, ty236, ty237, ty238, ty239⟩
theorem tys6 : (aggOf Try.prog 176 = some false) := ty240
theorem TY : ((szOf Try.prog 2 = some 1) ∧ (aggOf Try.prog 2 = some false) ∧ (strOf Try.prog 2 = false) ∧ (isSlice Try.prog 2 = false) ∧ (isBool Try.prog 2 = false) ∧ (intOf' Try.prog 2 = some .i64) ∧ (elemOf Try.prog 2 = none) ∧ (zeroOf Try.prog 2 = some (.int .i64 0)) ∧ (szOf Try.prog 3 = some 1) ∧ (aggOf Try.prog 3 = some false) ∧ (strOf Try.prog 3 = false) ∧ (isSlice Try.prog 3 = false) ∧ (isBool Try.prog 3 = false) ∧ (intOf' Try.prog 3 = some .i64) ∧ (elemOf Try.prog 3 = none) ∧ (zeroOf Try.prog 3 = some (.int .i64 0)) ∧ (szOf Try.prog 4 = some 1) ∧ (aggOf Try.prog 4 = some false) ∧ (strOf Try.prog 4 = false) ∧ (isSlice Try.prog 4 = false) ∧ (isBool Try.prog 4 = true) ∧ (intOf' Try.prog 4 = none) ∧ (elemOf Try.prog 4 = none) ∧ (zeroOf Try.prog 4 = some (.bool false)) ∧ (szOf Try.prog 5 = some 1) ∧ (aggOf Try.prog 5 = some false) ∧ (strOf Try.prog 5 = false) ∧ (isSlice Try.prog 5 = false) ∧ (isBool Try.prog 5 = false) ∧ (intOf' Try.prog 5 = some .u8) ∧ (elemOf Try.prog 5 = none) ∧ (zeroOf Try.prog 5 = some (.int .u8 0)) ∧ (szOf Try.prog 9 = some 1) ∧ (aggOf Try.prog 9 = some false) ∧ (strOf Try.prog 9 = true) ∧ (isSlice Try.prog 9 = false) ∧ (isBool Try.prog 9 = false) ∧ (intOf' Try.prog 9 = none) ∧ (elemOf Try.prog 9 = none) ∧ (zeroOf Try.prog 9 = some (.string ⟨#[]⟩))) ∧ ((szOf Try.prog 12 = some 1) ∧ (aggOf Try.prog 12 = some false) ∧ (strOf Try.prog 12 = false) ∧ (isSlice Try.prog 12 = false) ∧ (isBool Try.prog 12 = false) ∧ (intOf' Try.prog 12 = some .u64) ∧ (elemOf Try.prog 12 = none) ∧ (zeroOf Try.prog 12 = some (.int .u64 0)) ∧ (szOf Try.prog 15 = some 1) ∧ (aggOf Try.prog 15 = some false) ∧ (szOf Try.prog 16 = some 1) ∧ (aggOf Try.prog 16 = some false) ∧ (szOf Try.prog 17 = some 1) ∧ (aggOf Try.prog 17 = some false) ∧ (szOf Try.prog 21 = some 1) ∧ (aggOf Try.prog 21 = some false) ∧ (strOf Try.prog 21 = false) ∧ (isSlice Try.prog 21 = false) ∧ (isBool Try.prog 21 = false) ∧ (intOf' Try.prog 21 = some .i32) ∧ (elemOf Try.prog 21 = none) ∧ (zeroOf Try.prog 21 = some (.int .i32 0)) ∧ (szOf Try.prog 22 = some 1) ∧ (aggOf Try.prog 22 = some false) ∧ (strOf Try.prog 22 = false) ∧ (isSlice Try.prog 22 = true) ∧ (isBool Try.prog 22 = false) ∧ (intOf' Try.prog 22 = none) ∧ (elemOf Try.prog 22 = some 127) ∧ (zeroOf Try.prog 22 = some (.slice none 0 0)) ∧ (elOf Try.prog 22 = some (127, 5, 56, [.int .i64 0, .int .i64 0, .int .i64 0, .int .i64 0, .slice none 0 0])) ∧ (szOf Try.prog 23 = some 1) ∧ (aggOf Try.prog 23 = some false) ∧ (strOf Try.prog 23 = false) ∧ (isSlice Try.prog 23 = true) ∧ (isBool Try.prog 23 = false) ∧ (intOf' Try.prog 23 = none) ∧ (elemOf Try.prog 23 = some 9) ∧ (zeroOf Try.prog 23 = some (.slice none 0 0)) ∧ (elOf Try.prog 23 = some (9, 1, 16, [.string ⟨#[]⟩]))) ∧ ((szOf Try.prog 25 = some 2) ∧ (aggOf Try.prog 25 = some true) ∧ (strOf Try.prog 25 = false) ∧ (isSlice Try.prog 25 = false) ∧ (isBool Try.prog 25 = false) ∧ (intOf' Try.prog 25 = none) ∧ (elemOf Try.prog 25 = none) ∧ (zeroOf Try.prog 25 = some (.agg #[.slice none 0 0, .slice none 0 0])) ∧ (fldOf Try.prog 25 0 = some (0, 22)) ∧ (fldOf Try.prog 25 1 = some (1, 23)) ∧ (placesOf Try.prog 25 = some [(0, 1), (1, 1)]) ∧ (szOf Try.prog 27 = some 1) ∧ (aggOf Try.prog 27 = some false) ∧ (strOf Try.prog 27 = false) ∧ (isSlice Try.prog 27 = true) ∧ (isBool Try.prog 27 = false) ∧ (intOf' Try.prog 27 = none) ∧ (elemOf Try.prog 27 = some 47) ∧ (zeroOf Try.prog 27 = some (.slice none 0 0)) ∧ (elOf Try.prog 27 = some (47, 5, 56, [.int .i64 0, .int .i64 0, .int .i64 0, .int .i64 0, .slice none 0 0])) ∧ (szOf Try.prog 29 = some 2) ∧ (aggOf Try.prog 29 = some true) ∧ (strOf Try.prog 29 = false) ∧ (isSlice Try.prog 29 = false) ∧ (isBool Try.prog 29 = false) ∧ (intOf' Try.prog 29 = none) ∧ (elemOf Try.prog 29 = none) ∧ (zeroOf Try.prog 29 = some (.agg #[.slice none 0 0, .slice none 0 0])) ∧ (fldOf Try.prog 29 0 = some (0, 27)) ∧ (fldOf Try.prog 29 1 = some (1, 23)) ∧ (placesOf Try.prog 29 = some [(0, 1), (1, 1)]) ∧ (szOf Try.prog 35 = some 1) ∧ (aggOf Try.prog 35 = some false) ∧ (strOf Try.prog 35 = false) ∧ (isSlice Try.prog 35 = true) ∧ (isBool Try.prog 35 = false) ∧ (intOf' Try.prog 35 = none) ∧ (elemOf Try.prog 35 = some 5) ∧ (zeroOf Try.prog 35 = some (.slice none 0 0)) ∧ (elOf Try.prog 35 = some (5, 1, 1, [.int .u8 0]))) ∧ ((szOf Try.prog 45 = some 1) ∧ (aggOf Try.prog 45 = some false) ∧ (strOf Try.prog 45 = false) ∧ (isSlice Try.prog 45 = true) ∧ (isBool Try.prog 45 = false) ∧ (intOf' Try.prog 45 = none) ∧ (elemOf Try.prog 45 = some 3) ∧ (zeroOf Try.prog 45 = some (.slice none 0 0)) ∧ (elOf Try.prog 45 = some (3, 1, 8, [.int .i64 0])) ∧ (szOf Try.prog 47 = some 5) ∧ (aggOf Try.prog 47 = some true) ∧ (strOf Try.prog 47 = false) ∧ (isSlice Try.prog 47 = false) ∧ (isBool Try.prog 47 = false) ∧ (intOf' Try.prog 47 = none) ∧ (elemOf Try.prog 47 = none) ∧ (zeroOf Try.prog 47 = some (.agg #[.int .i64 0, .int .i64 0, .int .i64 0, .int .i64 0, .slice none 0 0])) ∧ (fldOf Try.prog 47 0 = some (0, 3)) ∧ (fldOf Try.prog 47 1 = some (1, 3)) ∧ (fldOf Try.prog 47 2 = some (2, 3)) ∧ (fldOf Try.prog 47 3 = some (3, 3)) ∧ (fldOf Try.prog 47 4 = some (4, 45)) ∧ (placesOf Try.prog 47 = some [(0, 1), (1, 1), (2, 1), (3, 1), (4, 1)]) ∧ (szOf Try.prog 55 = some 1) ∧ (aggOf Try.prog 55 = some false) ∧ (strOf Try.prog 55 = false) ∧ (isSlice Try.prog 55 = true) ∧ (isBool Try.prog 55 = false) ∧ (intOf' Try.prog 55 = none) ∧ (elemOf Try.prog 55 = some 63) ∧ (zeroOf Try.prog 55 = some (.slice none 0 0)) ∧ (elOf Try.prog 55 = some (63, 2, 24, [.string ⟨#[]⟩, .int .i64 0])) ∧ (szOf Try.prog 63 = some 2) ∧ (aggOf Try.prog 63 = some true) ∧ (strOf Try.prog 63 = false) ∧ (isSlice Try.prog 63 = false) ∧ (isBool Try.prog 63 = false) ∧ (intOf' Try.prog 63 = none) ∧ (elemOf Try.prog 63 = none) ∧ (zeroOf Try.prog 63 = some (.agg #[.string ⟨#[]⟩, .int .i64 0]))) ∧ ((fldOf Try.prog 63 0 = some (0, 9)) ∧ (fldOf Try.prog 63 1 = some (1, 3)) ∧ (placesOf Try.prog 63 = some [(0, 1), (1, 1)]) ∧ (eqKs Try.prog 63 = some [.str, .int]) ∧ (szOf Try.prog 72 = some 1) ∧ (aggOf Try.prog 72 = some false) ∧ (strOf Try.prog 72 = false) ∧ (isSlice Try.prog 72 = true) ∧ (isBool Try.prog 72 = false) ∧ (intOf' Try.prog 72 = none) ∧ (elemOf Try.prog 72 = some 75) ∧ (zeroOf Try.prog 72 = some (.slice none 0 0)) ∧ (elOf Try.prog 72 = some (75, 2, 24, [.int .i64 0, .string ⟨#[]⟩])) ∧ (szOf Try.prog 75 = some 2) ∧ (aggOf Try.prog 75 = some true) ∧ (strOf Try.prog 75 = false) ∧ (isSlice Try.prog 75 = false) ∧ (isBool Try.prog 75 = false) ∧ (intOf' Try.prog 75 = none) ∧ (elemOf Try.prog 75 = none) ∧ (zeroOf Try.prog 75 = some (.agg #[.int .i64 0, .string ⟨#[]⟩])) ∧ (fldOf Try.prog 75 0 = some (0, 3)) ∧ (fldOf Try.prog 75 1 = some (1, 9)) ∧ (placesOf Try.prog 75 = some [(0, 1), (1, 1)]) ∧ (eqKs Try.prog 75 = some [.int, .str]) ∧ (szOf Try.prog 86 = some 1) ∧ (aggOf Try.prog 86 = some false) ∧ (szOf Try.prog 92 = some 1) ∧ (aggOf Try.prog 92 = some false) ∧ (szOf Try.prog 127 = some 5) ∧ (aggOf Try.prog 127 = some true) ∧ (strOf Try.prog 127 = false) ∧ (isSlice Try.prog 127 = false) ∧ (isBool Try.prog 127 = false) ∧ (intOf' Try.prog 127 = none) ∧ (elemOf Try.prog 127 = none) ∧ (zeroOf Try.prog 127 = some (.agg #[.int .i64 0, .int .i64 0, .int .i64 0, .int .i64 0, .slice none 0 0])) ∧ (fldOf Try.prog 127 0 = some (0, 3)) ∧ (fldOf Try.prog 127 1 = some (1, 3)) ∧ (fldOf Try.prog 127 2 = some (2, 3))) ∧ ((fldOf Try.prog 127 3 = some (3, 3)) ∧ (fldOf Try.prog 127 4 = some (4, 45)) ∧ (placesOf Try.prog 127 = some [(0, 1), (1, 1), (2, 1), (3, 1), (4, 1)]) ∧ (szOf Try.prog 135 = some 3) ∧ (aggOf Try.prog 135 = some true) ∧ (strOf Try.prog 135 = false) ∧ (isSlice Try.prog 135 = false) ∧ (isBool Try.prog 135 = false) ∧ (intOf' Try.prog 135 = none) ∧ (elemOf Try.prog 135 = none) ∧ (zeroOf Try.prog 135 = some (.agg #[.slice none 0 0, .int .i64 0, .int .i64 0])) ∧ (fldOf Try.prog 135 0 = some (0, 35)) ∧ (fldOf Try.prog 135 1 = some (1, 3)) ∧ (fldOf Try.prog 135 2 = some (2, 3)) ∧ (placesOf Try.prog 135 = some [(0, 1), (1, 1), (2, 1)]) ∧ (szOf Try.prog 142 = some 1) ∧ (aggOf Try.prog 142 = some false) ∧ (strOf Try.prog 142 = false) ∧ (isSlice Try.prog 142 = false) ∧ (isBool Try.prog 142 = false) ∧ (intOf' Try.prog 142 = some .u64) ∧ (elemOf Try.prog 142 = none) ∧ (zeroOf Try.prog 142 = some (.int .u64 0)) ∧ (szOf Try.prog 159 = some 1) ∧ (aggOf Try.prog 159 = some false) ∧ (strOf Try.prog 159 = false) ∧ (isSlice Try.prog 159 = false) ∧ (isBool Try.prog 159 = false) ∧ (intOf' Try.prog 159 = some .u32) ∧ (elemOf Try.prog 159 = none) ∧ (zeroOf Try.prog 159 = some (.int .u32 0)) ∧ (szOf Try.prog 162 = some 1) ∧ (aggOf Try.prog 162 = some false) ∧ (strOf Try.prog 162 = false) ∧ (isSlice Try.prog 162 = false) ∧ (isBool Try.prog 162 = false) ∧ (intOf' Try.prog 162 = some .u64) ∧ (elemOf Try.prog 162 = none) ∧ (zeroOf Try.prog 162 = some (.int .u64 0)) ∧ (szOf Try.prog 176 = some 1)) ∧ ((aggOf Try.prog 176 = some false)) := ⟨tys0, tys1, tys2, tys3, tys4, tys5, tys6⟩
theorem mixed : Try.prog.follows .mixedOrders = true := by kernel_rfl
attribute [simp] TY
end Go.Proofs.Ytccpaikdmncidaa.Hz
