/- What the calculus asks of the types, each fact by the kernel. Written by facts.py. -/
import Derived.Test.YtccpaikdmncidaaGreatHyGB
import Derived.Test.YtccpaikdmncidaaGreatProg
namespace Go.Proofs.YtccpaikdmncidaaGreat.Hz
theorem ty0 : szOf Tryz.prog 2 = some 1 := by kernel_rfl
theorem ty1 : aggOf Tryz.prog 2 = some false := by kernel_rfl
theorem ty2 : strOf Tryz.prog 2 = false := by kernel_rfl
theorem ty3 : isSlice Tryz.prog 2 = false := by kernel_rfl
theorem ty4 : isBool Tryz.prog 2 = false := by kernel_rfl
theorem ty5 : intOf' Tryz.prog 2 = some .i64 := by kernel_rfl
theorem ty6 : elemOf Tryz.prog 2 = none := by kernel_rfl
theorem ty7 : zeroOf Tryz.prog 2 = some (.int .i64 0) := by kernel_rfl
theorem ty8 : szOf Tryz.prog 3 = some 1 := by kernel_rfl
theorem ty9 : aggOf Tryz.prog 3 = some false := by kernel_rfl
theorem ty10 : strOf Tryz.prog 3 = false := by kernel_rfl
theorem ty11 : isSlice Tryz.prog 3 = false := by kernel_rfl
theorem ty12 : isBool Tryz.prog 3 = false := by kernel_rfl
theorem ty13 : intOf' Tryz.prog 3 = some .i64 := by kernel_rfl
theorem ty14 : elemOf Tryz.prog 3 = none := by kernel_rfl
theorem ty15 : zeroOf Tryz.prog 3 = some (.int .i64 0) := by kernel_rfl
theorem ty16 : szOf Tryz.prog 4 = some 1 := by kernel_rfl
theorem ty17 : aggOf Tryz.prog 4 = some false := by kernel_rfl
theorem ty18 : strOf Tryz.prog 4 = false := by kernel_rfl
theorem ty19 : isSlice Tryz.prog 4 = false := by kernel_rfl
theorem ty20 : isBool Tryz.prog 4 = true := by kernel_rfl
theorem ty21 : intOf' Tryz.prog 4 = none := by kernel_rfl
theorem ty22 : elemOf Tryz.prog 4 = none := by kernel_rfl
theorem ty23 : zeroOf Tryz.prog 4 = some (.bool false) := by kernel_rfl
theorem ty24 : szOf Tryz.prog 5 = some 1 := by kernel_rfl
theorem ty25 : aggOf Tryz.prog 5 = some false := by kernel_rfl
theorem ty26 : strOf Tryz.prog 5 = false := by kernel_rfl
theorem ty27 : isSlice Tryz.prog 5 = false := by kernel_rfl
theorem ty28 : isBool Tryz.prog 5 = false := by kernel_rfl
theorem ty29 : intOf' Tryz.prog 5 = some .u8 := by kernel_rfl
theorem ty30 : elemOf Tryz.prog 5 = none := by kernel_rfl
theorem ty31 : zeroOf Tryz.prog 5 = some (.int .u8 0) := by kernel_rfl
theorem ty32 : szOf Tryz.prog 9 = some 1 := by kernel_rfl
theorem ty33 : aggOf Tryz.prog 9 = some false := by kernel_rfl
theorem ty34 : strOf Tryz.prog 9 = true := by kernel_rfl
theorem ty35 : isSlice Tryz.prog 9 = false := by kernel_rfl
theorem ty36 : isBool Tryz.prog 9 = false := by kernel_rfl
theorem ty37 : intOf' Tryz.prog 9 = none := by kernel_rfl
theorem ty38 : elemOf Tryz.prog 9 = none := by kernel_rfl
theorem ty39 : zeroOf Tryz.prog 9 = some (.string ⟨#[]⟩) := by kernel_rfl
theorem ty40 : szOf Tryz.prog 12 = some 1 := by kernel_rfl
theorem ty41 : aggOf Tryz.prog 12 = some false := by kernel_rfl
theorem ty42 : strOf Tryz.prog 12 = false := by kernel_rfl
theorem ty43 : isSlice Tryz.prog 12 = false := by kernel_rfl
theorem ty44 : isBool Tryz.prog 12 = false := by kernel_rfl
theorem ty45 : intOf' Tryz.prog 12 = some .u64 := by kernel_rfl
theorem ty46 : elemOf Tryz.prog 12 = none := by kernel_rfl
theorem ty47 : zeroOf Tryz.prog 12 = some (.int .u64 0) := by kernel_rfl
theorem ty48 : szOf Tryz.prog 15 = some 1 := by kernel_rfl
theorem ty49 : aggOf Tryz.prog 15 = some false := by kernel_rfl
theorem ty50 : szOf Tryz.prog 16 = some 1 := by kernel_rfl
theorem ty51 : aggOf Tryz.prog 16 = some false := by kernel_rfl
theorem ty52 : szOf Tryz.prog 17 = some 1 := by kernel_rfl
theorem ty53 : aggOf Tryz.prog 17 = some false := by kernel_rfl
theorem ty54 : szOf Tryz.prog 21 = some 1 := by kernel_rfl
theorem ty55 : aggOf Tryz.prog 21 = some false := by kernel_rfl
theorem ty56 : strOf Tryz.prog 21 = false := by kernel_rfl
theorem ty57 : isSlice Tryz.prog 21 = false := by kernel_rfl
theorem ty58 : isBool Tryz.prog 21 = false := by kernel_rfl
theorem ty59 : intOf' Tryz.prog 21 = some .i32 := by kernel_rfl
theorem ty60 : elemOf Tryz.prog 21 = none := by kernel_rfl
theorem ty61 : zeroOf Tryz.prog 21 = some (.int .i32 0) := by kernel_rfl
theorem ty62 : szOf Tryz.prog 22 = some 1 := by kernel_rfl
theorem ty63 : aggOf Tryz.prog 22 = some false := by kernel_rfl
theorem ty64 : strOf Tryz.prog 22 = false := by kernel_rfl
theorem ty65 : isSlice Tryz.prog 22 = true := by kernel_rfl
theorem ty66 : isBool Tryz.prog 22 = false := by kernel_rfl
theorem ty67 : intOf' Tryz.prog 22 = none := by kernel_rfl
theorem ty68 : elemOf Tryz.prog 22 = some 93 := by kernel_rfl
theorem ty69 : zeroOf Tryz.prog 22 = some (.slice none 0 0) := by kernel_rfl
theorem ty70 : elOf Tryz.prog 22 = some (93, 5, 56, [.int .i64 0, .int .i64 0, .int .i64 0, .int .i64 0, .slice none 0 0]) := by kernel_rfl
theorem ty71 : szOf Tryz.prog 23 = some 1 := by kernel_rfl
theorem ty72 : aggOf Tryz.prog 23 = some false := by kernel_rfl
theorem ty73 : strOf Tryz.prog 23 = false := by kernel_rfl
theorem ty74 : isSlice Tryz.prog 23 = true := by kernel_rfl
theorem ty75 : isBool Tryz.prog 23 = false := by kernel_rfl
theorem ty76 : intOf' Tryz.prog 23 = none := by kernel_rfl
theorem ty77 : elemOf Tryz.prog 23 = some 9 := by kernel_rfl
theorem ty78 : zeroOf Tryz.prog 23 = some (.slice none 0 0) := by kernel_rfl
theorem ty79 : elOf Tryz.prog 23 = some (9, 1, 16, [.string ⟨#[]⟩]) := by kernel_rfl
theorem ty80 : szOf Tryz.prog 25 = some 2 := by kernel_rfl
theorem ty81 : aggOf Tryz.prog 25 = some true := by kernel_rfl
theorem ty82 : strOf Tryz.prog 25 = false := by kernel_rfl
theorem ty83 : isSlice Tryz.prog 25 = false := by kernel_rfl
theorem ty84 : isBool Tryz.prog 25 = false := by kernel_rfl
theorem ty85 : intOf' Tryz.prog 25 = none := by kernel_rfl
theorem ty86 : elemOf Tryz.prog 25 = none := by kernel_rfl
theorem ty87 : zeroOf Tryz.prog 25 = some (.agg #[.slice none 0 0, .slice none 0 0]) := by kernel_rfl
theorem ty88 : fldOf Tryz.prog 25 0 = some (0, 22) := by kernel_rfl
theorem ty89 : fldOf Tryz.prog 25 1 = some (1, 23) := by kernel_rfl
theorem ty90 : placesOf Tryz.prog 25 = some [(0, 1), (1, 1)] := by kernel_rfl
theorem ty91 : szOf Tryz.prog 27 = some 1 := by kernel_rfl
theorem ty92 : aggOf Tryz.prog 27 = some false := by kernel_rfl
theorem ty93 : strOf Tryz.prog 27 = false := by kernel_rfl
theorem ty94 : isSlice Tryz.prog 27 = true := by kernel_rfl
theorem ty95 : isBool Tryz.prog 27 = false := by kernel_rfl
theorem ty96 : intOf' Tryz.prog 27 = none := by kernel_rfl
theorem ty97 : elemOf Tryz.prog 27 = some 59 := by kernel_rfl
theorem ty98 : zeroOf Tryz.prog 27 = some (.slice none 0 0) := by kernel_rfl
theorem ty99 : elOf Tryz.prog 27 = some (59, 5, 56, [.int .i64 0, .int .i64 0, .int .i64 0, .int .i64 0, .slice none 0 0]) := by kernel_rfl
theorem ty100 : szOf Tryz.prog 29 = some 2 := by kernel_rfl
theorem ty101 : aggOf Tryz.prog 29 = some true := by kernel_rfl
theorem ty102 : strOf Tryz.prog 29 = false := by kernel_rfl
theorem ty103 : isSlice Tryz.prog 29 = false := by kernel_rfl
theorem ty104 : isBool Tryz.prog 29 = false := by kernel_rfl
theorem ty105 : intOf' Tryz.prog 29 = none := by kernel_rfl
theorem ty106 : elemOf Tryz.prog 29 = none := by kernel_rfl
theorem ty107 : zeroOf Tryz.prog 29 = some (.agg #[.slice none 0 0, .slice none 0 0]) := by kernel_rfl
theorem ty108 : fldOf Tryz.prog 29 0 = some (0, 27) := by kernel_rfl
theorem ty109 : fldOf Tryz.prog 29 1 = some (1, 23) := by kernel_rfl
theorem ty110 : placesOf Tryz.prog 29 = some [(0, 1), (1, 1)] := by kernel_rfl
theorem ty111 : szOf Tryz.prog 40 = some 1 := by kernel_rfl
theorem ty112 : aggOf Tryz.prog 40 = some false := by kernel_rfl
theorem ty113 : strOf Tryz.prog 40 = false := by kernel_rfl
theorem ty114 : isSlice Tryz.prog 40 = true := by kernel_rfl
theorem ty115 : isBool Tryz.prog 40 = false := by kernel_rfl
theorem ty116 : intOf' Tryz.prog 40 = none := by kernel_rfl
theorem ty117 : elemOf Tryz.prog 40 = some 86 := by kernel_rfl
theorem ty118 : zeroOf Tryz.prog 40 = some (.slice none 0 0) := by kernel_rfl
theorem ty119 : elOf Tryz.prog 40 = some (86, 4, 48, [.string ⟨#[]⟩, .int .i64 0, .string ⟨#[]⟩, .int .i64 0]) := by kernel_rfl
theorem ty120 : szOf Tryz.prog 42 = some 1 := by kernel_rfl
theorem ty121 : aggOf Tryz.prog 42 = some true := by kernel_rfl
theorem ty122 : strOf Tryz.prog 42 = false := by kernel_rfl
theorem ty123 : isSlice Tryz.prog 42 = false := by kernel_rfl
theorem ty124 : isBool Tryz.prog 42 = false := by kernel_rfl
theorem ty125 : intOf' Tryz.prog 42 = none := by kernel_rfl
theorem ty126 : elemOf Tryz.prog 42 = none := by kernel_rfl
theorem ty127 : zeroOf Tryz.prog 42 = some (.agg #[.slice none 0 0]) := by kernel_rfl
theorem ty128 : fldOf Tryz.prog 42 0 = some (0, 40) := by kernel_rfl
theorem ty129 : placesOf Tryz.prog 42 = some [(0, 1)] := by kernel_rfl
theorem ty130 : szOf Tryz.prog 57 = some 1 := by kernel_rfl
theorem ty131 : aggOf Tryz.prog 57 = some false := by kernel_rfl
theorem ty132 : strOf Tryz.prog 57 = false := by kernel_rfl
theorem ty133 : isSlice Tryz.prog 57 = true := by kernel_rfl
theorem ty134 : isBool Tryz.prog 57 = false := by kernel_rfl
theorem ty135 : intOf' Tryz.prog 57 = none := by kernel_rfl
theorem ty136 : elemOf Tryz.prog 57 = some 3 := by kernel_rfl
theorem ty137 : zeroOf Tryz.prog 57 = some (.slice none 0 0) := by kernel_rfl
theorem ty138 : elOf Tryz.prog 57 = some (3, 1, 8, [.int .i64 0]) := by kernel_rfl
theorem ty139 : szOf Tryz.prog 59 = some 5 := by kernel_rfl
theorem ty140 : aggOf Tryz.prog 59 = some true := by kernel_rfl
theorem ty141 : strOf Tryz.prog 59 = false := by kernel_rfl
theorem ty142 : isSlice Tryz.prog 59 = false := by kernel_rfl
theorem ty143 : isBool Tryz.prog 59 = false := by kernel_rfl
theorem ty144 : intOf' Tryz.prog 59 = none := by kernel_rfl
theorem ty145 : elemOf Tryz.prog 59 = none := by kernel_rfl
theorem ty146 : zeroOf Tryz.prog 59 = some (.agg #[.int .i64 0, .int .i64 0, .int .i64 0, .int .i64 0, .slice none 0 0]) := by kernel_rfl
theorem ty147 : fldOf Tryz.prog 59 0 = some (0, 3) := by kernel_rfl
theorem ty148 : fldOf Tryz.prog 59 1 = some (1, 3) := by kernel_rfl
theorem ty149 : fldOf Tryz.prog 59 2 = some (2, 3) := by kernel_rfl
theorem ty150 : fldOf Tryz.prog 59 3 = some (3, 3) := by kernel_rfl
theorem ty151 : fldOf Tryz.prog 59 4 = some (4, 57) := by kernel_rfl
theorem ty152 : placesOf Tryz.prog 59 = some [(0, 1), (1, 1), (2, 1), (3, 1), (4, 1)] := by kernel_rfl
theorem ty153 : szOf Tryz.prog 86 = some 4 := by kernel_rfl
theorem ty154 : aggOf Tryz.prog 86 = some true := by kernel_rfl
theorem ty155 : strOf Tryz.prog 86 = false := by kernel_rfl
theorem ty156 : isSlice Tryz.prog 86 = false := by kernel_rfl
theorem ty157 : isBool Tryz.prog 86 = false := by kernel_rfl
theorem ty158 : intOf' Tryz.prog 86 = none := by kernel_rfl
theorem ty159 : elemOf Tryz.prog 86 = none := by kernel_rfl
theorem ty160 : zeroOf Tryz.prog 86 = some (.agg #[.string ⟨#[]⟩, .int .i64 0, .string ⟨#[]⟩, .int .i64 0]) := by kernel_rfl
theorem ty161 : fldOf Tryz.prog 86 0 = some (0, 9) := by kernel_rfl
theorem ty162 : fldOf Tryz.prog 86 1 = some (1, 3) := by kernel_rfl
theorem ty163 : fldOf Tryz.prog 86 2 = some (2, 9) := by kernel_rfl
theorem ty164 : fldOf Tryz.prog 86 3 = some (3, 3) := by kernel_rfl
theorem ty165 : placesOf Tryz.prog 86 = some [(0, 1), (1, 1), (2, 1), (3, 1)] := by kernel_rfl
theorem ty166 : eqKs Tryz.prog 86 = some [.str, .int, .str, .int] := by kernel_rfl
theorem ty167 : szOf Tryz.prog 93 = some 5 := by kernel_rfl
theorem ty168 : aggOf Tryz.prog 93 = some true := by kernel_rfl
theorem ty169 : strOf Tryz.prog 93 = false := by kernel_rfl
theorem ty170 : isSlice Tryz.prog 93 = false := by kernel_rfl
theorem ty171 : isBool Tryz.prog 93 = false := by kernel_rfl
theorem ty172 : intOf' Tryz.prog 93 = none := by kernel_rfl
theorem ty173 : elemOf Tryz.prog 93 = none := by kernel_rfl
theorem ty174 : zeroOf Tryz.prog 93 = some (.agg #[.int .i64 0, .int .i64 0, .int .i64 0, .int .i64 0, .slice none 0 0]) := by kernel_rfl
theorem ty175 : fldOf Tryz.prog 93 0 = some (0, 3) := by kernel_rfl
theorem ty176 : fldOf Tryz.prog 93 1 = some (1, 3) := by kernel_rfl
theorem ty177 : fldOf Tryz.prog 93 2 = some (2, 3) := by kernel_rfl
theorem ty178 : fldOf Tryz.prog 93 3 = some (3, 3) := by kernel_rfl
theorem ty179 : fldOf Tryz.prog 93 4 = some (4, 57) := by kernel_rfl
theorem ty180 : placesOf Tryz.prog 93 = some [(0, 1), (1, 1), (2, 1), (3, 1), (4, 1)] := by kernel_rfl
theorem ty181 : szOf Tryz.prog 97 = some 1 := by kernel_rfl
theorem ty182 : aggOf Tryz.prog 97 = some false := by kernel_rfl
theorem ty183 : strOf Tryz.prog 97 = false := by kernel_rfl
theorem ty184 : isSlice Tryz.prog 97 = true := by kernel_rfl
theorem ty185 : isBool Tryz.prog 97 = false := by kernel_rfl
theorem ty186 : intOf' Tryz.prog 97 = none := by kernel_rfl
theorem ty187 : elemOf Tryz.prog 97 = some 119 := by kernel_rfl
theorem ty188 : zeroOf Tryz.prog 97 = some (.slice none 0 0) := by kernel_rfl
theorem ty189 : elOf Tryz.prog 97 = some (119, 2, 24, [.string ⟨#[]⟩, .int .i64 0]) := by kernel_rfl
theorem ty190 : szOf Tryz.prog 105 = some 1 := by kernel_rfl
theorem ty191 : aggOf Tryz.prog 105 = some false := by kernel_rfl
theorem ty192 : szOf Tryz.prog 119 = some 2 := by kernel_rfl
theorem ty193 : aggOf Tryz.prog 119 = some true := by kernel_rfl
theorem ty194 : strOf Tryz.prog 119 = false := by kernel_rfl
theorem ty195 : isSlice Tryz.prog 119 = false := by kernel_rfl
theorem ty196 : isBool Tryz.prog 119 = false := by kernel_rfl
theorem ty197 : intOf' Tryz.prog 119 = none := by kernel_rfl
theorem ty198 : elemOf Tryz.prog 119 = none := by kernel_rfl
theorem ty199 : zeroOf Tryz.prog 119 = some (.agg #[.string ⟨#[]⟩, .int .i64 0]) := by kernel_rfl
theorem ty200 : fldOf Tryz.prog 119 0 = some (0, 9) := by kernel_rfl
theorem ty201 : fldOf Tryz.prog 119 1 = some (1, 3) := by kernel_rfl
theorem ty202 : placesOf Tryz.prog 119 = some [(0, 1), (1, 1)] := by kernel_rfl
theorem ty203 : eqKs Tryz.prog 119 = some [.str, .int] := by kernel_rfl
theorem ty204 : szOf Tryz.prog 125 = some 1 := by kernel_rfl
theorem ty205 : aggOf Tryz.prog 125 = some false := by kernel_rfl
theorem ty206 : strOf Tryz.prog 125 = false := by kernel_rfl
theorem ty207 : isSlice Tryz.prog 125 = false := by kernel_rfl
theorem ty208 : isBool Tryz.prog 125 = false := by kernel_rfl
theorem ty209 : intOf' Tryz.prog 125 = some .u64 := by kernel_rfl
theorem ty210 : elemOf Tryz.prog 125 = none := by kernel_rfl
theorem ty211 : zeroOf Tryz.prog 125 = some (.int .u64 0) := by kernel_rfl
theorem ty212 : szOf Tryz.prog 134 = some 1 := by kernel_rfl
theorem ty213 : aggOf Tryz.prog 134 = some false := by kernel_rfl
theorem ty214 : strOf Tryz.prog 134 = false := by kernel_rfl
theorem ty215 : isSlice Tryz.prog 134 = true := by kernel_rfl
theorem ty216 : isBool Tryz.prog 134 = false := by kernel_rfl
theorem ty217 : intOf' Tryz.prog 134 = none := by kernel_rfl
theorem ty218 : elemOf Tryz.prog 134 = some 5 := by kernel_rfl
theorem ty219 : zeroOf Tryz.prog 134 = some (.slice none 0 0) := by kernel_rfl
theorem ty220 : elOf Tryz.prog 134 = some (5, 1, 1, [.int .u8 0]) := by kernel_rfl
theorem ty221 : szOf Tryz.prog 151 = some 1 := by kernel_rfl
theorem ty222 : aggOf Tryz.prog 151 = some false := by kernel_rfl
theorem ty223 : strOf Tryz.prog 151 = false := by kernel_rfl
theorem ty224 : isSlice Tryz.prog 151 = false := by kernel_rfl
theorem ty225 : isBool Tryz.prog 151 = false := by kernel_rfl
theorem ty226 : intOf' Tryz.prog 151 = some .u32 := by kernel_rfl
theorem ty227 : elemOf Tryz.prog 151 = none := by kernel_rfl
theorem ty228 : zeroOf Tryz.prog 151 = some (.int .u32 0) := by kernel_rfl
theorem ty229 : szOf Tryz.prog 153 = some 1 := by kernel_rfl
theorem ty230 : aggOf Tryz.prog 153 = some false := by kernel_rfl
theorem ty231 : strOf Tryz.prog 153 = false := by kernel_rfl
theorem ty232 : isSlice Tryz.prog 153 = false := by kernel_rfl
theorem ty233 : isBool Tryz.prog 153 = false := by kernel_rfl
theorem ty234 : intOf' Tryz.prog 153 = some .u64 := by kernel_rfl
theorem ty235 : elemOf Tryz.prog 153 = none := by kernel_rfl
theorem ty236 : zeroOf Tryz.prog 153 = some (.int .u64 0) := by kernel_rfl
theorem ty237 : szOf Tryz.prog 165 = some 1 := by kernel_rfl
theorem ty238 : aggOf Tryz.prog 165 = some false := by kernel_rfl
theorem ty239 : szOf Tryz.prog 178 = some 1 := by kernel_rfl
theorem ty240 : aggOf Tryz.prog 178 = some false := by kernel_rfl
theorem ty241 : szOf Tryz.prog 187 = some 1 := by kernel_rfl
theorem ty242 : aggOf Tryz.prog 187 = some false := by kernel_rfl
theorem ty243 : szOf Tryz.prog 188 = some 1 := by kernel_rfl
theorem ty244 : aggOf Tryz.prog 188 = some false := by kernel_rfl
theorem tys0 : (szOf Tryz.prog 2 = some 1) ∧ (aggOf Tryz.prog 2 = some false) ∧ (strOf Tryz.prog 2 = false) ∧ (isSlice Tryz.prog 2 = false) ∧ (isBool Tryz.prog 2 = false) ∧ (intOf' Tryz.prog 2 = some .i64) ∧ (elemOf Tryz.prog 2 = none) ∧ (zeroOf Tryz.prog 2 = some (.int .i64 0)) ∧ (szOf Tryz.prog 3 = some 1) ∧ (aggOf Tryz.prog 3 = some false) ∧ (strOf Tryz.prog 3 = false) ∧ (isSlice Tryz.prog 3 = false) ∧ (isBool Tryz.prog 3 = false) ∧ (intOf' Tryz.prog 3 = some .i64) ∧ (elemOf Tryz.prog 3 = none) ∧ (zeroOf Tryz.prog 3 = some (.int .i64 0)) ∧ (szOf Tryz.prog 4 = some 1) ∧ (aggOf Tryz.prog 4 = some false) ∧ (strOf Tryz.prog 4 = false) ∧ (isSlice Tryz.prog 4 = false) ∧ (isBool Tryz.prog 4 = true) ∧ (intOf' Tryz.prog 4 = none) ∧ (elemOf Tryz.prog 4 = none) ∧ (zeroOf Tryz.prog 4 = some (.bool false)) ∧ (szOf Tryz.prog 5 = some 1) ∧ (aggOf Tryz.prog 5 = some false) ∧ (strOf Tryz.prog 5 = false) ∧ (isSlice Tryz.prog 5 = false) ∧ (isBool Tryz.prog 5 = false) ∧ (intOf' Tryz.prog 5 = some .u8) ∧ (elemOf Tryz.prog 5 = none) ∧ (zeroOf Tryz.prog 5 = some (.int .u8 0)) ∧ (szOf Tryz.prog 9 = some 1) ∧ (aggOf Tryz.prog 9 = some false) ∧ (strOf Tryz.prog 9 = true) ∧ (isSlice Tryz.prog 9 = false) ∧ (isBool Tryz.prog 9 = false) ∧ (intOf' Tryz.prog 9 = none) ∧ (elemOf Tryz.prog 9 = none) ∧ (zeroOf Tryz.prog 9 = some (.string ⟨#[]⟩)) := ⟨ty0, ty1, ty2, ty3, ty4, ty5, ty6, ty7, ty8, ty9, ty10, ty11, ty12, ty13, ty14, ty15, ty16, ty17, ty18, ty19, ty20, ty21, ty22, ty23, ty24, ty25, ty26, ty27, ty28, ty29, ty30, ty31, ty32, ty33, ty34, ty35, ty36, ty37, ty38, ty39⟩
theorem tys1 : (szOf Tryz.prog 12 = some 1) ∧ (aggOf Tryz.prog 12 = some false) ∧ (strOf Tryz.prog 12 = false) ∧ (isSlice Tryz.prog 12 = false) ∧ (isBool Tryz.prog 12 = false) ∧ (intOf' Tryz.prog 12 = some .u64) ∧ (elemOf Tryz.prog 12 = none) ∧ (zeroOf Tryz.prog 12 = some (.int .u64 0)) ∧ (szOf Tryz.prog 15 = some 1) ∧ (aggOf Tryz.prog 15 = some false) ∧ (szOf Tryz.prog 16 = some 1) ∧ (aggOf Tryz.prog 16 = some false) ∧ (szOf Tryz.prog 17 = some 1) ∧ (aggOf Tryz.prog 17 = some false) ∧ (szOf Tryz.prog 21 = some 1) ∧ (aggOf Tryz.prog 21 = some false) ∧ (strOf Tryz.prog 21 = false) ∧ (isSlice Tryz.prog 21 = false) ∧ (isBool Tryz.prog 21 = false) ∧ (intOf' Tryz.prog 21 = some .i32) ∧ (elemOf Tryz.prog 21 = none) ∧ (zeroOf Tryz.prog 21 = some (.int .i32 0)) ∧ (szOf Tryz.prog 22 = some 1) ∧ (aggOf Tryz.prog 22 = some false) ∧ (strOf Tryz.prog 22 = false) ∧ (isSlice Tryz.prog 22 = true) ∧ (isBool Tryz.prog 22 = false) ∧ (intOf' Tryz.prog 22 = none) ∧ (elemOf Tryz.prog 22 = some 93) ∧ (zeroOf Tryz.prog 22 = some (.slice none 0 0)) ∧ (elOf Tryz.prog 22 = some (93, 5, 56, [.int .i64 0, .int .i64 0, .int .i64 0, .int .i64 0, .slice none 0 0])) ∧ (szOf Tryz.prog 23 = some 1) ∧ (aggOf Tryz.prog 23 = some false) ∧ (strOf Tryz.prog 23 = false) ∧ (isSlice Tryz.prog 23 = true) ∧ (isBool Tryz.prog 23 = false) ∧ (intOf' Tryz.prog 23 = none) ∧ (elemOf Tryz.prog 23 = some 9) ∧ (zeroOf Tryz.prog 23 = some (.slice none 0 0)) ∧ (elOf Tryz.prog 23 = some (9, 1, 16, [.string ⟨#[]⟩])) := ⟨ty40, ty41, ty42, ty43, ty44, ty45, ty46, ty47, ty48, ty49, ty50, ty51, ty52, ty53, ty54, ty55, ty56, ty57, ty58, ty59, ty60, ty61, ty62, ty63, ty64, ty65, ty66, ty67, ty68, ty69, ty70, ty71, ty72, ty73, ty74, ty75, ty76, ty77, ty78, ty79⟩
theorem tys2 : (szOf Tryz.prog 25 = some 2) ∧ (aggOf Tryz.prog 25 = some true) ∧ (strOf Tryz.prog 25 = false) ∧ (isSlice Tryz.prog 25 = false) ∧ (isBool Tryz.prog 25 = false) ∧ (intOf' Tryz.prog 25 = none) ∧ (elemOf Tryz.prog 25 = none) ∧ (zeroOf Tryz.prog 25 = some (.agg #[.slice none 0 0, .slice none 0 0])) ∧ (fldOf Tryz.prog 25 0 = some (0, 22)) ∧ (fldOf Tryz.prog 25 1 = some (1, 23)) ∧ (placesOf Tryz.prog 25 = some [(0, 1), (1, 1)]) ∧ (szOf Tryz.prog 27 = some 1) ∧ (aggOf Tryz.prog 27 = some false) ∧ (strOf Tryz.prog 27 = false) ∧ (isSlice Tryz.prog 27 = true) ∧ (isBool Tryz.prog 27 = false) ∧ (intOf' Tryz.prog 27 = none) ∧ (elemOf Tryz.prog 27 = some 59) ∧ (zeroOf Tryz.prog 27 = some (.slice none 0 0)) ∧ (elOf Tryz.prog 27 = some (59, 5, 56, [.int .i64 0, .int .i64 0, .int .i64 0, .int .i64 0, .slice none 0 0])) ∧ (szOf Tryz.prog 29 = some 2) ∧ (aggOf Tryz.prog 29 = some true) ∧ (strOf Tryz.prog 29 = false) ∧ (isSlice Tryz.prog 29 = false) ∧ (isBool Tryz.prog 29 = false) ∧ (intOf' Tryz.prog 29 = none) ∧ (elemOf Tryz.prog 29 = none) ∧ (zeroOf Tryz.prog 29 = some (.agg #[.slice none 0 0, .slice none 0 0])) ∧ (fldOf Tryz.prog 29 0 = some (0, 27)) ∧ (fldOf Tryz.prog 29 1 = some (1, 23)) ∧ (placesOf Tryz.prog 29 = some [(0, 1), (1, 1)]) ∧ (szOf Tryz.prog 40 = some 1) ∧ (aggOf Tryz.prog 40 = some false) ∧ (strOf Tryz.prog 40 = false) ∧ (isSlice Tryz.prog 40 = true) ∧ (isBool Tryz.prog 40 = false) ∧ (intOf' Tryz.prog 40 = none) ∧ (elemOf Tryz.prog 40 = some 86) ∧ (zeroOf Tryz.prog 40 = some (.slice none 0 0)) ∧ (elOf Tryz.prog 40 = some (86, 4, 48, [.string ⟨#[]⟩, .int .i64 0, .string ⟨#[]⟩, .int .i64 0])) := ⟨ty80, ty81, ty82, ty83, ty84, ty85, ty86, ty87, ty88, ty89, ty90, ty91, ty92, ty93, ty94, ty95, ty96, ty97, ty98, ty99, ty100, ty101, ty102, ty103, ty104, ty105, ty106, ty107, ty108, ty109, ty110, ty111, ty112, ty113, ty114, ty115, ty116, ty117, ty118, ty119⟩
theorem tys3 : (szOf Tryz.prog 42 = some 1) ∧ (aggOf Tryz.prog 42 = some true) ∧ (strOf Tryz.prog 42 = false) ∧ (isSlice Tryz.prog 42 = false) ∧ (isBool Tryz.prog 42 = false) ∧ (intOf' Tryz.prog 42 = none) ∧ (elemOf Tryz.prog 42 = none) ∧ (zeroOf Tryz.prog 42 = some (.agg #[.slice none 0 0])) ∧ (fldOf Tryz.prog 42 0 = some (0, 40)) ∧ (placesOf Tryz.prog 42 = some [(0, 1)]) ∧ (szOf Tryz.prog 57 = some 1) ∧ (aggOf Tryz.prog 57 = some false) ∧ (strOf Tryz.prog 57 = false) ∧ (isSlice Tryz.prog 57 = true) ∧ (isBool Tryz.prog 57 = false) ∧ (intOf' Tryz.prog 57 = none) ∧ (elemOf Tryz.prog 57 = some 3) ∧ (zeroOf Tryz.prog 57 = some (.slice none 0 0)) ∧ (elOf Tryz.prog 57 = some (3, 1, 8, [.int .i64 0])) ∧ (szOf Tryz.prog 59 = some 5) ∧ (aggOf Tryz.prog 59 = some true) ∧ (strOf Tryz.prog 59 = false) ∧ (isSlice Tryz.prog 59 = false) ∧ (isBool Tryz.prog 59 = false) ∧ (intOf' Tryz.prog 59 = none) ∧ (elemOf Tryz.prog 59 = none) ∧ (zeroOf Tryz.prog 59 = some (.agg #[.int .i64 0, .int .i64 0, .int .i64 0, .int .i64 0, .slice none 0 0])) ∧ (fldOf Tryz.prog 59 0 = some (0, 3)) ∧ (fldOf Tryz.prog 59 1 = some (1, 3)) ∧ (fldOf Tryz.prog 59 2 = some (2, 3)) ∧ (fldOf Tryz.prog 59 3 = some (3, 3)) ∧ (fldOf Tryz.prog 59 4 = some (4, 57)) ∧ (placesOf Tryz.prog 59 = some [(0, 1), (1, 1), (2, 1), (3, 1), (4, 1)]) ∧ (szOf Tryz.prog 86 = some 4) ∧ (aggOf Tryz.prog 86 = some true) ∧ (strOf Tryz.prog 86 = false) ∧ (isSlice Tryz.prog 86 = false) ∧ (isBool Tryz.prog 86 = false) ∧ (intOf' Tryz.prog 86 = none) ∧ (elemOf Tryz.prog 86 = none) := ⟨ty120, ty121, ty122, ty123, ty124, ty125, ty126, ty127, ty128, ty129, ty130, ty131, ty132, ty133, ty134, ty135, ty136, ty137, ty138, ty139, ty140, ty141, ty142, ty143, ty144, ty145, ty146, ty147, ty148, ty149, ty150, ty151, ty152, ty153, ty154, ty155, ty156, ty157, ty158, ty159⟩
theorem tys4 : (zeroOf Tryz.prog 86 = some (.agg #[.string ⟨#[]⟩, .int .i64 0, .string ⟨#[]⟩, .int .i64 0])) ∧ (fldOf Tryz.prog 86 0 = some (0, 9)) ∧ (fldOf Tryz.prog 86 1 = some (1, 3)) ∧ (fldOf Tryz.prog 86 2 = some (2, 9)) ∧ (fldOf Tryz.prog 86 3 = some (3, 3)) ∧ (placesOf Tryz.prog 86 = some [(0, 1), (1, 1), (2, 1), (3, 1)]) ∧ (eqKs Tryz.prog 86 = some [.str, .int, .str, .int]) ∧ (szOf Tryz.prog 93 = some 5) ∧ (aggOf Tryz.prog 93 = some true) ∧ (strOf Tryz.prog 93 = false) ∧ (isSlice Tryz.prog 93 = false) ∧ (isBool Tryz.prog 93 = false) ∧ (intOf' Tryz.prog 93 = none) ∧ (elemOf Tryz.prog 93 = none) ∧ (zeroOf Tryz.prog 93 = some (.agg #[.int .i64 0, .int .i64 0, .int .i64 0, .int .i64 0, .slice none 0 0])) ∧ (fldOf Tryz.prog 93 0 = some (0, 3)) ∧ (fldOf Tryz.prog 93 1 = some (1, 3)) ∧ (fldOf Tryz.prog 93 2 = some (2, 3)) ∧ (fldOf Tryz.prog 93 3 = some (3, 3)) ∧ (fldOf Tryz.prog 93 4 = some (4, 57)) ∧ (placesOf Tryz.prog 93 = some [(0, 1), (1, 1), (2, 1), (3, 1), (4, 1)]) ∧ (szOf Tryz.prog 97 = some 1) ∧ (aggOf Tryz.prog 97 = some false) ∧ (strOf Tryz.prog 97 = false) ∧ (isSlice Tryz.prog 97 = true) ∧ (isBool Tryz.prog 97 = false) ∧ (intOf' Tryz.prog 97 = none) ∧ (elemOf Tryz.prog 97 = some 119) ∧ (zeroOf Tryz.prog 97 = some (.slice none 0 0)) ∧ (elOf Tryz.prog 97 = some (119, 2, 24, [.string ⟨#[]⟩, .int .i64 0])) ∧ (szOf Tryz.prog 105 = some 1) ∧ (aggOf Tryz.prog 105 = some false) ∧ (szOf Tryz.prog 119 = some 2) ∧ (aggOf Tryz.prog 119 = some true) ∧ (strOf Tryz.prog 119 = false) ∧ (isSlice Tryz.prog 119 = false) ∧ (isBool Tryz.prog 119 = false) ∧ (intOf' Tryz.prog 119 = none) ∧ (elemOf Tryz.prog 119 = none) ∧ (zeroOf Tryz.prog 119 = some (.agg #[.string ⟨#[]⟩, .int .i64 0])) := ⟨ty160, ty161, ty162, ty163, ty164, ty165, ty166, ty167, ty168, ty169, ty170, ty171, ty172, ty173, ty174, ty175, ty176, ty177, ty178, ty179, ty180, ty181, ty182, ty183, ty184, ty185, ty186, ty187, ty188, ty189, ty190, ty191, ty192, ty193, ty194, ty195, ty196, ty197, ty198, ty199⟩
theorem tys5 : (fldOf Tryz.prog 119 0 = some (0, 9)) ∧ (fldOf Tryz.prog 119 1 = some (1, 3)) ∧ (placesOf Tryz.prog 119 = some [(0, 1), (1, 1)]) ∧ (eqKs Tryz.prog 119 = some [.str, .int]) ∧ (szOf Tryz.prog 125 = some 1) ∧ (aggOf Tryz.prog 125 = some false) ∧ (strOf Tryz.prog 125 = false) ∧ (isSlice Tryz.prog 125 = false) ∧ (isBool Tryz.prog 125 = false) ∧ (intOf' Tryz.prog 125 = some .u64) ∧ (elemOf Tryz.prog 125 = none) ∧ (zeroOf Tryz.prog 125 = some (.int .u64 0)) ∧ (szOf Tryz.prog 134 = some 1) ∧ (aggOf Tryz.prog 134 = some false) ∧ (strOf Tryz.prog 134 = false) ∧ (isSlice Tryz.prog 134 = true) ∧ (isBool Tryz.prog 134 = false) ∧ (intOf' Tryz.prog 134 = none) ∧ (elemOf Tryz.prog 134 = some 5) ∧ (zeroOf Tryz.prog 134 = some (.slice none 0 0)) ∧ (elOf Tryz.prog 134 = some (5, 1, 1, [.int .u8 0])) ∧ (szOf Tryz.prog 151 = some 1) ∧ (aggOf Tryz.prog 151 = some false) ∧ (strOf Tryz.prog 151 = false) ∧ (isSlice Tryz.prog 151 = false) ∧ (isBool Tryz.prog 151 = false) ∧ (intOf' Tryz.prog 151 = some .u32) ∧ (elemOf Tryz.prog 151 = none) ∧ (zeroOf Tryz.prog 151 = some (.int .u32 0)) ∧ (szOf Tryz.prog 153 = some 1) ∧ (aggOf Tryz.prog 153 = some false) ∧ (strOf Tryz.prog 153 = false) ∧ (isSlice Tryz.prog 153 = false) ∧ (isBool Tryz.prog 153 = false) ∧ (intOf' Tryz.prog 153 = some .u64) ∧ (elemOf Tryz.prog 153 = none) ∧ (zeroOf Tryz.prog 153 = some (.int .u64 0)) ∧ (szOf Tryz.prog 165 = some 1) ∧ (aggOf Tryz.prog 165 = some false) ∧ (szOf Tryz.prog 178 = some 1) := ⟨ty200, ty201, ty202, ty203, ty204, ty205, ty206, ty207, ty208, ty209, ty210, ty211, ty212, ty213, ty214, ty215, ty216, ty217, ty218, ty219, ty220, ty221, ty222, ty223, ty224, ty225, ty226, ty227, ty228, ty229, ty230, ty231, ty232, ty233, ty234, ty235, ty236, ty237, ty238, ty239⟩
theorem tys6 : (aggOf Tryz.prog 178 = some false) ∧ (szOf Tryz.prog 187 = some 1) ∧ (aggOf Tryz.prog 187 = some false) ∧ (szOf Tryz.prog 188 = some 1) ∧ (aggOf Tryz.prog 188 = some false) := ⟨ty240, ty241, ty242, ty243, ty244⟩
theorem TY : ((szOf Tryz.prog 2 = some 1) ∧ (aggOf Tryz.prog 2 = some false) ∧ (strOf Tryz.prog 2 = false) ∧ (isSlice Tryz.prog 2 = false) ∧ (isBool Tryz.prog 2 = false) ∧ (intOf' Tryz.prog 2 = some .i64) ∧ (elemOf Tryz.prog 2 = none) ∧ (zeroOf Tryz.prog 2 = some (.int .i64 0)) ∧ (szOf Tryz.prog 3 = some 1) ∧ (aggOf Tryz.prog 3 = some false) ∧ (strOf Tryz.prog 3 = false) ∧ (isSlice Tryz.prog 3 = false) ∧ (isBool Tryz.prog 3 = false) ∧ (intOf' Tryz.prog 3 = some .i64) ∧ (elemOf Tryz.prog 3 = none) ∧ (zeroOf Tryz.prog 3 = some (.int .i64 0)) ∧ (szOf Tryz.prog 4 = some 1) ∧ (aggOf Tryz.prog 4 = some false) ∧ (strOf Tryz.prog 4 = false) ∧ (isSlice Tryz.prog 4 = false) ∧ (isBool Tryz.prog 4 = true) ∧ (intOf' Tryz.prog 4 = none) ∧ (elemOf Tryz.prog 4 = none) ∧ (zeroOf Tryz.prog 4 = some (.bool false)) ∧ (szOf Tryz.prog 5 = some 1) ∧ (aggOf Tryz.prog 5 = some false) ∧ (strOf Tryz.prog 5 = false) ∧ (isSlice Tryz.prog 5 = false) ∧ (isBool Tryz.prog 5 = false) ∧ (intOf' Tryz.prog 5 = some .u8) ∧ (elemOf Tryz.prog 5 = none) ∧ (zeroOf Tryz.prog 5 = some (.int .u8 0)) ∧ (szOf Tryz.prog 9 = some 1) ∧ (aggOf Tryz.prog 9 = some false) ∧ (strOf Tryz.prog 9 = true) ∧ (isSlice Tryz.prog 9 = false) ∧ (isBool Tryz.prog 9 = false) ∧ (intOf' Tryz.prog 9 = none) ∧ (elemOf Tryz.prog 9 = none) ∧ (zeroOf Tryz.prog 9 = some (.string ⟨#[]⟩))) ∧ ((szOf Tryz.prog 12 = some 1) ∧ (aggOf Tryz.prog 12 = some false) ∧ (strOf Tryz.prog 12 = false) ∧ (isSlice Tryz.prog 12 = false) ∧ (isBool Tryz.prog 12 = false) ∧ (intOf' Tryz.prog 12 = some .u64) ∧ (elemOf Tryz.prog 12 = none) ∧ (zeroOf Tryz.prog 12 = some (.int .u64 0)) ∧ (szOf Tryz.prog 15 = some 1) ∧ (aggOf Tryz.prog 15 = some false) ∧ (szOf Tryz.prog 16 = some 1) ∧ (aggOf Tryz.prog 16 = some false) ∧ (szOf Tryz.prog 17 = some 1) ∧ (aggOf Tryz.prog 17 = some false) ∧ (szOf Tryz.prog 21 = some 1) ∧ (aggOf Tryz.prog 21 = some false) ∧ (strOf Tryz.prog 21 = false) ∧ (isSlice Tryz.prog 21 = false) ∧ (isBool Tryz.prog 21 = false) ∧ (intOf' Tryz.prog 21 = some .i32) ∧ (elemOf Tryz.prog 21 = none) ∧ (zeroOf Tryz.prog 21 = some (.int .i32 0)) ∧ (szOf Tryz.prog 22 = some 1) ∧ (aggOf Tryz.prog 22 = some false) ∧ (strOf Tryz.prog 22 = false) ∧ (isSlice Tryz.prog 22 = true) ∧ (isBool Tryz.prog 22 = false) ∧ (intOf' Tryz.prog 22 = none) ∧ (elemOf Tryz.prog 22 = some 93) ∧ (zeroOf Tryz.prog 22 = some (.slice none 0 0)) ∧ (elOf Tryz.prog 22 = some (93, 5, 56, [.int .i64 0, .int .i64 0, .int .i64 0, .int .i64 0, .slice none 0 0])) ∧ (szOf Tryz.prog 23 = some 1) ∧ (aggOf Tryz.prog 23 = some false) ∧ (strOf Tryz.prog 23 = false) ∧ (isSlice Tryz.prog 23 = true) ∧ (isBool Tryz.prog 23 = false) ∧ (intOf' Tryz.prog 23 = none) ∧ (elemOf Tryz.prog 23 = some 9) ∧ (zeroOf Tryz.prog 23 = some (.slice none 0 0)) ∧ (elOf Tryz.prog 23 = some (9, 1, 16, [.string ⟨#[]⟩]))) ∧ ((szOf Tryz.prog 25 = some 2) ∧ (aggOf Tryz.prog 25 = some true) ∧ (strOf Tryz.prog 25 = false) ∧ (isSlice Tryz.prog 25 = false) ∧ (isBool Tryz.prog 25 = false) ∧ (intOf' Tryz.prog 25 = none) ∧ (elemOf Tryz.prog 25 = none) ∧ (zeroOf Tryz.prog 25 = some (.agg #[.slice none 0 0, .slice none 0 0])) ∧ (fldOf Tryz.prog 25 0 = some (0, 22)) ∧ (fldOf Tryz.prog 25 1 = some (1, 23)) ∧ (placesOf Tryz.prog 25 = some [(0, 1), (1, 1)]) ∧ (szOf Tryz.prog 27 = some 1) ∧ (aggOf Tryz.prog 27 = some false) ∧ (strOf Tryz.prog 27 = false) ∧ (isSlice Tryz.prog 27 = true) ∧ (isBool Tryz.prog 27 = false) ∧ (intOf' Tryz.prog 27 = none) ∧ (elemOf Tryz.prog 27 = some 59) ∧ (zeroOf Tryz.prog 27 = some (.slice none 0 0)) ∧ (elOf Tryz.prog 27 = some (59, 5, 56, [.int .i64 0, .int .i64 0, .int .i64 0, .int .i64 0, .slice none 0 0])) ∧ (szOf Tryz.prog 29 = some 2) ∧ (aggOf Tryz.prog 29 = some true) ∧ (strOf Tryz.prog 29 = false) ∧ (isSlice Tryz.prog 29 = false) ∧ (isBool Tryz.prog 29 = false) ∧ (intOf' Tryz.prog 29 = none) ∧ (elemOf Tryz.prog 29 = none) ∧ (zeroOf Tryz.prog 29 = some (.agg #[.slice none 0 0, .slice none 0 0])) ∧ (fldOf Tryz.prog 29 0 = some (0, 27)) ∧ (fldOf Tryz.prog 29 1 = some (1, 23)) ∧ (placesOf Tryz.prog 29 = some [(0, 1), (1, 1)]) ∧ (szOf Tryz.prog 40 = some 1) ∧ (aggOf Tryz.prog 40 = some false) ∧ (strOf Tryz.prog 40 = false) ∧ (isSlice Tryz.prog 40 = true) ∧ (isBool Tryz.prog 40 = false) ∧ (intOf' Tryz.prog 40 = none) ∧ (elemOf Tryz.prog 40 = some 86) ∧ (zeroOf Tryz.prog 40 = some (.slice none 0 0)) ∧ (elOf Tryz.prog 40 = some (86, 4, 48, [.string ⟨#[]⟩, .int .i64 0, .string ⟨#[]⟩, .int .i64 0]))) ∧ ((szOf Tryz.prog 42 = some 1) ∧ (aggOf Tryz.prog 42 = some true) ∧ (strOf Tryz.prog 42 = false) ∧ (isSlice Tryz.prog 42 = false) ∧ (isBool Tryz.prog 42 = false) ∧ (intOf' Tryz.prog 42 = none) ∧ (elemOf Tryz.prog 42 = none) ∧ (zeroOf Tryz.prog 42 = some (.agg #[.slice none 0 0])) ∧ (fldOf Tryz.prog 42 0 = some (0, 40)) ∧ (placesOf Tryz.prog 42 = some [(0, 1)]) ∧ (szOf Tryz.prog 57 = some 1) ∧ (aggOf Tryz.prog 57 = some false) ∧ (strOf Tryz.prog 57 = false) ∧ (isSlice Tryz.prog 57 = true) ∧ (isBool Tryz.prog 57 = false) ∧ (intOf' Tryz.prog 57 = none) ∧ (elemOf Tryz.prog 57 = some 3) ∧ (zeroOf Tryz.prog 57 = some (.slice none 0 0)) ∧ (elOf Tryz.prog 57 = some (3, 1, 8, [.int .i64 0])) ∧ (szOf Tryz.prog 59 = some 5) ∧ (aggOf Tryz.prog 59 = some true) ∧ (strOf Tryz.prog 59 = false) ∧ (isSlice Tryz.prog 59 = false) ∧ (isBool Tryz.prog 59 = false) ∧ (intOf' Tryz.prog 59 = none) ∧ (elemOf Tryz.prog 59 = none) ∧ (zeroOf Tryz.prog 59 = some (.agg #[.int .i64 0, .int .i64 0, .int .i64 0, .int .i64 0, .slice none 0 0])) ∧ (fldOf Tryz.prog 59 0 = some (0, 3)) ∧ (fldOf Tryz.prog 59 1 = some (1, 3)) ∧ (fldOf Tryz.prog 59 2 = some (2, 3)) ∧ (fldOf Tryz.prog 59 3 = some (3, 3)) ∧ (fldOf Tryz.prog 59 4 = some (4, 57)) ∧ (placesOf Tryz.prog 59 = some [(0, 1), (1, 1), (2, 1), (3, 1), (4, 1)]) ∧ (szOf Tryz.prog 86 = some 4) ∧ (aggOf Tryz.prog 86 = some true) ∧ (strOf Tryz.prog 86 = false) ∧ (isSlice Tryz.prog 86 = false) ∧ (isBool Tryz.prog 86 = false) ∧ (intOf' Tryz.prog 86 = none) ∧ (elemOf Tryz.prog 86 = none)) ∧ ((zeroOf Tryz.prog 86 = some (.agg #[.string ⟨#[]⟩, .int .i64 0, .string ⟨#[]⟩, .int .i64 0])) ∧ (fldOf Tryz.prog 86 0 = some (0, 9)) ∧ (fldOf Tryz.prog 86 1 = some (1, 3)) ∧ (fldOf Tryz.prog 86 2 = some (2, 9)) ∧ (fldOf Tryz.prog 86 3 = some (3, 3)) ∧ (placesOf Tryz.prog 86 = some [(0, 1), (1, 1), (2, 1), (3, 1)]) ∧ (eqKs Tryz.prog 86 = some [.str, .int, .str, .int]) ∧ (szOf Tryz.prog 93 = some 5) ∧ (aggOf Tryz.prog 93 = some true) ∧ (strOf Tryz.prog 93 = false) ∧ (isSlice Tryz.prog 93 = false) ∧ (isBool Tryz.prog 93 = false) ∧ (intOf' Tryz.prog 93 = none) ∧ (elemOf Tryz.prog 93 = none) ∧ (zeroOf Tryz.prog 93 = some (.agg #[.int .i64 0, .int .i64 0, .int .i64 0, .int .i64 0, .slice none 0 0])) ∧ (fldOf Tryz.prog 93 0 = some (0, 3)) ∧ (fldOf Tryz.prog 93 1 = some (1, 3)) ∧ (fldOf Tryz.prog 93 2 = some (2, 3)) ∧ (fldOf Tryz.prog 93 3 = some (3, 3)) ∧ (fldOf Tryz.prog 93 4 = some (4, 57)) ∧ (placesOf Tryz.prog 93 = some [(0, 1), (1, 1), (2, 1), (3, 1), (4, 1)]) ∧ (szOf Tryz.prog 97 = some 1) ∧ (aggOf Tryz.prog 97 = some false) ∧ (strOf Tryz.prog 97 = false) ∧ (isSlice Tryz.prog 97 = true) ∧ (isBool Tryz.prog 97 = false) ∧ (intOf' Tryz.prog 97 = none) ∧ (elemOf Tryz.prog 97 = some 119) ∧ (zeroOf Tryz.prog 97 = some (.slice none 0 0)) ∧ (elOf Tryz.prog 97 = some (119, 2, 24, [.string ⟨#[]⟩, .int .i64 0])) ∧ (szOf Tryz.prog 105 = some 1) ∧ (aggOf Tryz.prog 105 = some false) ∧ (szOf Tryz.prog 119 = some 2) ∧ (aggOf Tryz.prog 119 = some true) ∧ (strOf Tryz.prog 119 = false) ∧ (isSlice Tryz.prog 119 = false) ∧ (isBool Tryz.prog 119 = false) ∧ (intOf' Tryz.prog 119 = none) ∧ (elemOf Tryz.prog 119 = none) ∧ (zeroOf Tryz.prog 119 = some (.agg #[.string ⟨#[]⟩, .int .i64 0]))) ∧ ((fldOf Tryz.prog 119 0 = some (0, 9)) ∧ (fldOf Tryz.prog 119 1 = some (1, 3)) ∧ (placesOf Tryz.prog 119 = some [(0, 1), (1, 1)]) ∧ (eqKs Tryz.prog 119 = some [.str, .int]) ∧ (szOf Tryz.prog 125 = some 1) ∧ (aggOf Tryz.prog 125 = some false) ∧ (strOf Tryz.prog 125 = false) ∧ (isSlice Tryz.prog 125 = false) ∧ (isBool Tryz.prog 125 = false) ∧ (intOf' Tryz.prog 125 = some .u64) ∧ (elemOf Tryz.prog 125 = none) ∧ (zeroOf Tryz.prog 125 = some (.int .u64 0)) ∧ (szOf Tryz.prog 134 = some 1) ∧ (aggOf Tryz.prog 134 = some false) ∧ (strOf Tryz.prog 134 = false) ∧ (isSlice Tryz.prog 134 = true) ∧ (isBool Tryz.prog 134 = false) ∧ (intOf' Tryz.prog 134 = none) ∧ (elemOf Tryz.prog 134 = some 5) ∧ (zeroOf Tryz.prog 134 = some (.slice none 0 0)) ∧ (elOf Tryz.prog 134 = some (5, 1, 1, [.int .u8 0])) ∧ (szOf Tryz.prog 151 = some 1) ∧ (aggOf Tryz.prog 151 = some false) ∧ (strOf Tryz.prog 151 = false) ∧ (isSlice Tryz.prog 151 = false) ∧ (isBool Tryz.prog 151 = false) ∧ (intOf' Tryz.prog 151 = some .u32) ∧ (elemOf Tryz.prog 151 = none) ∧ (zeroOf Tryz.prog 151 = some (.int .u32 0)) ∧ (szOf Tryz.prog 153 = some 1) ∧ (aggOf Tryz.prog 153 = some false) ∧ (strOf Tryz.prog 153 = false) ∧ (isSlice Tryz.prog 153 = false) ∧ (isBool Tryz.prog 153 = false) ∧ (intOf' Tryz.prog 153 = some .u64) ∧ (elemOf Tryz.prog 153 = none) ∧ (zeroOf Tryz.prog 153 = some (.int .u64 0)) ∧ (szOf Tryz.prog 165 = some 1) ∧ (aggOf Tryz.prog 165 = some false) ∧ (szOf Tryz.prog 178 = some 1)) ∧ ((aggOf Tryz.prog 178 = some false) ∧ (szOf Tryz.prog 187 = some 1) ∧ (aggOf Tryz.prog 187 = some false) ∧ (szOf Tryz.prog 188 = some 1) ∧ (aggOf Tryz.prog 188 = some false)) := ⟨tys0, tys1, tys2, tys3, tys4, tys5, tys6⟩
theorem mixed : Tryz.prog.follows .mixedOrders = true := by kernel_rfl
attribute [simp] TY
end Go.Proofs.YtccpaikdmncidaaGreat.Hz
