/- What the calculus asks of the types, each fact by the kernel. Written by facts.py. -/
import Derived.Test.YtkphpalagceobaaGreatHyGBb
import Derived.Test.YtkphpalagceobaaGreatProg
namespace Go.Proofs.YtkphpalagceobaaGreat.Hz
theorem ty0 : szOf Tryz.prog 2 = some 1 := by kernel_rfl
theorem ty1 : aggOf Tryz.prog 2 = some false := by kernel_rfl
theorem ty2 : strOf Tryz.prog 2 = false := by kernel_rfl
theorem ty3 : isSlice Tryz.prog 2 = false := by kernel_rfl
theorem ty4 : isBool Tryz.prog 2 = false := by kernel_rfl
theorem ty5 : intOf' Tryz.prog 2 = some .i64 := by kernel_rfl
theorem ty6 : elemOf Tryz.prog 2 = none := by kernel_rfl
theorem ty7 : zeroOf Tryz.prog 2 = some (.int .i64 0) := by kernel_rfl
theorem ty8 : szOf Tryz.prog 3 = some 1 := by kernel_rfl
theorem ty9 : aggOf Tryz.prog 3 = some false := by kernel_rfl
theorem ty10 : strOf Tryz.prog 3 = false := by kernel_rfl
theorem ty11 : isSlice Tryz.prog 3 = false := by kernel_rfl
theorem ty12 : isBool Tryz.prog 3 = false := by kernel_rfl
theorem ty13 : intOf' Tryz.prog 3 = some .i64 := by kernel_rfl
theorem ty14 : elemOf Tryz.prog 3 = none := by kernel_rfl
theorem ty15 : zeroOf Tryz.prog 3 = some (.int .i64 0) := by kernel_rfl
theorem ty16 : szOf Tryz.prog 4 = some 1 := by kernel_rfl
theorem ty17 : aggOf Tryz.prog 4 = some false := by kernel_rfl
theorem ty18 : strOf Tryz.prog 4 = false := by kernel_rfl
theorem ty19 : isSlice Tryz.prog 4 = false := by kernel_rfl
theorem ty20 : isBool Tryz.prog 4 = true := by kernel_rfl
theorem ty21 : intOf' Tryz.prog 4 = none := by kernel_rfl
theorem ty22 : elemOf Tryz.prog 4 = none := by kernel_rfl
theorem ty23 : zeroOf Tryz.prog 4 = some (.bool false) := by kernel_rfl
theorem ty24 : szOf Tryz.prog 5 = some 1 := by kernel_rfl
theorem ty25 : aggOf Tryz.prog 5 = some false := by kernel_rfl
theorem ty26 : strOf Tryz.prog 5 = false := by kernel_rfl
theorem ty27 : isSlice Tryz.prog 5 = false := by kernel_rfl
theorem ty28 : isBool Tryz.prog 5 = false := by kernel_rfl
theorem ty29 : intOf' Tryz.prog 5 = some .u8 := by kernel_rfl
theorem ty30 : elemOf Tryz.prog 5 = none := by kernel_rfl
theorem ty31 : zeroOf Tryz.prog 5 = some (.int .u8 0) := by kernel_rfl
theorem ty32 : szOf Tryz.prog 9 = some 1 := by kernel_rfl
theorem ty33 : aggOf Tryz.prog 9 = some false := by kernel_rfl
theorem ty34 : strOf Tryz.prog 9 = true := by kernel_rfl
theorem ty35 : isSlice Tryz.prog 9 = false := by kernel_rfl
theorem ty36 : isBool Tryz.prog 9 = false := by kernel_rfl
theorem ty37 : intOf' Tryz.prog 9 = none := by kernel_rfl
theorem ty38 : elemOf Tryz.prog 9 = none := by kernel_rfl
theorem ty39 : zeroOf Tryz.prog 9 = some (.string ⟨#[]⟩) := by kernel_rfl
theorem ty40 : szOf Tryz.prog 12 = some 1 := by kernel_rfl
theorem ty41 : aggOf Tryz.prog 12 = some false := by kernel_rfl
theorem ty42 : strOf Tryz.prog 12 = false := by kernel_rfl
theorem ty43 : isSlice Tryz.prog 12 = false := by kernel_rfl
theorem ty44 : isBool Tryz.prog 12 = false := by kernel_rfl
theorem ty45 : intOf' Tryz.prog 12 = some .u64 := by kernel_rfl
theorem ty46 : elemOf Tryz.prog 12 = none := by kernel_rfl
theorem ty47 : zeroOf Tryz.prog 12 = some (.int .u64 0) := by kernel_rfl
theorem ty48 : szOf Tryz.prog 15 = some 1 := by kernel_rfl
theorem ty49 : aggOf Tryz.prog 15 = some false := by kernel_rfl
theorem ty50 : szOf Tryz.prog 16 = some 1 := by kernel_rfl
theorem ty51 : aggOf Tryz.prog 16 = some false := by kernel_rfl
theorem ty52 : szOf Tryz.prog 17 = some 1 := by kernel_rfl
theorem ty53 : aggOf Tryz.prog 17 = some false := by kernel_rfl
theorem ty54 : szOf Tryz.prog 21 = some 1 := by kernel_rfl
theorem ty55 : aggOf Tryz.prog 21 = some false := by kernel_rfl
theorem ty56 : strOf Tryz.prog 21 = false := by kernel_rfl
theorem ty57 : isSlice Tryz.prog 21 = false := by kernel_rfl
theorem ty58 : isBool Tryz.prog 21 = false := by kernel_rfl
theorem ty59 : intOf' Tryz.prog 21 = some .i32 := by kernel_rfl
theorem ty60 : elemOf Tryz.prog 21 = none := by kernel_rfl
theorem ty61 : zeroOf Tryz.prog 21 = some (.int .i32 0) := by kernel_rfl
theorem ty62 : szOf Tryz.prog 22 = some 1 := by kernel_rfl
theorem ty63 : aggOf Tryz.prog 22 = some false := by kernel_rfl
theorem ty64 : strOf Tryz.prog 22 = false := by kernel_rfl
theorem ty65 : isSlice Tryz.prog 22 = true := by kernel_rfl
theorem ty66 : isBool Tryz.prog 22 = false := by kernel_rfl
theorem ty67 : intOf' Tryz.prog 22 = none := by kernel_rfl
theorem ty68 : elemOf Tryz.prog 22 = some 5 := by kernel_rfl
theorem ty69 : zeroOf Tryz.prog 22 = some (.slice none 0 0) := by kernel_rfl
theorem ty70 : elOf Tryz.prog 22 = some (5, 1, 1, [.int .u8 0]) := by kernel_rfl
theorem ty71 : szOf Tryz.prog 24 = some 1 := by kernel_rfl
theorem ty72 : aggOf Tryz.prog 24 = some false := by kernel_rfl
theorem ty73 : strOf Tryz.prog 24 = false := by kernel_rfl
theorem ty74 : isSlice Tryz.prog 24 = true := by kernel_rfl
theorem ty75 : isBool Tryz.prog 24 = false := by kernel_rfl
theorem ty76 : intOf' Tryz.prog 24 = none := by kernel_rfl
theorem ty77 : elemOf Tryz.prog 24 = some 42 := by kernel_rfl
theorem ty78 : zeroOf Tryz.prog 24 = some (.slice none 0 0) := by kernel_rfl
theorem ty79 : elOf Tryz.prog 24 = some (42, 5, 56, [.int .i64 0, .int .i64 0, .int .i64 0, .int .i64 0, .slice none 0 0]) := by kernel_rfl
theorem ty80 : szOf Tryz.prog 25 = some 1 := by kernel_rfl
theorem ty81 : aggOf Tryz.prog 25 = some false := by kernel_rfl
theorem ty82 : strOf Tryz.prog 25 = false := by kernel_rfl
theorem ty83 : isSlice Tryz.prog 25 = true := by kernel_rfl
theorem ty84 : isBool Tryz.prog 25 = false := by kernel_rfl
theorem ty85 : intOf' Tryz.prog 25 = none := by kernel_rfl
theorem ty86 : elemOf Tryz.prog 25 = some 9 := by kernel_rfl
theorem ty87 : zeroOf Tryz.prog 25 = some (.slice none 0 0) := by kernel_rfl
theorem ty88 : elOf Tryz.prog 25 = some (9, 1, 16, [.string ⟨#[]⟩]) := by kernel_rfl
theorem ty89 : szOf Tryz.prog 27 = some 2 := by kernel_rfl
theorem ty90 : aggOf Tryz.prog 27 = some true := by kernel_rfl
theorem ty91 : strOf Tryz.prog 27 = false := by kernel_rfl
theorem ty92 : isSlice Tryz.prog 27 = false := by kernel_rfl
theorem ty93 : isBool Tryz.prog 27 = false := by kernel_rfl
theorem ty94 : intOf' Tryz.prog 27 = none := by kernel_rfl
theorem ty95 : elemOf Tryz.prog 27 = none := by kernel_rfl
theorem ty96 : zeroOf Tryz.prog 27 = some (.agg #[.slice none 0 0, .slice none 0 0]) := by kernel_rfl
theorem ty97 : fldOf Tryz.prog 27 0 = some (0, 24) := by kernel_rfl
theorem ty98 : fldOf Tryz.prog 27 1 = some (1, 25) := by kernel_rfl
theorem ty99 : placesOf Tryz.prog 27 = some [(0, 1), (1, 1)] := by kernel_rfl
theorem ty100 : szOf Tryz.prog 29 = some 1 := by kernel_rfl
theorem ty101 : aggOf Tryz.prog 29 = some false := by kernel_rfl
theorem ty102 : strOf Tryz.prog 29 = false := by kernel_rfl
theorem ty103 : isSlice Tryz.prog 29 = true := by kernel_rfl
theorem ty104 : isBool Tryz.prog 29 = false := by kernel_rfl
theorem ty105 : intOf' Tryz.prog 29 = none := by kernel_rfl
theorem ty106 : elemOf Tryz.prog 29 = some 37 := by kernel_rfl
theorem ty107 : zeroOf Tryz.prog 29 = some (.slice none 0 0) := by kernel_rfl
theorem ty108 : elOf Tryz.prog 29 = some (37, 4, 48, [.string ⟨#[]⟩, .int .i64 0, .string ⟨#[]⟩, .int .i64 0]) := by kernel_rfl
theorem ty109 : szOf Tryz.prog 31 = some 1 := by kernel_rfl
theorem ty110 : aggOf Tryz.prog 31 = some true := by kernel_rfl
theorem ty111 : strOf Tryz.prog 31 = false := by kernel_rfl
theorem ty112 : isSlice Tryz.prog 31 = false := by kernel_rfl
theorem ty113 : isBool Tryz.prog 31 = false := by kernel_rfl
theorem ty114 : intOf' Tryz.prog 31 = none := by kernel_rfl
theorem ty115 : elemOf Tryz.prog 31 = none := by kernel_rfl
theorem ty116 : zeroOf Tryz.prog 31 = some (.agg #[.slice none 0 0]) := by kernel_rfl
theorem ty117 : fldOf Tryz.prog 31 0 = some (0, 29) := by kernel_rfl
theorem ty118 : placesOf Tryz.prog 31 = some [(0, 1)] := by kernel_rfl
theorem ty119 : szOf Tryz.prog 37 = some 4 := by kernel_rfl
theorem ty120 : aggOf Tryz.prog 37 = some true := by kernel_rfl
theorem ty121 : strOf Tryz.prog 37 = false := by kernel_rfl
theorem ty122 : isSlice Tryz.prog 37 = false := by kernel_rfl
theorem ty123 : isBool Tryz.prog 37 = false := by kernel_rfl
theorem ty124 : intOf' Tryz.prog 37 = none := by kernel_rfl
theorem ty125 : elemOf Tryz.prog 37 = none := by kernel_rfl
theorem ty126 : zeroOf Tryz.prog 37 = some (.agg #[.string ⟨#[]⟩, .int .i64 0, .string ⟨#[]⟩, .int .i64 0]) := by kernel_rfl
theorem ty127 : fldOf Tryz.prog 37 0 = some (0, 9) := by kernel_rfl
theorem ty128 : fldOf Tryz.prog 37 1 = some (1, 3) := by kernel_rfl
theorem ty129 : fldOf Tryz.prog 37 2 = some (2, 9) := by kernel_rfl
theorem ty130 : fldOf Tryz.prog 37 3 = some (3, 3) := by kernel_rfl
theorem ty131 : placesOf Tryz.prog 37 = some [(0, 1), (1, 1), (2, 1), (3, 1)] := by kernel_rfl
theorem ty132 : eqKs Tryz.prog 37 = some [.str, .int, .str, .int] := by kernel_rfl
theorem ty133 : szOf Tryz.prog 40 = some 1 := by kernel_rfl
theorem ty134 : aggOf Tryz.prog 40 = some false := by kernel_rfl
theorem ty135 : strOf Tryz.prog 40 = false := by kernel_rfl
theorem ty136 : isSlice Tryz.prog 40 = true := by kernel_rfl
theorem ty137 : isBool Tryz.prog 40 = false := by kernel_rfl
theorem ty138 : intOf' Tryz.prog 40 = none := by kernel_rfl
theorem ty139 : elemOf Tryz.prog 40 = some 3 := by kernel_rfl
theorem ty140 : zeroOf Tryz.prog 40 = some (.slice none 0 0) := by kernel_rfl
theorem ty141 : elOf Tryz.prog 40 = some (3, 1, 8, [.int .i64 0]) := by kernel_rfl
theorem ty142 : szOf Tryz.prog 42 = some 5 := by kernel_rfl
theorem ty143 : aggOf Tryz.prog 42 = some true := by kernel_rfl
theorem ty144 : strOf Tryz.prog 42 = false := by kernel_rfl
theorem ty145 : isSlice Tryz.prog 42 = false := by kernel_rfl
theorem ty146 : isBool Tryz.prog 42 = false := by kernel_rfl
theorem ty147 : intOf' Tryz.prog 42 = none := by kernel_rfl
theorem ty148 : elemOf Tryz.prog 42 = none := by kernel_rfl
theorem ty149 : zeroOf Tryz.prog 42 = some (.agg #[.int .i64 0, .int .i64 0, .int .i64 0, .int .i64 0, .slice none 0 0]) := by kernel_rfl
theorem ty150 : fldOf Tryz.prog 42 0 = some (0, 3) := by kernel_rfl
theorem ty151 : fldOf Tryz.prog 42 1 = some (1, 3) := by kernel_rfl
theorem ty152 : fldOf Tryz.prog 42 2 = some (2, 3) := by kernel_rfl
theorem ty153 : fldOf Tryz.prog 42 3 = some (3, 3) := by kernel_rfl
theorem ty154 : fldOf Tryz.prog 42 4 = some (4, 40) := by kernel_rfl
theorem ty155 : placesOf Tryz.prog 42 = some [(0, 1), (1, 1), (2, 1), (3, 1), (4, 1)] := by kernel_rfl
theorem ty156 : szOf Tryz.prog 44 = some 1 := by kernel_rfl
theorem ty157 : aggOf Tryz.prog 44 = some false := by kernel_rfl
theorem ty158 : strOf Tryz.prog 44 = false := by kernel_rfl
theorem ty159 : isSlice Tryz.prog 44 = true := by kernel_rfl
theorem ty160 : isBool Tryz.prog 44 = false := by kernel_rfl
theorem ty161 : intOf' Tryz.prog 44 = none := by kernel_rfl
theorem ty162 : elemOf Tryz.prog 44 = some 56 := by kernel_rfl
theorem ty163 : zeroOf Tryz.prog 44 = some (.slice none 0 0) := by kernel_rfl
theorem ty164 : elOf Tryz.prog 44 = some (56, 3, 56, [.int .i64 0, .slice none 0 0, .slice none 0 0]) := by kernel_rfl
theorem ty165 : szOf Tryz.prog 46 = some 7 := by kernel_rfl
theorem ty166 : aggOf Tryz.prog 46 = some true := by kernel_rfl
theorem ty167 : strOf Tryz.prog 46 = false := by kernel_rfl
theorem ty168 : isSlice Tryz.prog 46 = false := by kernel_rfl
theorem ty169 : isBool Tryz.prog 46 = false := by kernel_rfl
theorem ty170 : intOf' Tryz.prog 46 = none := by kernel_rfl
theorem ty171 : elemOf Tryz.prog 46 = none := by kernel_rfl
theorem ty172 : zeroOf Tryz.prog 46 = some (.agg #[.bool false, .bool false, .int .i64 0, .int .i64 0, .string ⟨#[]⟩, .int .i64 0, .int .i64 0]) := by kernel_rfl
theorem ty173 : fldOf Tryz.prog 46 0 = some (0, 4) := by kernel_rfl
theorem ty174 : fldOf Tryz.prog 46 1 = some (1, 4) := by kernel_rfl
theorem ty175 : fldOf Tryz.prog 46 2 = some (2, 3) := by kernel_rfl
theorem ty176 : fldOf Tryz.prog 46 3 = some (3, 3) := by kernel_rfl
theorem ty177 : fldOf Tryz.prog 46 4 = some (4, 9) := by kernel_rfl
theorem ty178 : fldOf Tryz.prog 46 5 = some (5, 3) := by kernel_rfl
theorem ty179 : fldOf Tryz.prog 46 6 = some (6, 3) := by kernel_rfl
theorem ty180 : placesOf Tryz.prog 46 = some [(0, 1), (1, 1), (2, 1), (3, 1), (4, 1), (5, 1), (6, 1)] := by kernel_rfl
theorem ty181 : eqKs Tryz.prog 46 = some [.bool, .bool, .int, .int, .str, .int, .int] := by kernel_rfl
theorem ty182 : szOf Tryz.prog 48 = some 10 := by kernel_rfl
theorem ty183 : aggOf Tryz.prog 48 = some true := by kernel_rfl
theorem ty184 : strOf Tryz.prog 48 = false := by kernel_rfl
theorem ty185 : isSlice Tryz.prog 48 = false := by kernel_rfl
theorem ty186 : isBool Tryz.prog 48 = false := by kernel_rfl
theorem ty187 : intOf' Tryz.prog 48 = none := by kernel_rfl
theorem ty188 : elemOf Tryz.prog 48 = none := by kernel_rfl
theorem ty189 : zeroOf Tryz.prog 48 = some (.agg #[.int .i64 0, .int .i64 0, .slice none 0 0, .bool false, .bool false, .int .i64 0, .int .i64 0, .string ⟨#[]⟩, .int .i64 0, .int .i64 0]) := by kernel_rfl
theorem ty190 : fldOf Tryz.prog 48 0 = some (0, 3) := by kernel_rfl
theorem ty191 : fldOf Tryz.prog 48 1 = some (1, 3) := by kernel_rfl
theorem ty192 : fldOf Tryz.prog 48 2 = some (2, 44) := by kernel_rfl
theorem ty193 : fldOf Tryz.prog 48 3 = some (3, 46) := by kernel_rfl
theorem ty194 : placesOf Tryz.prog 48 = some [(0, 1), (1, 1), (2, 1), (3, 7)] := by kernel_rfl
theorem ty195 : szOf Tryz.prog 56 = some 3 := by kernel_rfl
theorem ty196 : aggOf Tryz.prog 56 = some true := by kernel_rfl
theorem ty197 : strOf Tryz.prog 56 = false := by kernel_rfl
theorem ty198 : isSlice Tryz.prog 56 = false := by kernel_rfl
theorem ty199 : isBool Tryz.prog 56 = false := by kernel_rfl
theorem ty200 : intOf' Tryz.prog 56 = none := by kernel_rfl
theorem ty201 : elemOf Tryz.prog 56 = none := by kernel_rfl
theorem ty202 : zeroOf Tryz.prog 56 = some (.agg #[.int .i64 0, .slice none 0 0, .slice none 0 0]) := by kernel_rfl
theorem ty203 : fldOf Tryz.prog 56 0 = some (0, 3) := by kernel_rfl
theorem ty204 : fldOf Tryz.prog 56 1 = some (1, 27) := by kernel_rfl
theorem ty205 : placesOf Tryz.prog 56 = some [(0, 1), (1, 2)] := by kernel_rfl
theorem ty206 : szOf Tryz.prog 82 = some 1 := by kernel_rfl
theorem ty207 : aggOf Tryz.prog 82 = some false := by kernel_rfl
theorem ty208 : szOf Tryz.prog 126 = some 1 := by kernel_rfl
theorem ty209 : aggOf Tryz.prog 126 = some false := by kernel_rfl
theorem ty210 : strOf Tryz.prog 126 = false := by kernel_rfl
theorem ty211 : isSlice Tryz.prog 126 = true := by kernel_rfl
theorem ty212 : isBool Tryz.prog 126 = false := by kernel_rfl
theorem ty213 : intOf' Tryz.prog 126 = none := by kernel_rfl
theorem ty214 : elemOf Tryz.prog 126 = some 134 := by kernel_rfl
theorem ty215 : zeroOf Tryz.prog 126 = some (.slice none 0 0) := by kernel_rfl
theorem ty216 : elOf Tryz.prog 126 = some (134, 2, 24, [.string ⟨#[]⟩, .int .i64 0]) := by kernel_rfl
theorem ty217 : szOf Tryz.prog 130 = some 3 := by kernel_rfl
theorem ty218 : aggOf Tryz.prog 130 = some true := by kernel_rfl
theorem ty219 : strOf Tryz.prog 130 = false := by kernel_rfl
theorem ty220 : isSlice Tryz.prog 130 = false := by kernel_rfl
theorem ty221 : isBool Tryz.prog 130 = false := by kernel_rfl
theorem ty222 : intOf' Tryz.prog 130 = none := by kernel_rfl
theorem ty223 : elemOf Tryz.prog 130 = none := by kernel_rfl
theorem ty224 : zeroOf Tryz.prog 130 = some (.agg #[.slice none 0 0, .int .i64 0, .int .i64 0]) := by kernel_rfl
theorem ty225 : fldOf Tryz.prog 130 0 = some (0, 22) := by kernel_rfl
theorem ty226 : fldOf Tryz.prog 130 1 = some (1, 3) := by kernel_rfl
theorem ty227 : fldOf Tryz.prog 130 2 = some (2, 3) := by kernel_rfl
theorem ty228 : placesOf Tryz.prog 130 = some [(0, 1), (1, 1), (2, 1)] := by kernel_rfl
theorem ty229 : szOf Tryz.prog 134 = some 2 := by kernel_rfl
theorem ty230 : aggOf Tryz.prog 134 = some true := by kernel_rfl
theorem ty231 : strOf Tryz.prog 134 = false := by kernel_rfl
theorem ty232 : isSlice Tryz.prog 134 = false := by kernel_rfl
theorem ty233 : isBool Tryz.prog 134 = false := by kernel_rfl
theorem ty234 : intOf' Tryz.prog 134 = none := by kernel_rfl
theorem ty235 : elemOf Tryz.prog 134 = none := by kernel_rfl
theorem ty236 : zeroOf Tryz.prog 134 = some (.agg #[.string ⟨#[]⟩, .int .i64 0]) := by kernel_rfl
theorem ty237 : fldOf Tryz.prog 134 0 = some (0, 9) := by kernel_rfl
theorem ty238 : fldOf Tryz.prog 134 1 = some (1, 3) := by kernel_rfl
theorem ty239 : placesOf Tryz.prog 134 = some [(0, 1), (1, 1)] := by kernel_rfl
theorem ty240 : eqKs Tryz.prog 134 = some [.str, .int] := by kernel_rfl
theorem ty241 : szOf Tryz.prog 137 = some 1 := by kernel_rfl
theorem ty242 : aggOf Tryz.prog 137 = some false := by kernel_rfl
theorem ty243 : strOf Tryz.prog 137 = false := by kernel_rfl
theorem ty244 : isSlice Tryz.prog 137 = false := by kernel_rfl
theorem ty245 : isBool Tryz.prog 137 = false := by kernel_rfl
theorem ty246 : intOf' Tryz.prog 137 = some .u64 := by kernel_rfl
theorem ty247 : elemOf Tryz.prog 137 = none := by kernel_rfl
theorem ty248 : zeroOf Tryz.prog 137 = some (.int .u64 0) := by kernel_rfl
theorem ty249 : szOf Tryz.prog 157 = some 1 := by kernel_rfl
theorem ty250 : aggOf Tryz.prog 157 = some false := by kernel_rfl
theorem ty251 : szOf Tryz.prog 172 = some 1 := by kernel_rfl
theorem ty252 : aggOf Tryz.prog 172 = some false := by kernel_rfl
theorem ty253 : strOf Tryz.prog 172 = false := by kernel_rfl
theorem ty254 : isSlice Tryz.prog 172 = false := by kernel_rfl
theorem ty255 : isBool Tryz.prog 172 = false := by kernel_rfl
theorem ty256 : intOf' Tryz.prog 172 = some .u32 := by kernel_rfl
theorem ty257 : elemOf Tryz.prog 172 = none := by kernel_rfl
theorem ty258 : zeroOf Tryz.prog 172 = some (.int .u32 0) := by kernel_rfl
theorem ty259 : szOf Tryz.prog 174 = some 1 := by kernel_rfl
theorem ty260 : aggOf Tryz.prog 174 = some false := by kernel_rfl
theorem ty261 : strOf Tryz.prog 174 = false := by kernel_rfl
theorem ty262 : isSlice Tryz.prog 174 = false := by kernel_rfl
theorem ty263 : isBool Tryz.prog 174 = false := by kernel_rfl
theorem ty264 : intOf' Tryz.prog 174 = some .u64 := by kernel_rfl
theorem ty265 : elemOf Tryz.prog 174 = none := by kernel_rfl
theorem ty266 : zeroOf Tryz.prog 174 = some (.int .u64 0) := by kernel_rfl
theorem ty267 : szOf Tryz.prog 198 = some 1 := by kernel_rfl
theorem ty268 : aggOf Tryz.prog 198 = some false := by kernel_rfl
theorem ty269 : szOf Tryz.prog 200 = some 1 := by kernel_rfl
theorem ty270 : aggOf Tryz.prog 200 = some false := by kernel_rfl
theorem ty271 : szOf Tryz.prog 217 = some 1 := by kernel_rfl
theorem ty272 : aggOf Tryz.prog 217 = some false := by kernel_rfl
theorem ty273 : szOf Tryz.prog 220 = some 1 := by kernel_rfl
theorem ty274 : aggOf Tryz.prog 220 = some false := by kernel_rfl
theorem tys0 : (szOf Tryz.prog 2 = some 1) ∧ (aggOf Tryz.prog 2 = some false) ∧ (strOf Tryz.prog 2 = false) ∧ (isSlice Tryz.prog 2 = false) ∧ (isBool Tryz.prog 2 = false) ∧ (intOf' Tryz.prog 2 = some .i64) ∧ (elemOf Tryz.prog 2 = none) ∧ (zeroOf Tryz.prog 2 = some (.int .i64 0)) ∧ (szOf Tryz.prog 3 = some 1) ∧ (aggOf Tryz.prog 3 = some false) ∧ (strOf Tryz.prog 3 = false) ∧ (isSlice Tryz.prog 3 = false) ∧ (isBool Tryz.prog 3 = false) ∧ (intOf' Tryz.prog 3 = some .i64) ∧ (elemOf Tryz.prog 3 = none) ∧ (zeroOf Tryz.prog 3 = some (.int .i64 0)) ∧ (szOf Tryz.prog 4 = some 1) ∧ (aggOf Tryz.prog 4 = some false) ∧ (strOf Tryz.prog 4 = false) ∧ (isSlice Tryz.prog 4 = false) ∧ (isBool Tryz.prog 4 = true) ∧ (intOf' Tryz.prog 4 = none) ∧ (elemOf Tryz.prog 4 = none) ∧ (zeroOf Tryz.prog 4 = some (.bool false)) ∧ (szOf Tryz.prog 5 = some 1) ∧ (aggOf Tryz.prog 5 = some false) ∧ (strOf Tryz.prog 5 = false) ∧ (isSlice Tryz.prog 5 = false) ∧ (isBool Tryz.prog 5 = false) ∧ (intOf' Tryz.prog 5 = some .u8) ∧ (elemOf Tryz.prog 5 = none) ∧ (zeroOf Tryz.prog 5 = some (.int .u8 0)) ∧ (szOf Tryz.prog 9 = some 1) ∧ (aggOf Tryz.prog 9 = some false) ∧ (strOf Tryz.prog 9 = true) ∧ (isSlice Tryz.prog 9 = false) ∧ (isBool Tryz.prog 9 = false) ∧ (intOf' Tryz.prog 9 = none) ∧ (elemOf Tryz.prog 9 = none) ∧ (zeroOf Tryz.prog 9 = some (.string ⟨#[]⟩)) := ⟨ty0, ty1, ty2, ty3, ty4, ty5, ty6, ty7, ty8, ty9, ty10, ty11, ty12, ty13, ty14, ty15, ty16, ty17, ty18, ty19, ty20, ty21, ty22, ty23, ty24, ty25, ty26, ty27, ty28, ty29, ty30, ty31, ty32, ty33, ty34, ty35, ty36, ty37, ty38, ty39⟩
theorem tys1 : (szOf Tryz.prog 12 = some 1) ∧ (aggOf Tryz.prog 12 = some false) ∧ (strOf Tryz.prog 12 = false) ∧ (isSlice Tryz.prog 12 = false) ∧ (isBool Tryz.prog 12 = false) ∧ (intOf' Tryz.prog 12 = some .u64) ∧ (elemOf Tryz.prog 12 = none) ∧ (zeroOf Tryz.prog 12 = some (.int .u64 0)) ∧ (szOf Tryz.prog 15 = some 1) ∧ (aggOf Tryz.prog 15 = some false) ∧ (szOf Tryz.prog 16 = some 1) ∧ (aggOf Tryz.prog 16 = some false) ∧ (szOf Tryz.prog 17 = some 1) ∧ (aggOf Tryz.prog 17 = some false) ∧ (szOf Tryz.prog 21 = some 1) ∧ (aggOf Tryz.prog 21 = some false) ∧ (strOf Tryz.prog 21 = false) ∧ (isSlice Tryz.prog 21 = false) ∧ (isBool Tryz.prog 21 = false) ∧ (intOf' Tryz.prog 21 = some .i32) ∧ (elemOf Tryz.prog 21 = none) ∧ (zeroOf Tryz.prog 21 = some (.int .i32 0)) ∧ (szOf Tryz.prog 22 = some 1) ∧ (aggOf Tryz.prog 22 = some false) ∧ (strOf Tryz.prog 22 = false) ∧ (isSlice Tryz.prog 22 = true) ∧ (isBool Tryz.prog 22 = false) ∧ (intOf' Tryz.prog 22 = none) ∧ (elemOf Tryz.prog 22 = some 5) ∧ (zeroOf Tryz.prog 22 = some (.slice none 0 0)) ∧ (elOf Tryz.prog 22 = some (5, 1, 1, [.int .u8 0])) ∧ (szOf Tryz.prog 24 = some 1) ∧ (aggOf Tryz.prog 24 = some false) ∧ (strOf Tryz.prog 24 = false) ∧ (isSlice Tryz.prog 24 = true) ∧ (isBool Tryz.prog 24 = false) ∧ (intOf' Tryz.prog 24 = none) ∧ (elemOf Tryz.prog 24 = some 42) ∧ (zeroOf Tryz.prog 24 = some (.slice none 0 0)) ∧ (elOf Tryz.prog 24 = some (42, 5, 56, [.int .i64 0, .int .i64 0, .int .i64 0, .int .i64 0, .slice none 0 0])) := ⟨ty40, ty41, ty42, ty43, ty44, ty45, ty46, ty47, ty48, ty49, ty50, ty51, ty52, ty53, ty54, ty55, ty56, ty57, ty58, ty59, ty60, ty61, ty62, ty63, ty64, ty65, ty66, ty67, ty68, ty69, ty70, ty71, ty72, ty73, ty74, ty75, ty76, ty77, ty78, ty79⟩
theorem tys2 : (szOf Tryz.prog 25 = some 1) ∧ (aggOf Tryz.prog 25 = some false) ∧ (strOf Tryz.prog 25 = false) ∧ (isSlice Tryz.prog 25 = true) ∧ (isBool Tryz.prog 25 = false) ∧ (intOf' Tryz.prog 25 = none) ∧ (elemOf Tryz.prog 25 = some 9) ∧ (zeroOf Tryz.prog 25 = some (.slice none 0 0)) ∧ (elOf Tryz.prog 25 = some (9, 1, 16, [.string ⟨#[]⟩])) ∧ (szOf Tryz.prog 27 = some 2) ∧ (aggOf Tryz.prog 27 = some true) ∧ (strOf Tryz.prog 27 = false) ∧ (isSlice Tryz.prog 27 = false) ∧ (isBool Tryz.prog 27 = false) ∧ (intOf' Tryz.prog 27 = none) ∧ (elemOf Tryz.prog 27 = none) ∧ (zeroOf Tryz.prog 27 = some (.agg #[.slice none 0 0, .slice none 0 0])) ∧ (fldOf Tryz.prog 27 0 = some (0, 24)) ∧ (fldOf Tryz.prog 27 1 = some (1, 25)) ∧ (placesOf Tryz.prog 27 = some [(0, 1), (1, 1)]) ∧ (szOf Tryz.prog 29 = some 1) ∧ (aggOf Tryz.prog 29 = some false) ∧ (strOf Tryz.prog 29 = false) ∧ (isSlice Tryz.prog 29 = true) ∧ (isBool Tryz.prog 29 = false) ∧ (intOf' Tryz.prog 29 = none) ∧ (elemOf Tryz.prog 29 = some 37) ∧ (zeroOf Tryz.prog 29 = some (.slice none 0 0)) ∧ (elOf Tryz.prog 29 = some (37, 4, 48, [.string ⟨#[]⟩, .int .i64 0, .string ⟨#[]⟩, .int .i64 0])) ∧ (szOf Tryz.prog 31 = some 1) ∧ (aggOf Tryz.prog 31 = some true) ∧ (strOf Tryz.prog 31 = false) ∧ (isSlice Tryz.prog 31 = false) ∧ (isBool Tryz.prog 31 = false) ∧ (intOf' Tryz.prog 31 = none) ∧ (elemOf Tryz.prog 31 = none) ∧ (zeroOf Tryz.prog 31 = some (.agg #[.slice none 0 0])) ∧ (fldOf Tryz.prog 31 0 = some (0, 29)) ∧ (placesOf Tryz.prog 31 = some [(0, 1)]) ∧ (szOf Tryz.prog 37 = some 4) := ⟨ty80, ty81, ty82, ty83, ty84, ty85, ty86, ty87, ty88, ty89, ty90, ty91, ty92, ty93, ty94, ty95, ty96, ty97, ty98, ty99, ty100, ty101, ty102, ty103, ty104, ty105, ty106, ty107, ty108, ty109, ty110, ty111, ty112, ty113, ty114, ty115, ty116, ty117, ty118, ty119⟩
theorem tys3 : (aggOf Tryz.prog 37 = some true) ∧ (strOf Tryz.prog 37 = false) ∧ (isSlice Tryz.prog 37 = false) ∧ (isBool Tryz.prog 37 = false) ∧ (intOf' Tryz.prog 37 = none) ∧ (elemOf Tryz.prog 37 = none) ∧ (zeroOf Tryz.prog 37 = some (.agg #[.string ⟨#[]⟩, .int .i64 0, .string ⟨#[]⟩, .int .i64 0])) ∧ (fldOf Tryz.prog 37 0 = some (0, 9)) ∧ (fldOf Tryz.prog 37 1 = some (1, 3)) ∧ (fldOf Tryz.prog 37 2 = some (2, 9)) ∧ (fldOf Tryz.prog 37 3 = some (3, 3)) ∧ (placesOf Tryz.prog 37 = some [(0, 1), (1, 1), (2, 1), (3, 1)]) ∧ (eqKs Tryz.prog 37 = some [.str, .int, .str, .int]) ∧ (szOf Tryz.prog 40 = some 1) ∧ (aggOf Tryz.prog 40 = some false) ∧ (strOf Tryz.prog 40 = false) ∧ (isSlice Tryz.prog 40 = true) ∧ (isBool Tryz.prog 40 = false) ∧ (intOf' Tryz.prog 40 = none) ∧ (elemOf Tryz.prog 40 = some 3) ∧ (zeroOf Tryz.prog 40 = some (.slice none 0 0)) ∧ (elOf Tryz.prog 40 = some (3, 1, 8, [.int .i64 0])) ∧ (szOf Tryz.prog 42 = some 5) ∧ (aggOf Tryz.prog 42 = some true) ∧ (strOf Tryz.prog 42 = false) ∧ (isSlice Tryz.prog 42 = false) ∧ (isBool Tryz.prog 42 = false) ∧ (intOf' Tryz.prog 42 = none) ∧ (elemOf Tryz.prog 42 = none) ∧ (zeroOf Tryz.prog 42 = some (.agg #[.int .i64 0, .int .i64 0, .int .i64 0, .int .i64 0, .slice none 0 0])) ∧ (fldOf Tryz.prog 42 0 = some (0, 3)) ∧ (fldOf Tryz.prog 42 1 = some (1, 3)) ∧ (fldOf Tryz.prog 42 2 = some (2, 3)) ∧ (fldOf Tryz.prog 42 3 = some (3, 3)) ∧ (fldOf Tryz.prog 42 4 = some (4, 40)) ∧ (placesOf Tryz.prog 42 = some [(0, 1), (1, 1), (2, 1), (3, 1), (4, 1)]) ∧ (szOf Tryz.prog 44 = some 1) ∧ (aggOf Tryz.prog 44 = some false) ∧ (strOf Tryz.prog 44 = false) ∧ (isSlice Tryz.prog 44 = true) := ⟨ty120, ty121, ty122, ty123, ty124, ty125, ty126, ty127, ty128, ty129, ty130, ty131, ty132, ty133, ty134, ty135, ty136, ty137, ty138, ty139, ty140, ty141, ty142, ty143, ty144, ty145, ty146, ty147, ty148, ty149, ty150, ty151, ty152, ty153, ty154, ty155, ty156, ty157, ty158, ty159⟩
theorem tys4 : (isBool Tryz.prog 44 = false) ∧ (intOf' Tryz.prog 44 = none) ∧ (elemOf Tryz.prog 44 = some 56) ∧ (zeroOf Tryz.prog 44 = some (.slice none 0 0)) ∧ (elOf Tryz.prog 44 = some (56, 3, 56, [.int .i64 0, .slice none 0 0, .slice none 0 0])) ∧ (szOf Tryz.prog 46 = some 7) ∧ (aggOf Tryz.prog 46 = some true) ∧ (strOf Tryz.prog 46 = false) ∧ (isSlice Tryz.prog 46 = false) ∧ (isBool Tryz.prog 46 = false) ∧ (intOf' Tryz.prog 46 = none) ∧ (elemOf Tryz.prog 46 = none) ∧ (zeroOf Tryz.prog 46 = some (.agg #[.bool false, .bool false, .int .i64 0, .int .i64 0, .string ⟨#[]⟩, .int .i64 0, .int .i64 0])) ∧ (fldOf Tryz.prog 46 0 = some (0, 4)) ∧ (fldOf Tryz.prog 46 1 = some (1, 4)) ∧ (fldOf Tryz.prog 46 2 = some (2, 3)) ∧ (fldOf Tryz.prog 46 3 = some (3, 3)) ∧ (fldOf Tryz.prog 46 4 = some (4, 9)) ∧ (fldOf Tryz.prog 46 5 = some (5, 3)) ∧ (fldOf Tryz.prog 46 6 = some (6, 3)) ∧ (placesOf Tryz.prog 46 = some [(0, 1), (1, 1), (2, 1), (3, 1), (4, 1), (5, 1), (6, 1)]) ∧ (eqKs Tryz.prog 46 = some [.bool, .bool, .int, .int, .str, .int, .int]) ∧ (szOf Tryz.prog 48 = some 10) ∧ (aggOf Tryz.prog 48 = some true) ∧ (strOf Tryz.prog 48 = false) ∧ (isSlice Tryz.prog 48 = false) ∧ (isBool Tryz.prog 48 = false) ∧ (intOf' Tryz.prog 48 = none) ∧ (elemOf Tryz.prog 48 = none) ∧ (zeroOf Tryz.prog 48 = some (.agg #[.int .i64 0, .int .i64 0, .slice none 0 0, .bool false, .bool false, .int .i64 0, .int .i64 0, .string ⟨#[]⟩, .int .i64 0, .int .i64 0])) ∧ (fldOf Tryz.prog 48 0 = some (0, 3)) ∧ (fldOf Tryz.prog 48 1 = some (1, 3)) ∧ (fldOf Tryz.prog 48 2 = some (2, 44)) ∧ (fldOf Tryz.prog 48 3 = some (3, 46)) ∧ (placesOf Tryz.prog 48 = some [(0, 1), (1, 1), (2, 1), (3, 7)]) ∧ (szOf Tryz.prog 56 = some 3) ∧ (aggOf Tryz.prog 56 = some true) ∧ (strOf Tryz.prog 56 = false) ∧ (isSlice Tryz.prog 56 = false) ∧ (isBool Tryz.prog 56 = false) := ⟨ty160, ty161, ty162, ty163, ty164, ty165, ty166, ty167, ty168, ty169, ty170, ty171, ty172, ty173, ty174, ty175, ty176, ty177, ty178, ty179, ty180, ty181, ty182, ty183, ty184, ty185, ty186, ty187, ty188, ty189, ty190, ty191, ty192, ty193, ty194, ty195, ty196, ty197, ty198, ty199⟩
theorem tys5 : (intOf' Tryz.prog 56 = none) ∧ (elemOf Tryz.prog 56 = none) ∧ (zeroOf Tryz.prog 56 = some (.agg #[.int .i64 0, .slice none 0 0, .slice none 0 0])) ∧ (fldOf Tryz.prog 56 0 = some (0, 3)) ∧ (fldOf Tryz.prog 56 1 = some (1, 27)) ∧ (placesOf Tryz.prog 56 = some [(0, 1), (1, 2)]) ∧ (szOf Tryz.prog 82 = some 1) ∧ (aggOf Tryz.prog 82 = some false) ∧ (szOf Tryz.prog 126 = some 1) ∧ (aggOf Tryz.prog 126 = some false) ∧ (strOf Tryz.prog 126 = false) ∧ (isSlice Tryz.prog 126 = true) ∧ (isBool Tryz.prog 126 = false) ∧ (intOf' Tryz.prog 126 = none) ∧ (elemOf Tryz.prog 126 = some 134) ∧ (zeroOf Tryz.prog 126 = some (.slice none 0 0)) ∧ (elOf Tryz.prog 126 = some (134, 2, 24, [.string ⟨#[]⟩, .int .i64 0])) ∧ (szOf Tryz.prog 130 = some 3) ∧ (aggOf Tryz.prog 130 = some true) ∧ (strOf Tryz.prog 130 = false) ∧ (isSlice Tryz.prog 130 = false) ∧ (isBool Tryz.prog 130 = false) ∧ (intOf' Tryz.prog 130 = none) ∧ (elemOf Tryz.prog 130 = none) ∧ (zeroOf Tryz.prog 130 = some (.agg #[.slice none 0 0, .int .i64 0, .int .i64 0])) ∧ (fldOf Tryz.prog 130 0 = some (0, 22)) ∧ (fldOf Tryz.prog 130 1 = some (1, 3)) ∧ (fldOf Tryz.prog 130 2 = some (2, 3)) ∧ (placesOf Tryz.prog 130 = some [(0, 1), (1, 1), (2, 1)]) ∧ (szOf Tryz.prog 134 = some 2) ∧ (aggOf Tryz.prog 134 = some true) ∧ (strOf Tryz.prog 134 = false) ∧ (isSlice Tryz.prog 134 = false) ∧ (isBool Tryz.prog 134 = false) ∧ (intOf' Tryz.prog 134 = none) ∧ (elemOf Tryz.prog 134 = none) ∧ (zeroOf Tryz.prog 134 = some (.agg #[.string ⟨#[]⟩, .int .i64 0])) ∧ (fldOf Tryz.prog 134 0 = some (0, 9)) ∧ (fldOf Tryz.prog 134 1 = some (1, 3)) ∧ (placesOf Tryz.prog 134 = some [(0, 1), (1, 1)]) := ⟨ty200, ty201, ty202, ty203, ty204, ty205, ty206, ty207, ty208, ty209, ty210, ty211, ty212, ty213, ty214, ty215, ty216, ty217, ty218, ty219, ty220, ty221, ty222, ty223, ty224, ty225, ty226, ty227, ty228, ty229, ty230, ty231, ty232, ty233, ty234, ty235, ty236, ty237, ty238, ty239⟩
theorem tys6 : (eqKs Tryz.prog 134 = some [.str, .int]) ∧ (szOf Tryz.prog 137 = some 1) ∧ (aggOf Tryz.prog 137 = some false) ∧ (strOf Tryz.prog 137 = false) ∧ (isSlice Tryz.prog 137 = false) ∧ (isBool Tryz.prog 137 = false) ∧ (intOf' Tryz.prog 137 = some .u64) ∧ (elemOf Tryz.prog 137 = none) ∧ (zeroOf Tryz.prog 137 = some (.int .u64 0)) ∧ (szOf Tryz.prog 157 = some 1) ∧ (aggOf Tryz.prog 157 = some false) ∧ (szOf Tryz.prog 172 = some 1) ∧ (aggOf Tryz.prog 172 = some false) ∧ (strOf Tryz.prog 172 = false) ∧ (isSlice Tryz.prog 172 = false) ∧ (isBool Tryz.prog 172 = false) ∧ (intOf' Tryz.prog 172 = some .u32) ∧ (elemOf Tryz.prog 172 = none) ∧ (zeroOf Tryz.prog 172 = some (.int .u32 0)) ∧ (szOf Tryz.prog 174 = some 1) ∧ (aggOf Tryz.prog 174 = some false) ∧ (strOf Tryz.prog 174 = false) ∧ (isSlice Tryz.prog 174 = false) ∧ (isBool Tryz.prog 174 = false) ∧ (intOf' Tryz.prog 174 = some .u64) ∧ (elemOf Tryz.prog 174 = none) ∧ (zeroOf Tryz.prog 174 = some (.int .u64 0)) ∧ (szOf Tryz.prog 198 = some 1) ∧ (aggOf Tryz.prog 198 = some false) ∧ (szOf Tryz.prog 200 = some 1) ∧ (aggOf Tryz.prog 200 = some false) ∧ (szOf Tryz.prog 217 = some 1) ∧ (aggOf Tryz.prog 217 = some false) ∧ (szOf Tryz.prog 220 = some 1) ∧ (aggOf Tryz.prog 220 = some false) := ⟨ty240, ty241, ty242, ty243, ty244, ty245, ty246, ty247, ty248, ty249, ty250, ty251, ty252, ty253, ty254, ty255, ty256, ty257, ty258, ty259, ty260, ty261, ty262, ty263, ty264, ty265, ty266, ty267, ty268, ty269, ty270, ty271, ty272, ty273, ty274⟩
theorem TY : ((szOf Tryz.prog 2 = some 1) ∧ (aggOf Tryz.prog 2 = some false) ∧ (strOf Tryz.prog 2 = false) ∧ (isSlice Tryz.prog 2 = false) ∧ (isBool Tryz.prog 2 = false) ∧ (intOf' Tryz.prog 2 = some .i64) ∧ (elemOf Tryz.prog 2 = none) ∧ (zeroOf Tryz.prog 2 = some (.int .i64 0)) ∧ (szOf Tryz.prog 3 = some 1) ∧ (aggOf Tryz.prog 3 = some false) ∧ (strOf Tryz.prog 3 = false) ∧ (isSlice Tryz.prog 3 = false) ∧ (isBool Tryz.prog 3 = false) ∧ (intOf' Tryz.prog 3 = some .i64) ∧ (elemOf Tryz.prog 3 = none) ∧ (zeroOf Tryz.prog 3 = some (.int .i64 0)) ∧ (szOf Tryz.prog 4 = some 1) ∧ (aggOf Tryz.prog 4 = some false) ∧ (strOf Tryz.prog 4 = false) ∧ (isSlice Tryz.prog 4 = false) ∧ (isBool Tryz.prog 4 = true) ∧ (intOf' Tryz.prog 4 = none) ∧ (elemOf Tryz.prog 4 = none) ∧ (zeroOf Tryz.prog 4 = some (.bool false)) ∧ (szOf Tryz.prog 5 = some 1) ∧ (aggOf Tryz.prog 5 = some false) ∧ (strOf Tryz.prog 5 = false) ∧ (isSlice Tryz.prog 5 = false) ∧ (isBool Tryz.prog 5 = false) ∧ (intOf' Tryz.prog 5 = some .u8) ∧ (elemOf Tryz.prog 5 = none) ∧ (zeroOf Tryz.prog 5 = some (.int .u8 0)) ∧ (szOf Tryz.prog 9 = some 1) ∧ (aggOf Tryz.prog 9 = some false) ∧ (strOf Tryz.prog 9 = true) ∧ (isSlice Tryz.prog 9 = false) ∧ (isBool Tryz.prog 9 = false) ∧ (intOf' Tryz.prog 9 = none) ∧ (elemOf Tryz.prog 9 = none) ∧ (zeroOf Tryz.prog 9 = some (.string ⟨#[]⟩))) ∧ ((szOf Tryz.prog 12 = some 1) ∧ (aggOf Tryz.prog 12 = some false) ∧ (strOf Tryz.prog 12 = false) ∧ (isSlice Tryz.prog 12 = false) ∧ (isBool Tryz.prog 12 = false) ∧ (intOf' Tryz.prog 12 = some .u64) ∧ (elemOf Tryz.prog 12 = none) ∧ (zeroOf Tryz.prog 12 = some (.int .u64 0)) ∧ (szOf Tryz.prog 15 = some 1) ∧ (aggOf Tryz.prog 15 = some false) ∧ (szOf Tryz.prog 16 = some 1) ∧ (aggOf Tryz.prog 16 = some false) ∧ (szOf Tryz.prog 17 = some 1) ∧ (aggOf Tryz.prog 17 = some false) ∧ (szOf Tryz.prog 21 = some 1) ∧ (aggOf Tryz.prog 21 = some false) ∧ (strOf Tryz.prog 21 = false) ∧ (isSlice Tryz.prog 21 = false) ∧ (isBool Tryz.prog 21 = false) ∧ (intOf' Tryz.prog 21 = some .i32) ∧ (elemOf Tryz.prog 21 = none) ∧ (zeroOf Tryz.prog 21 = some (.int .i32 0)) ∧ (szOf Tryz.prog 22 = some 1) ∧ (aggOf Tryz.prog 22 = some false) ∧ (strOf Tryz.prog 22 = false) ∧ (isSlice Tryz.prog 22 = true) ∧ (isBool Tryz.prog 22 = false) ∧ (intOf' Tryz.prog 22 = none) ∧ (elemOf Tryz.prog 22 = some 5) ∧ (zeroOf Tryz.prog 22 = some (.slice none 0 0)) ∧ (elOf Tryz.prog 22 = some (5, 1, 1, [.int .u8 0])) ∧ (szOf Tryz.prog 24 = some 1) ∧ (aggOf Tryz.prog 24 = some false) ∧ (strOf Tryz.prog 24 = false) ∧ (isSlice Tryz.prog 24 = true) ∧ (isBool Tryz.prog 24 = false) ∧ (intOf' Tryz.prog 24 = none) ∧ (elemOf Tryz.prog 24 = some 42) ∧ (zeroOf Tryz.prog 24 = some (.slice none 0 0)) ∧ (elOf Tryz.prog 24 = some (42, 5, 56, [.int .i64 0, .int .i64 0, .int .i64 0, .int .i64 0, .slice none 0 0]))) ∧ ((szOf Tryz.prog 25 = some 1) ∧ (aggOf Tryz.prog 25 = some false) ∧ (strOf Tryz.prog 25 = false) ∧ (isSlice Tryz.prog 25 = true) ∧ (isBool Tryz.prog 25 = false) ∧ (intOf' Tryz.prog 25 = none) ∧ (elemOf Tryz.prog 25 = some 9) ∧ (zeroOf Tryz.prog 25 = some (.slice none 0 0)) ∧ (elOf Tryz.prog 25 = some (9, 1, 16, [.string ⟨#[]⟩])) ∧ (szOf Tryz.prog 27 = some 2) ∧ (aggOf Tryz.prog 27 = some true) ∧ (strOf Tryz.prog 27 = false) ∧ (isSlice Tryz.prog 27 = false) ∧ (isBool Tryz.prog 27 = false) ∧ (intOf' Tryz.prog 27 = none) ∧ (elemOf Tryz.prog 27 = none) ∧ (zeroOf Tryz.prog 27 = some (.agg #[.slice none 0 0, .slice none 0 0])) ∧ (fldOf Tryz.prog 27 0 = some (0, 24)) ∧ (fldOf Tryz.prog 27 1 = some (1, 25)) ∧ (placesOf Tryz.prog 27 = some [(0, 1), (1, 1)]) ∧ (szOf Tryz.prog 29 = some 1) ∧ (aggOf Tryz.prog 29 = some false) ∧ (strOf Tryz.prog 29 = false) ∧ (isSlice Tryz.prog 29 = true) ∧ (isBool Tryz.prog 29 = false) ∧ (intOf' Tryz.prog 29 = none) ∧ (elemOf Tryz.prog 29 = some 37) ∧ (zeroOf Tryz.prog 29 = some (.slice none 0 0)) ∧ (elOf Tryz.prog 29 = some (37, 4, 48, [.string ⟨#[]⟩, .int .i64 0, .string ⟨#[]⟩, .int .i64 0])) ∧ (szOf Tryz.prog 31 = some 1) ∧ (aggOf Tryz.prog 31 = some true) ∧ (strOf Tryz.prog 31 = false) ∧ (isSlice Tryz.prog 31 = false) ∧ (isBool Tryz.prog 31 = false) ∧ (intOf' Tryz.prog 31 = none) ∧ (elemOf Tryz.prog 31 = none) ∧ (zeroOf Tryz.prog 31 = some (.agg #[.slice none 0 0])) ∧ (fldOf Tryz.prog 31 0 = some (0, 29)) ∧ (placesOf Tryz.prog 31 = some [(0, 1)]) ∧ (szOf Tryz.prog 37 = some 4)) ∧ ((aggOf Tryz.prog 37 = some true) ∧ (strOf Tryz.prog 37 = false) ∧ (isSlice Tryz.prog 37 = false) ∧ (isBool Tryz.prog 37 = false) ∧ (intOf' Tryz.prog 37 = none) ∧ (elemOf Tryz.prog 37 = none) ∧ (zeroOf Tryz.prog 37 = some (.agg #[.string ⟨#[]⟩, .int .i64 0, .string ⟨#[]⟩, .int .i64 0])) ∧ (fldOf Tryz.prog 37 0 = some (0, 9)) ∧ (fldOf Tryz.prog 37 1 = some (1, 3)) ∧ (fldOf Tryz.prog 37 2 = some (2, 9)) ∧ (fldOf Tryz.prog 37 3 = some (3, 3)) ∧ (placesOf Tryz.prog 37 = some [(0, 1), (1, 1), (2, 1), (3, 1)]) ∧ (eqKs Tryz.prog 37 = some [.str, .int, .str, .int]) ∧ (szOf Tryz.prog 40 = some 1) ∧ (aggOf Tryz.prog 40 = some false) ∧ (strOf Tryz.prog 40 = false) ∧ (isSlice Tryz.prog 40 = true) ∧ (isBool Tryz.prog 40 = false) ∧ (intOf' Tryz.prog 40 = none) ∧ (elemOf Tryz.prog 40 = some 3) ∧ (zeroOf Tryz.prog 40 = some (.slice none 0 0)) ∧ (elOf Tryz.prog 40 = some (3, 1, 8, [.int .i64 0])) ∧ (szOf Tryz.prog 42 = some 5) ∧ (aggOf Tryz.prog 42 = some true) ∧ (strOf Tryz.prog 42 = false) ∧ (isSlice Tryz.prog 42 = false) ∧ (isBool Tryz.prog 42 = false) ∧ (intOf' Tryz.prog 42 = none) ∧ (elemOf Tryz.prog 42 = none) ∧ (zeroOf Tryz.prog 42 = some (.agg #[.int .i64 0, .int .i64 0, .int .i64 0, .int .i64 0, .slice none 0 0])) ∧ (fldOf Tryz.prog 42 0 = some (0, 3)) ∧ (fldOf Tryz.prog 42 1 = some (1, 3)) ∧ (fldOf Tryz.prog 42 2 = some (2, 3)) ∧ (fldOf Tryz.prog 42 3 = some (3, 3)) ∧ (fldOf Tryz.prog 42 4 = some (4, 40)) ∧ (placesOf Tryz.prog 42 = some [(0, 1), (1, 1), (2, 1), (3, 1), (4, 1)]) ∧ (szOf Tryz.prog 44 = some 1) ∧ (aggOf Tryz.prog 44 = some false) ∧ (strOf Tryz.prog 44 = false) ∧ (isSlice Tryz.prog 44 = true)) ∧ ((isBool Tryz.prog 44 = false) ∧ (intOf' Tryz.prog 44 = none) ∧ (elemOf Tryz.prog 44 = some 56) ∧ (zeroOf Tryz.prog 44 = some (.slice none 0 0)) ∧ (elOf Tryz.prog 44 = some (56, 3, 56, [.int .i64 0, .slice none 0 0, .slice none 0 0])) ∧ (szOf Tryz.prog 46 = some 7) ∧ (aggOf Tryz.prog 46 = some true) ∧ (strOf Tryz.prog 46 = false) ∧ (isSlice Tryz.prog 46 = false) ∧ (isBool Tryz.prog 46 = false) ∧ (intOf' Tryz.prog 46 = none) ∧ (elemOf Tryz.prog 46 = none) ∧ (zeroOf Tryz.prog 46 = some (.agg #[.bool false, .bool false, .int .i64 0, .int .i64 0, .string ⟨#[]⟩, .int .i64 0, .int .i64 0])) ∧ (fldOf Tryz.prog 46 0 = some (0, 4)) ∧ (fldOf Tryz.prog 46 1 = some (1, 4)) ∧ (fldOf Tryz.prog 46 2 = some (2, 3)) ∧ (fldOf Tryz.prog 46 3 = some (3, 3)) ∧ (fldOf Tryz.prog 46 4 = some (4, 9)) ∧ (fldOf Tryz.prog 46 5 = some (5, 3)) ∧ (fldOf Tryz.prog 46 6 = some (6, 3)) ∧ (placesOf Tryz.prog 46 = some [(0, 1), (1, 1), (2, 1), (3, 1), (4, 1), (5, 1), (6, 1)]) ∧ (eqKs Tryz.prog 46 = some [.bool, .bool, .int, .int, .str, .int, .int]) ∧ (szOf Tryz.prog 48 = some 10) ∧ (aggOf Tryz.prog 48 = some true) ∧ (strOf Tryz.prog 48 = false) ∧ (isSlice Tryz.prog 48 = false) ∧ (isBool Tryz.prog 48 = false) ∧ (intOf' Tryz.prog 48 = none) ∧ (elemOf Tryz.prog 48 = none) ∧ (zeroOf Tryz.prog 48 = some (.agg #[.int .i64 0, .int .i64 0, .slice none 0 0, .bool false, .bool false, .int .i64 0, .int .i64 0, .string ⟨#[]⟩, .int .i64 0, .int .i64 0])) ∧ (fldOf Tryz.prog 48 0 = some (0, 3)) ∧ (fldOf Tryz.prog 48 1 = some (1, 3)) ∧ (fldOf Tryz.prog 48 2 = some (2, 44)) ∧ (fldOf Tryz.prog 48 3 = some (3, 46)) ∧ (placesOf Tryz.prog 48 = some [(0, 1), (1, 1), (2, 1), (3, 7)]) ∧ (szOf Tryz.prog 56 = some 3) ∧ (aggOf Tryz.prog 56 = some true) ∧ (strOf Tryz.prog 56 = false) ∧ (isSlice Tryz.prog 56 = false) ∧ (isBool Tryz.prog 56 = false)) ∧ ((intOf' Tryz.prog 56 = none) ∧ (elemOf Tryz.prog 56 = none) ∧ (zeroOf Tryz.prog 56 = some (.agg #[.int .i64 0, .slice none 0 0, .slice none 0 0])) ∧ (fldOf Tryz.prog 56 0 = some (0, 3)) ∧ (fldOf Tryz.prog 56 1 = some (1, 27)) ∧ (placesOf Tryz.prog 56 = some [(0, 1), (1, 2)]) ∧ (szOf Tryz.prog 82 = some 1) ∧ (aggOf Tryz.prog 82 = some false) ∧ (szOf Tryz.prog 126 = some 1) ∧ (aggOf Tryz.prog 126 = some false) ∧ (strOf Tryz.prog 126 = false) ∧ (isSlice Tryz.prog 126 = true) ∧ (isBool Tryz.prog 126 = false) ∧ (intOf' Tryz.prog 126 = none) ∧ (elemOf Tryz.prog 126 = some 134) ∧ (zeroOf Tryz.prog 126 = some (.slice none 0 0)) ∧ (elOf Tryz.prog 126 = some (134, 2, 24, [.string ⟨#[]⟩, .int .i64 0])) ∧ (szOf Tryz.prog 130 = some 3) ∧ (aggOf Tryz.prog 130 = some true) ∧ (strOf Tryz.prog 130 = false) ∧ (isSlice Tryz.prog 130 = false) ∧ (isBool Tryz.prog 130 = false) ∧ (intOf' Tryz.prog 130 = none) ∧ (elemOf Tryz.prog 130 = none) ∧ (zeroOf Tryz.prog 130 = some (.agg #[.slice none 0 0, .int .i64 0, .int .i64 0])) ∧ (fldOf Tryz.prog 130 0 = some (0, 22)) ∧ (fldOf Tryz.prog 130 1 = some (1, 3)) ∧ (fldOf Tryz.prog 130 2 = some (2, 3)) ∧ (placesOf Tryz.prog 130 = some [(0, 1), (1, 1), (2, 1)]) ∧ (szOf Tryz.prog 134 = some 2) ∧ (aggOf Tryz.prog 134 = some true) ∧ (strOf Tryz.prog 134 = false) ∧ (isSlice Tryz.prog 134 = false) ∧ (isBool Tryz.prog 134 = false) ∧ (intOf' Tryz.prog 134 = none) ∧ (elemOf Tryz.prog 134 = none) ∧ (zeroOf Tryz.prog 134 = some (.agg #[.string ⟨#[]⟩, .int .i64 0])) ∧ (fldOf Tryz.prog 134 0 = some (0, 9)) ∧ (fldOf Tryz.prog 134 1 = some (1, 3)) ∧ (placesOf Tryz.prog 134 = some [(0, 1), (1, 1)])) ∧ ((eqKs Tryz.prog 134 = some [.str, .int]) ∧ (szOf Tryz.prog 137 = some 1) ∧ (aggOf Tryz.prog 137 = some false) ∧ (strOf Tryz.prog 137 = false) ∧ (isSlice Tryz.prog 137 = false) ∧ (isBool Tryz.prog 137 = false) ∧ (intOf' Tryz.prog 137 = some .u64) ∧ (elemOf Tryz.prog 137 = none) ∧ (zeroOf Tryz.prog 137 = some (.int .u64 0)) ∧ (szOf Tryz.prog 157 = some 1) ∧ (aggOf Tryz.prog 157 = some false) ∧ (szOf Tryz.prog 172 = some 1) ∧ (aggOf Tryz.prog 172 = some false) ∧ (strOf Tryz.prog 172 = false) ∧ (isSlice Tryz.prog 172 = false) ∧ (isBool Tryz.prog 172 = false) ∧ (intOf' Tryz.prog 172 = some .u32) ∧ (elemOf Tryz.prog 172 = none) ∧ (zeroOf Tryz.prog 172 = some (.int .u32 0)) ∧ (szOf Tryz.prog 174 = some 1) ∧ (aggOf Tryz.prog 174 = some false) ∧ (strOf Tryz.prog 174 = false) ∧ (isSlice Tryz.prog 174 = false) ∧ (isBool Tryz.prog 174 = false) ∧ (intOf' Tryz.prog 174 = some .u64) ∧ (elemOf Tryz.prog 174 = none) ∧ (zeroOf Tryz.prog 174 = some (.int .u64 0)) ∧ (szOf Tryz.prog 198 = some 1) ∧ (aggOf Tryz.prog 198 = some false) ∧ (szOf Tryz.prog 200 = some 1) ∧ (aggOf Tryz.prog 200 = some false) ∧ (szOf Tryz.prog 217 = some 1) ∧ (aggOf Tryz.prog 217 = some false) ∧ (szOf Tryz.prog 220 = some 1) ∧ (aggOf Tryz.prog 220 = some false)) := ⟨tys0, tys1, tys2, tys3, tys4, tys5, tys6⟩
theorem mixed : Tryz.prog.follows .mixedOrders = true := by kernel_rfl
attribute [simp] TY
end Go.Proofs.YtkphpalagceobaaGreat.Hz
