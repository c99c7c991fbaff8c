/- What the calculus asks of the types, each fact by the kernel. Written by facts.py. -/
import Derived.Test.YtmiflnadgckenaaHzN
import Derived.Test.YtmiflnadgckenaaProg
namespace Go.Proofs.Ytmiflnadgckenaa.Hz
theorem ty0 : szOf Try.prog 2 = some 1 := by kernel_rfl
theorem ty1 : aggOf Try.prog 2 = some false := by kernel_rfl
theorem ty2 : strOf Try.prog 2 = false := by kernel_rfl
theorem ty3 : isSlice Try.prog 2 = false := by kernel_rfl
theorem ty4 : isBool Try.prog 2 = false := by kernel_rfl
theorem ty5 : intOf' Try.prog 2 = some .i64 := by kernel_rfl
theorem ty6 : elemOf Try.prog 2 = none := by kernel_rfl
theorem ty7 : zeroOf Try.prog 2 = some (.int .i64 0) := by kernel_rfl
theorem ty8 : szOf Try.prog 3 = some 1 := by kernel_rfl
theorem ty9 : aggOf Try.prog 3 = some false := by kernel_rfl
theorem ty10 : strOf Try.prog 3 = false := by kernel_rfl
theorem ty11 : isSlice Try.prog 3 = false := by kernel_rfl
theorem ty12 : isBool Try.prog 3 = false := by kernel_rfl
theorem ty13 : intOf' Try.prog 3 = some .i64 := by kernel_rfl
theorem ty14 : elemOf Try.prog 3 = none := by kernel_rfl
theorem ty15 : zeroOf Try.prog 3 = some (.int .i64 0) := by kernel_rfl
theorem ty16 : szOf Try.prog 4 = some 1 := by kernel_rfl
theorem ty17 : aggOf Try.prog 4 = some false := by kernel_rfl
theorem ty18 : strOf Try.prog 4 = false := by kernel_rfl
theorem ty19 : isSlice Try.prog 4 = false := by kernel_rfl
theorem ty20 : isBool Try.prog 4 = true := by kernel_rfl
theorem ty21 : intOf' Try.prog 4 = none := by kernel_rfl
theorem ty22 : elemOf Try.prog 4 = none := by kernel_rfl
theorem ty23 : zeroOf Try.prog 4 = some (.bool false) := by kernel_rfl
theorem ty24 : szOf Try.prog 5 = some 1 := by kernel_rfl
theorem ty25 : aggOf Try.prog 5 = some false := by kernel_rfl
theorem ty26 : strOf Try.prog 5 = false := by kernel_rfl
theorem ty27 : isSlice Try.prog 5 = false := by kernel_rfl
theorem ty28 : isBool Try.prog 5 = false := by kernel_rfl
theorem ty29 : intOf' Try.prog 5 = some .u8 := by kernel_rfl
theorem ty30 : elemOf Try.prog 5 = none := by kernel_rfl
theorem ty31 : zeroOf Try.prog 5 = some (.int .u8 0) := by kernel_rfl
theorem ty32 : szOf Try.prog 9 = some 1 := by kernel_rfl
theorem ty33 : aggOf Try.prog 9 = some false := by kernel_rfl
theorem ty34 : strOf Try.prog 9 = true := by kernel_rfl
theorem ty35 : isSlice Try.prog 9 = false := by kernel_rfl
theorem ty36 : isBool Try.prog 9 = false := by kernel_rfl
theorem ty37 : intOf' Try.prog 9 = none := by kernel_rfl
theorem ty38 : elemOf Try.prog 9 = none := by kernel_rfl
theorem ty39 : zeroOf Try.prog 9 = some (.string ⟨#[]⟩) := by kernel_rfl
theorem ty40 : szOf Try.prog 12 = some 1 := by kernel_rfl
theorem ty41 : aggOf Try.prog 12 = some false := by kernel_rfl
theorem ty42 : strOf Try.prog 12 = false := by kernel_rfl
theorem ty43 : isSlice Try.prog 12 = false := by kernel_rfl
theorem ty44 : isBool Try.prog 12 = false := by kernel_rfl
theorem ty45 : intOf' Try.prog 12 = some .u64 := by kernel_rfl
theorem ty46 : elemOf Try.prog 12 = none := by kernel_rfl
theorem ty47 : zeroOf Try.prog 12 = some (.int .u64 0) := by kernel_rfl
theorem ty48 : szOf Try.prog 15 = some 1 := by kernel_rfl
theorem ty49 : aggOf Try.prog 15 = some false := by kernel_rfl
theorem ty50 : szOf Try.prog 16 = some 1 := by kernel_rfl
theorem ty51 : aggOf Try.prog 16 = some false := by kernel_rfl
theorem ty52 : szOf Try.prog 17 = some 1 := by kernel_rfl
theorem ty53 : aggOf Try.prog 17 = some false := by kernel_rfl
theorem ty54 : szOf Try.prog 21 = some 1 := by kernel_rfl
theorem ty55 : aggOf Try.prog 21 = some false := by kernel_rfl
theorem ty56 : strOf Try.prog 21 = false := by kernel_rfl
theorem ty57 : isSlice Try.prog 21 = false := by kernel_rfl
theorem ty58 : isBool Try.prog 21 = false := by kernel_rfl
theorem ty59 : intOf' Try.prog 21 = some .i32 := by kernel_rfl
theorem ty60 : elemOf Try.prog 21 = none := by kernel_rfl
theorem ty61 : zeroOf Try.prog 21 = some (.int .i32 0) := by kernel_rfl
theorem ty62 : szOf Try.prog 24 = some 1 := by kernel_rfl
theorem ty63 : aggOf Try.prog 24 = some false := by kernel_rfl
theorem ty64 : strOf Try.prog 24 = false := by kernel_rfl
theorem ty65 : isSlice Try.prog 24 = true := by kernel_rfl
theorem ty66 : isBool Try.prog 24 = false := by kernel_rfl
theorem ty67 : intOf' Try.prog 24 = none := by kernel_rfl
theorem ty68 : elemOf Try.prog 24 = some 77 := by kernel_rfl
theorem ty69 : zeroOf Try.prog 24 = some (.slice none 0 0) := by kernel_rfl
theorem ty70 : elOf Try.prog 24 = some (77, 2, 24, [.string ⟨#[]⟩, .int .i64 0]) := by kernel_rfl
theorem ty71 : szOf Try.prog 27 = some 1 := by kernel_rfl
theorem ty72 : aggOf Try.prog 27 = some false := by kernel_rfl
theorem ty73 : strOf Try.prog 27 = false := by kernel_rfl
theorem ty74 : isSlice Try.prog 27 = true := by kernel_rfl
theorem ty75 : isBool Try.prog 27 = false := by kernel_rfl
theorem ty76 : intOf' Try.prog 27 = none := by kernel_rfl
theorem ty77 : elemOf Try.prog 27 = some 78 := by kernel_rfl
theorem ty78 : zeroOf Try.prog 27 = some (.slice none 0 0) := by kernel_rfl
theorem ty79 : elOf Try.prog 27 = some (78, 2, 24, [.string ⟨#[]⟩, .int .i64 0]) := by kernel_rfl
theorem ty80 : szOf Try.prog 33 = some 1 := by kernel_rfl
theorem ty81 : aggOf Try.prog 33 = some false := by kernel_rfl
theorem ty82 : strOf Try.prog 33 = false := by kernel_rfl
theorem ty83 : isSlice Try.prog 33 = true := by kernel_rfl
theorem ty84 : isBool Try.prog 33 = false := by kernel_rfl
theorem ty85 : intOf' Try.prog 33 = none := by kernel_rfl
theorem ty86 : elemOf Try.prog 33 = some 116 := by kernel_rfl
theorem ty87 : zeroOf Try.prog 33 = some (.slice none 0 0) := by kernel_rfl
theorem ty88 : elOf Try.prog 33 = some (116, 4, 48, [.string ⟨#[]⟩, .int .i64 0, .string ⟨#[]⟩, .int .i64 0]) := by kernel_rfl
theorem ty89 : szOf Try.prog 35 = some 1 := by kernel_rfl
theorem ty90 : aggOf Try.prog 35 = some true := by kernel_rfl
theorem ty91 : strOf Try.prog 35 = false := by kernel_rfl
theorem ty92 : isSlice Try.prog 35 = false := by kernel_rfl
theorem ty93 : isBool Try.prog 35 = false := by kernel_rfl
theorem ty94 : intOf' Try.prog 35 = none := by kernel_rfl
theorem ty95 : elemOf Try.prog 35 = none := by kernel_rfl
theorem ty96 : zeroOf Try.prog 35 = some (.agg #[.slice none 0 0]) := by kernel_rfl
theorem ty97 : fldOf Try.prog 35 0 = some (0, 33) := by kernel_rfl
theorem ty98 : placesOf Try.prog 35 = some [(0, 1)] := by kernel_rfl
theorem ty99 : szOf Try.prog 38 = some 1 := by kernel_rfl
theorem ty100 : aggOf Try.prog 38 = some false := by kernel_rfl
theorem ty101 : strOf Try.prog 38 = false := by kernel_rfl
theorem ty102 : isSlice Try.prog 38 = true := by kernel_rfl
theorem ty103 : isBool Try.prog 38 = false := by kernel_rfl
theorem ty104 : intOf' Try.prog 38 = none := by kernel_rfl
theorem ty105 : elemOf Try.prog 38 = some 44 := by kernel_rfl
theorem ty106 : zeroOf Try.prog 38 = some (.slice none 0 0) := by kernel_rfl
theorem ty107 : elOf Try.prog 38 = some (44, 4, 48, [.string ⟨#[]⟩, .int .i64 0, .string ⟨#[]⟩, .int .i64 0]) := by kernel_rfl
theorem ty108 : szOf Try.prog 40 = some 1 := by kernel_rfl
theorem ty109 : aggOf Try.prog 40 = some true := by kernel_rfl
theorem ty110 : strOf Try.prog 40 = false := by kernel_rfl
theorem ty111 : isSlice Try.prog 40 = false := by kernel_rfl
theorem ty112 : isBool Try.prog 40 = false := by kernel_rfl
theorem ty113 : intOf' Try.prog 40 = none := by kernel_rfl
theorem ty114 : elemOf Try.prog 40 = none := by kernel_rfl
theorem ty115 : zeroOf Try.prog 40 = some (.agg #[.slice none 0 0]) := by kernel_rfl
theorem ty116 : fldOf Try.prog 40 0 = some (0, 38) := by kernel_rfl
theorem ty117 : placesOf Try.prog 40 = some [(0, 1)] := by kernel_rfl
theorem ty118 : szOf Try.prog 44 = some 4 := by kernel_rfl
theorem ty119 : aggOf Try.prog 44 = some true := by kernel_rfl
theorem ty120 : strOf Try.prog 44 = false := by kernel_rfl
theorem ty121 : isSlice Try.prog 44 = false := by kernel_rfl
theorem ty122 : isBool Try.prog 44 = false := by kernel_rfl
theorem ty123 : intOf' Try.prog 44 = none := by kernel_rfl
theorem ty124 : elemOf Try.prog 44 = none := by kernel_rfl
theorem ty125 : zeroOf Try.prog 44 = some (.agg #[.string ⟨#[]⟩, .int .i64 0, .string ⟨#[]⟩, .int .i64 0]) := by kernel_rfl
theorem ty126 : fldOf Try.prog 44 0 = some (0, 9) := by kernel_rfl
theorem ty127 : fldOf Try.prog 44 1 = some (1, 3) := by kernel_rfl
theorem ty128 : fldOf Try.prog 44 2 = some (2, 9) := by kernel_rfl
theorem ty129 : fldOf Try.prog 44 3 = some (3, 3) := by kernel_rfl
theorem ty130 : placesOf Try.prog 44 = some [(0, 1), (1, 1), (2, 1), (3, 1)] := by kernel_rfl
theorem ty131 : eqKs Try.prog 44 = some [.str, .int, .str, .int] := by kernel_rfl
theorem ty132 : szOf Try.prog 59 = some 1 := by kernel_rfl
theorem ty133 : aggOf Try.prog 59 = some false := by kernel_rfl
theorem ty134 : strOf Try.prog 59 = false := by kernel_rfl
theorem ty135 : isSlice Try.prog 59 = true := by kernel_rfl
theorem ty136 : isBool Try.prog 59 = false := by kernel_rfl
theorem ty137 : intOf' Try.prog 59 = none := by kernel_rfl
theorem ty138 : elemOf Try.prog 59 = some 130 := by kernel_rfl
theorem ty139 : zeroOf Try.prog 59 = some (.slice none 0 0) := by kernel_rfl
theorem ty140 : elOf Try.prog 59 = some (130, 3, 56, [.int .i64 0, .slice none 0 0, .slice none 0 0]) := by kernel_rfl
theorem ty141 : szOf Try.prog 61 = some 7 := by kernel_rfl
theorem ty142 : aggOf Try.prog 61 = some true := by kernel_rfl
theorem ty143 : strOf Try.prog 61 = false := by kernel_rfl
theorem ty144 : isSlice Try.prog 61 = false := by kernel_rfl
theorem ty145 : isBool Try.prog 61 = false := by kernel_rfl
theorem ty146 : intOf' Try.prog 61 = none := by kernel_rfl
theorem ty147 : elemOf Try.prog 61 = none := by kernel_rfl
theorem ty148 : zeroOf Try.prog 61 = some (.agg #[.bool false, .bool false, .int .i64 0, .int .i64 0, .string ⟨#[]⟩, .int .i64 0, .int .i64 0]) := by kernel_rfl
theorem ty149 : fldOf Try.prog 61 0 = some (0, 4) := by kernel_rfl
theorem ty150 : fldOf Try.prog 61 1 = some (1, 4) := by kernel_rfl
theorem ty151 : fldOf Try.prog 61 2 = some (2, 3) := by kernel_rfl
theorem ty152 : fldOf Try.prog 61 3 = some (3, 3) := by kernel_rfl
theorem ty153 : fldOf Try.prog 61 4 = some (4, 9) := by kernel_rfl
theorem ty154 : fldOf Try.prog 61 5 = some (5, 3) := by kernel_rfl
theorem ty155 : fldOf Try.prog 61 6 = some (6, 3) := by kernel_rfl
theorem ty156 : placesOf Try.prog 61 = some [(0, 1), (1, 1), (2, 1), (3, 1), (4, 1), (5, 1), (6, 1)] := by kernel_rfl
theorem ty157 : eqKs Try.prog 61 = some [.bool, .bool, .int, .int, .str, .int, .int] := by kernel_rfl
theorem ty158 : szOf Try.prog 63 = some 10 := by kernel_rfl
theorem ty159 : aggOf Try.prog 63 = some true := by kernel_rfl
theorem ty160 : strOf Try.prog 63 = false := by kernel_rfl
theorem ty161 : isSlice Try.prog 63 = false := by kernel_rfl
theorem ty162 : isBool Try.prog 63 = false := by kernel_rfl
theorem ty163 : intOf' Try.prog 63 = none := by kernel_rfl
theorem ty164 : elemOf Try.prog 63 = none := by kernel_rfl
theorem ty165 : zeroOf Try.prog 63 = some (.agg #[.int .i64 0, .int .i64 0, .slice none 0 0, .bool false, .bool false, .int .i64 0, .int .i64 0, .string ⟨#[]⟩, .int .i64 0, .int .i64 0]) := by kernel_rfl
theorem ty166 : fldOf Try.prog 63 0 = some (0, 3) := by kernel_rfl
theorem ty167 : fldOf Try.prog 63 1 = some (1, 3) := by kernel_rfl
theorem ty168 : fldOf Try.prog 63 2 = some (2, 59) := by kernel_rfl
theorem ty169 : fldOf Try.prog 63 3 = some (3, 61) := by kernel_rfl
theorem ty170 : placesOf Try.prog 63 = some [(0, 1), (1, 1), (2, 1), (3, 7)] := by kernel_rfl
theorem ty171 : szOf Try.prog 66 = some 1 := by kernel_rfl
theorem ty172 : aggOf Try.prog 66 = some false := by kernel_rfl
theorem ty173 : strOf Try.prog 66 = false := by kernel_rfl
theorem ty174 : isSlice Try.prog 66 = true := by kernel_rfl
theorem ty175 : isBool Try.prog 66 = false := by kernel_rfl
theorem ty176 : intOf' Try.prog 66 = none := by kernel_rfl
theorem ty177 : elemOf Try.prog 66 = some 106 := by kernel_rfl
theorem ty178 : zeroOf Try.prog 66 = some (.slice none 0 0) := by kernel_rfl
theorem ty179 : elOf Try.prog 66 = some (106, 3, 56, [.int .i64 0, .slice none 0 0, .slice none 0 0]) := by kernel_rfl
theorem ty180 : szOf Try.prog 67 = some 7 := by kernel_rfl
theorem ty181 : aggOf Try.prog 67 = some true := by kernel_rfl
theorem ty182 : strOf Try.prog 67 = false := by kernel_rfl
theorem ty183 : isSlice Try.prog 67 = false := by kernel_rfl
theorem ty184 : isBool Try.prog 67 = false := by kernel_rfl
theorem ty185 : intOf' Try.prog 67 = none := by kernel_rfl
theorem ty186 : elemOf Try.prog 67 = none := by kernel_rfl
theorem ty187 : zeroOf Try.prog 67 = some (.agg #[.bool false, .bool false, .int .i64 0, .int .i64 0, .string ⟨#[]⟩, .int .i64 0, .int .i64 0]) := by kernel_rfl
theorem ty188 : fldOf Try.prog 67 0 = some (0, 4) := by kernel_rfl
theorem ty189 : fldOf Try.prog 67 1 = some (1, 4) := by kernel_rfl
theorem ty190 : fldOf Try.prog 67 2 = some (2, 3) := by kernel_rfl
theorem ty191 : fldOf Try.prog 67 3 = some (3, 3) := by kernel_rfl
theorem ty192 : fldOf Try.prog 67 4 = some (4, 9) := by kernel_rfl
theorem ty193 : fldOf Try.prog 67 5 = some (5, 3) := by kernel_rfl
theorem ty194 : fldOf Try.prog 67 6 = some (6, 3) := by kernel_rfl
theorem ty195 : placesOf Try.prog 67 = some [(0, 1), (1, 1), (2, 1), (3, 1), (4, 1), (5, 1), (6, 1)] := by kernel_rfl
theorem ty196 : eqKs Try.prog 67 = some [.bool, .bool, .int, .int, .str, .int, .int] := by kernel_rfl
theorem ty197 : szOf Try.prog 69 = some 10 := by kernel_rfl
theorem ty198 : aggOf Try.prog 69 = some true := by kernel_rfl
theorem ty199 : strOf Try.prog 69 = false := by kernel_rfl
theorem ty200 : isSlice Try.prog 69 = false := by kernel_rfl
theorem ty201 : isBool Try.prog 69 = false := by kernel_rfl
theorem ty202 : intOf' Try.prog 69 = none := by kernel_rfl
theorem ty203 : elemOf Try.prog 69 = none := by kernel_rfl
theorem ty204 : zeroOf Try.prog 69 = some (.agg #[.int .i64 0, .int .i64 0, .slice none 0 0, .bool false, .bool false, .int .i64 0, .int .i64 0, .string ⟨#[]⟩, .int .i64 0, .int .i64 0]) := by kernel_rfl
theorem ty205 : fldOf Try.prog 69 0 = some (0, 3) := by kernel_rfl
theorem ty206 : fldOf Try.prog 69 1 = some (1, 3) := by kernel_rfl
theorem ty207 : fldOf Try.prog 69 2 = some (2, 66) := by kernel_rfl
theorem ty208 : fldOf Try.prog 69 3 = some (3, 67) := by kernel_rfl
theorem ty209 : placesOf Try.prog 69 = some [(0, 1), (1, 1), (2, 1), (3, 7)] := by kernel_rfl
theorem ty210 : szOf Try.prog 73 = some 1 := by kernel_rfl
theorem ty211 : aggOf Try.prog 73 = some false := by kernel_rfl
theorem ty212 : strOf Try.prog 73 = false := by kernel_rfl
theorem ty213 : isSlice Try.prog 73 = true := by kernel_rfl
theorem ty214 : isBool Try.prog 73 = false := by kernel_rfl
theorem ty215 : intOf' Try.prog 73 = none := by kernel_rfl
theorem ty216 : elemOf Try.prog 73 = some 9 := by kernel_rfl
theorem ty217 : zeroOf Try.prog 73 = some (.slice none 0 0) := by kernel_rfl
theorem ty218 : elOf Try.prog 73 = some (9, 1, 16, [.string ⟨#[]⟩]) := by kernel_rfl
theorem ty219 : szOf Try.prog 77 = some 2 := by kernel_rfl
theorem ty220 : aggOf Try.prog 77 = some true := by kernel_rfl
theorem ty221 : strOf Try.prog 77 = false := by kernel_rfl
theorem ty222 : isSlice Try.prog 77 = false := by kernel_rfl
theorem ty223 : isBool Try.prog 77 = false := by kernel_rfl
theorem ty224 : intOf' Try.prog 77 = none := by kernel_rfl
theorem ty225 : elemOf Try.prog 77 = none := by kernel_rfl
theorem ty226 : zeroOf Try.prog 77 = some (.agg #[.string ⟨#[]⟩, .int .i64 0]) := by kernel_rfl
theorem ty227 : fldOf Try.prog 77 0 = some (0, 9) := by kernel_rfl
theorem ty228 : fldOf Try.prog 77 1 = some (1, 3) := by kernel_rfl
theorem ty229 : placesOf Try.prog 77 = some [(0, 1), (1, 1)] := by kernel_rfl
theorem ty230 : eqKs Try.prog 77 = some [.str, .int] := by kernel_rfl
theorem ty231 : szOf Try.prog 78 = some 2 := by kernel_rfl
theorem ty232 : aggOf Try.prog 78 = some true := by kernel_rfl
theorem ty233 : strOf Try.prog 78 = false := by kernel_rfl
theorem ty234 : isSlice Try.prog 78 = false := by kernel_rfl
theorem ty235 : isBool Try.prog 78 = false := by kernel_rfl
theorem ty236 : intOf' Try.prog 78 = none := by kernel_rfl
theorem ty237 : elemOf Try.prog 78 = none := by kernel_rfl
theorem ty238 : zeroOf Try.prog 78 = some (.agg #[.string ⟨#[]⟩, .int .i64 0]) := by kernel_rfl
theorem ty239 : fldOf Try.prog 78 0 = some (0, 9) := by kernel_rfl
theorem ty240 : fldOf Try.prog 78 1 = some (1, 3) := by kernel_rfl
theorem ty241 : placesOf Try.prog 78 = some [(0, 1), (1, 1)] := by kernel_rfl
theorem ty242 : eqKs Try.prog 78 = some [.str, .int] := by kernel_rfl
theorem ty243 : szOf Try.prog 81 = some 1 := by kernel_rfl
theorem ty244 : aggOf Try.prog 81 = some false := by kernel_rfl
theorem ty245 : strOf Try.prog 81 = false := by kernel_rfl
theorem ty246 : isSlice Try.prog 81 = true := by kernel_rfl
theorem ty247 : isBool Try.prog 81 = false := by kernel_rfl
theorem ty248 : intOf' Try.prog 81 = none := by kernel_rfl
theorem ty249 : elemOf Try.prog 81 = some 5 := by kernel_rfl
theorem ty250 : zeroOf Try.prog 81 = some (.slice none 0 0) := by kernel_rfl
theorem ty251 : elOf Try.prog 81 = some (5, 1, 1, [.int .u8 0]) := by kernel_rfl
theorem ty252 : szOf Try.prog 102 = some 1 := by kernel_rfl
theorem ty253 : aggOf Try.prog 102 = some false := by kernel_rfl
theorem ty254 : strOf Try.prog 102 = false := by kernel_rfl
theorem ty255 : isSlice Try.prog 102 = true := by kernel_rfl
theorem ty256 : isBool Try.prog 102 = false := by kernel_rfl
theorem ty257 : intOf' Try.prog 102 = none := by kernel_rfl
theorem ty258 : elemOf Try.prog 102 = some 135 := by kernel_rfl
theorem ty259 : zeroOf Try.prog 102 = some (.slice none 0 0) := by kernel_rfl
theorem ty260 : elOf Try.prog 102 = some (135, 5, 56, [.int .i64 0, .int .i64 0, .int .i64 0, .int .i64 0, .slice none 0 0]) := by kernel_rfl
theorem ty261 : szOf Try.prog 104 = some 2 := by kernel_rfl
theorem ty262 : aggOf Try.prog 104 = some true := by kernel_rfl
theorem ty263 : strOf Try.prog 104 = false := by kernel_rfl
theorem ty264 : isSlice Try.prog 104 = false := by kernel_rfl
theorem ty265 : isBool Try.prog 104 = false := by kernel_rfl
theorem ty266 : intOf' Try.prog 104 = none := by kernel_rfl
theorem ty267 : elemOf Try.prog 104 = none := by kernel_rfl
theorem ty268 : zeroOf Try.prog 104 = some (.agg #[.slice none 0 0, .slice none 0 0]) := by kernel_rfl
theorem ty269 : fldOf Try.prog 104 0 = some (0, 102) := by kernel_rfl
theorem ty270 : fldOf Try.prog 104 1 = some (1, 73) := by kernel_rfl
theorem ty271 : placesOf Try.prog 104 = some [(0, 1), (1, 1)] := by kernel_rfl
theorem ty272 : szOf Try.prog 106 = some 3 := by kernel_rfl
theorem ty273 : aggOf Try.prog 106 = some true := by kernel_rfl
theorem ty274 : strOf Try.prog 106 = false := by kernel_rfl
theorem ty275 : isSlice Try.prog 106 = false := by kernel_rfl
theorem ty276 : isBool Try.prog 106 = false := by kernel_rfl
theorem ty277 : intOf' Try.prog 106 = none := by kernel_rfl
theorem ty278 : elemOf Try.prog 106 = none := by kernel_rfl
theorem ty279 : zeroOf Try.prog 106 = some (.agg #[.int .i64 0, .slice none 0 0, .slice none 0 0]) := by kernel_rfl
theorem ty280 : fldOf Try.prog 106 0 = some (0, 3) := by kernel_rfl
theorem ty281 : fldOf Try.prog 106 1 = some (1, 104) := by kernel_rfl
theorem ty282 : placesOf Try.prog 106 = some [(0, 1), (1, 2)] := by kernel_rfl
theorem ty283 : szOf Try.prog 114 = some 1 := by kernel_rfl
theorem ty284 : aggOf Try.prog 114 = some false := by kernel_rfl
theorem ty285 : strOf Try.prog 114 = false := by kernel_rfl
theorem ty286 : isSlice Try.prog 114 = false := by kernel_rfl
theorem ty287 : isBool Try.prog 114 = false := by kernel_rfl
theorem ty288 : intOf' Try.prog 114 = some .u64 := by kernel_rfl
theorem ty289 : elemOf Try.prog 114 = none := by kernel_rfl
theorem ty290 : zeroOf Try.prog 114 = some (.int .u64 0) := by kernel_rfl
theorem ty291 : szOf Try.prog 116 = some 4 := by kernel_rfl
theorem ty292 : aggOf Try.prog 116 = some true := by kernel_rfl
theorem ty293 : strOf Try.prog 116 = false := by kernel_rfl
theorem ty294 : isSlice Try.prog 116 = false := by kernel_rfl
theorem ty295 : isBool Try.prog 116 = false := by kernel_rfl
theorem ty296 : intOf' Try.prog 116 = none := by kernel_rfl
theorem ty297 : elemOf Try.prog 116 = none := by kernel_rfl
theorem ty298 : zeroOf Try.prog 116 = some (.agg #[.string ⟨#[]⟩, .int .i64 0, .string ⟨#[]⟩, .int .i64 0]) := by kernel_rfl
theorem ty299 : fldOf Try.prog 116 0 = some (0, 9) := by kernel_rfl
theorem ty300 : fldOf Try.prog 116 1 = some (1, 3) := by kernel_rfl
theorem ty301 : fldOf Try.prog 116 2 = some (2, 9) := by kernel_rfl
theorem ty302 : fldOf Try.prog 116 3 = some (3, 3) := by kernel_rfl
theorem ty303 : placesOf Try.prog 116 = some [(0, 1), (1, 1), (2, 1), (3, 1)] := by kernel_rfl
theorem ty304 : eqKs Try.prog 116 = some [.str, .int, .str, .int] := by kernel_rfl
theorem ty305 : szOf Try.prog 126 = some 1 := by kernel_rfl
theorem ty306 : aggOf Try.prog 126 = some false := by kernel_rfl
theorem ty307 : strOf Try.prog 126 = false := by kernel_rfl
theorem ty308 : isSlice Try.prog 126 = true := by kernel_rfl
theorem ty309 : isBool Try.prog 126 = false := by kernel_rfl
theorem ty310 : intOf' Try.prog 126 = none := by kernel_rfl
theorem ty311 : elemOf Try.prog 126 = some 161 := by kernel_rfl
theorem ty312 : zeroOf Try.prog 126 = some (.slice none 0 0) := by kernel_rfl
theorem ty313 : elOf Try.prog 126 = some (161, 5, 56, [.int .i64 0, .int .i64 0, .int .i64 0, .int .i64 0, .slice none 0 0]) := by kernel_rfl
theorem ty314 : szOf Try.prog 128 = some 2 := by kernel_rfl
theorem ty315 : aggOf Try.prog 128 = some true := by kernel_rfl
theorem ty316 : strOf Try.prog 128 = false := by kernel_rfl
theorem ty317 : isSlice Try.prog 128 = false := by kernel_rfl
theorem ty318 : isBool Try.prog 128 = false := by kernel_rfl
theorem ty319 : intOf' Try.prog 128 = none := by kernel_rfl
theorem ty320 : elemOf Try.prog 128 = none := by kernel_rfl
theorem ty321 : zeroOf Try.prog 128 = some (.agg #[.slice none 0 0, .slice none 0 0]) := by kernel_rfl
theorem ty322 : fldOf Try.prog 128 0 = some (0, 126) := by kernel_rfl
theorem ty323 : fldOf Try.prog 128 1 = some (1, 73) := by kernel_rfl
theorem ty324 : placesOf Try.prog 128 = some [(0, 1), (1, 1)] := by kernel_rfl
theorem ty325 : szOf Try.prog 130 = some 3 := by kernel_rfl
theorem ty326 : aggOf Try.prog 130 = some true := by kernel_rfl
theorem ty327 : strOf Try.prog 130 = false := by kernel_rfl
theorem ty328 : isSlice Try.prog 130 = false := by kernel_rfl
theorem ty329 : isBool Try.prog 130 = false := by kernel_rfl
theorem ty330 : intOf' Try.prog 130 = none := by kernel_rfl
theorem ty331 : elemOf Try.prog 130 = none := by kernel_rfl
theorem ty332 : zeroOf Try.prog 130 = some (.agg #[.int .i64 0, .slice none 0 0, .slice none 0 0]) := by kernel_rfl
theorem ty333 : fldOf Try.prog 130 0 = some (0, 3) := by kernel_rfl
theorem ty334 : fldOf Try.prog 130 1 = some (1, 128) := by kernel_rfl
theorem ty335 : placesOf Try.prog 130 = some [(0, 1), (1, 2)] := by kernel_rfl
theorem ty336 : szOf Try.prog 133 = some 1 := by kernel_rfl
theorem ty337 : aggOf Try.prog 133 = some false := by kernel_rfl
theorem ty338 : strOf Try.prog 133 = false := by kernel_rfl
theorem ty339 : isSlice Try.prog 133 = true := by kernel_rfl
theorem ty340 : isBool Try.prog 133 = false := by kernel_rfl
theorem ty341 : intOf' Try.prog 133 = none := by kernel_rfl
theorem ty342 : elemOf Try.prog 133 = some 3 := by kernel_rfl
theorem ty343 : zeroOf Try.prog 133 = some (.slice none 0 0) := by kernel_rfl
theorem ty344 : elOf Try.prog 133 = some (3, 1, 8, [.int .i64 0]) := by kernel_rfl
theorem ty345 : szOf Try.prog 135 = some 5 := by kernel_rfl
theorem ty346 : aggOf Try.prog 135 = some true := by kernel_rfl
theorem ty347 : strOf Try.prog 135 = false := by kernel_rfl
theorem ty348 : isSlice Try.prog 135 = false := by kernel_rfl
theorem ty349 : isBool Try.prog 135 = false := by kernel_rfl
theorem ty350 : intOf' Try.prog 135 = none := by kernel_rfl
theorem ty351 : elemOf Try.prog 135 = none := by kernel_rfl
theorem ty352 : zeroOf Try.prog 135 = some (.agg #[.int .i64 0, .int .i64 0, .int .i64 0, .int .i64 0, .slice none 0 0]) := by kernel_rfl
theorem ty353 : fldOf Try.prog 135 0 = some (0, 3) := by kernel_rfl
theorem ty354 : fldOf Try.prog 135 1 = some (1, 3) := by kernel_rfl
theorem ty355 : fldOf Try.prog 135 2 = some (2, 3) := by kernel_rfl
theorem ty356 : fldOf Try.prog 135 3 = some (3, 3) := by kernel_rfl
theorem ty357 : fldOf Try.prog 135 4 = some (4, 133) := by kernel_rfl
theorem ty358 : placesOf Try.prog 135 = some [(0, 1), (1, 1), (2, 1), (3, 1), (4, 1)] := by kernel_rfl
theorem ty359 : szOf Try.prog 146 = some 1 := by kernel_rfl
theorem ty360 : aggOf Try.prog 146 = some false := by kernel_rfl
theorem ty361 : szOf Try.prog 159 = some 1 := by kernel_rfl
theorem ty362 : aggOf Try.prog 159 = some false := by kernel_rfl
theorem ty363 : szOf Try.prog 161 = some 5 := by kernel_rfl
theorem ty364 : aggOf Try.prog 161 = some true := by kernel_rfl
theorem ty365 : strOf Try.prog 161 = false := by kernel_rfl
theorem ty366 : isSlice Try.prog 161 = false := by kernel_rfl
theorem ty367 : isBool Try.prog 161 = false := by kernel_rfl
theorem ty368 : intOf' Try.prog 161 = none := by kernel_rfl
theorem ty369 : elemOf Try.prog 161 = none := by kernel_rfl
theorem ty370 : zeroOf Try.prog 161 = some (.agg #[.int .i64 0, .int .i64 0, .int .i64 0, .int .i64 0, .slice none 0 0]) := by kernel_rfl
theorem ty371 : fldOf Try.prog 161 0 = some (0, 3) := by kernel_rfl
theorem ty372 : fldOf Try.prog 161 1 = some (1, 3) := by kernel_rfl
theorem ty373 : fldOf Try.prog 161 2 = some (2, 3) := by kernel_rfl
theorem ty374 : fldOf Try.prog 161 3 = some (3, 3) := by kernel_rfl
theorem ty375 : fldOf Try.prog 161 4 = some (4, 133) := by kernel_rfl
theorem ty376 : placesOf Try.prog 161 = some [(0, 1), (1, 1), (2, 1), (3, 1), (4, 1)] := by kernel_rfl
theorem ty377 : szOf Try.prog 173 = some 1 := by kernel_rfl
theorem ty378 : aggOf Try.prog 173 = some false := by kernel_rfl
theorem ty379 : strOf Try.prog 173 = false := by kernel_rfl
theorem ty380 : isSlice Try.prog 173 = false := by kernel_rfl
theorem ty381 : isBool Try.prog 173 = false := by kernel_rfl
theorem ty382 : intOf' Try.prog 173 = some .u32 := by kernel_rfl
theorem ty383 : elemOf Try.prog 173 = none := by kernel_rfl
theorem ty384 : zeroOf Try.prog 173 = some (.int .u32 0) := by kernel_rfl
theorem tys0 : (szOf Try.prog 2 = some 1) ∧ (aggOf Try.prog 2 = some false) ∧ (strOf Try.prog 2 = false) ∧ (isSlice Try.prog 2 = false) ∧ (isBool Try.prog 2 = false) ∧ (intOf' Try.prog 2 = some .i64) ∧ (elemOf Try.prog 2 = none) ∧ (zeroOf Try.prog 2 = some (.int .i64 0)) ∧ (szOf Try.prog 3 = some 1) ∧ (aggOf Try.prog 3 = some false) ∧ (strOf Try.prog 3 = false) ∧ (isSlice Try.prog 3 = false) ∧ (isBool Try.prog 3 = false) ∧ (intOf' Try.prog 3 = some .i64) ∧ (elemOf Try.prog 3 = none) ∧ (zeroOf Try.prog 3 = some (.int .i64 0)) ∧ (szOf Try.prog 4 = some 1) ∧ (aggOf Try.prog 4 = some false) ∧ (strOf Try.prog 4 = false) ∧ (isSlice Try.prog 4 = false) ∧ (isBool Try.prog 4 = true) ∧ (intOf' Try.prog 4 = none) ∧ (elemOf Try.prog 4 = none) ∧ (zeroOf Try.prog 4 = some (.bool false)) ∧ (szOf Try.prog 5 = some 1) ∧ (aggOf Try.prog 5 = some false) ∧ (strOf Try.prog 5 = false) ∧ (isSlice Try.prog 5 = false) ∧ (isBool Try.prog 5 = false) ∧ (intOf' Try.prog 5 = some .u8) ∧ (elemOf Try.prog 5 = none) ∧ (zeroOf Try.prog 5 = some (.int .u8 0)) ∧ (szOf Try.prog 9 = some 1) ∧ (aggOf Try.prog 9 = some false) ∧ (strOf Try.prog 9 = true) ∧ (isSlice Try.prog 9 = false) ∧ (isBool Try.prog 9 = false) ∧ (intOf' Try.prog 9 = none) ∧ (elemOf Try.prog 9 = none) ∧ (zeroOf Try.prog 9 = some (.string ⟨#[]⟩)) := ⟨ty0, ty1, ty2, ty3, ty4, ty5, ty6, ty7, ty8, ty9, ty10, ty11, ty12, ty13, ty14, ty15, ty16, ty17, ty18, ty19, ty20, ty21, ty22, ty23, ty24, ty25, ty26, ty27, ty28, ty29, ty30, ty31, ty32, ty33, ty34, ty35, ty36, ty37, ty38, ty39⟩
theorem tys1 : (szOf Try.prog 12 = some 1) ∧ (aggOf Try.prog 12 = some false) ∧ (strOf Try.prog 12 = false) ∧ (isSlice Try.prog 12 = false) ∧ (isBool Try.prog 12 = false) ∧ (intOf' Try.prog 12 = some .u64) ∧ (elemOf Try.prog 12 = none) ∧ (zeroOf Try.prog 12 = some (.int .u64 0)) ∧ (szOf Try.prog 15 = some 1) ∧ (aggOf Try.prog 15 = some false) ∧ (szOf Try.prog 16 = some 1) ∧ (aggOf Try.prog 16 = some false) ∧ (szOf Try.prog 17 = some 1) ∧ (aggOf Try.prog 17 = some false) ∧ (szOf Try.prog 21 = some 1) ∧ (aggOf Try.prog 21 = some false) ∧ (strOf Try.prog 21 = false) ∧ (isSlice Try.prog 21 = false) ∧ (isBool Try.prog 21 = false) ∧ (intOf' Try.prog 21 = some .i32) ∧ (elemOf Try.prog 21 = none) ∧ (zeroOf Try.prog 21 = some (.int .i32 0)) ∧ (szOf Try.prog 24 = some 1) ∧ (aggOf Try.prog 24 = some false) ∧ (strOf Try.prog 24 = false) ∧ (isSlice Try.prog 24 = true) ∧ (isBool Try.prog 24 = false) ∧ (intOf' Try.prog 24 = none) ∧ (elemOf Try.prog 24 = some 77) ∧ (zeroOf Try.prog 24 = some (.slice none 0 0)) ∧ (elOf Try.prog 24 = some (77, 2, 24, [.string ⟨#[]⟩, .int .i64 0])) ∧ (szOf Try.prog 27 = some 1) ∧ (aggOf Try.prog 27 = some false) ∧ (strOf Try.prog 27 = false) ∧ (isSlice Try.prog 27 = true) ∧ (isBool Try.prog 27 = false) ∧ (intOf' Try.prog 27 = none) ∧ (elemOf Try.prog 27 = some 78) ∧ (zeroOf Try.prog 27 = some (.slice none 0 0)) ∧ (elOf Try.prog 27 = some (78, 2, 24, [.string ⟨#[]⟩, .int .i64 0])) := ⟨ty40, ty41, ty42, ty43, ty44, ty45, ty46, ty47, ty48, ty49, ty50, ty51, ty52, ty53, ty54, ty55, ty56, ty57, ty58, ty59, ty60, ty61, ty62, ty63, ty64, ty65, ty66, ty67, ty68, ty69, ty70, ty71, ty72, ty73, ty74, ty75, ty76, ty77, ty78, ty79⟩
theorem tys2 : (szOf Try.prog 33 = some 1) ∧ (aggOf Try.prog 33 = some false) ∧ (strOf Try.prog 33 = false) ∧ (isSlice Try.prog 33 = true) ∧ (isBool Try.prog 33 = false) ∧ (intOf' Try.prog 33 = none) ∧ (elemOf Try.prog 33 = some 116) ∧ (zeroOf Try.prog 33 = some (.slice none 0 0)) ∧ (elOf Try.prog 33 = some (116, 4, 48, [.string ⟨#[]⟩, .int .i64 0, .string ⟨#[]⟩, .int .i64 0])) ∧ (szOf Try.prog 35 = some 1) ∧ (aggOf Try.prog 35 = some true) ∧ (strOf Try.prog 35 = false) ∧ (isSlice Try.prog 35 = false) ∧ (isBool Try.prog 35 = false) ∧ (intOf' Try.prog 35 = none) ∧ (elemOf Try.prog 35 = none) ∧ (zeroOf Try.prog 35 = some (.agg #[.slice none 0 0])) ∧ (fldOf Try.prog 35 0 = some (0, 33)) ∧ (placesOf Try.prog 35 = some [(0, 1)]) ∧ (szOf Try.prog 38 = some 1) ∧ (aggOf Try.prog 38 = some false) ∧ (strOf Try.prog 38 = false) ∧ (isSlice Try.prog 38 = true) ∧ (isBool Try.prog 38 = false) ∧ (intOf' Try.prog 38 = none) ∧ (elemOf Try.prog 38 = some 44) ∧ (zeroOf Try.prog 38 = some (.slice none 0 0)) ∧ (elOf Try.prog 38 = some (44, 4, 48, [.string ⟨#[]⟩, .int .i64 0, .string ⟨#[]⟩, .int .i64 0])) ∧ (szOf Try.prog 40 = some 1) ∧ (aggOf Try.prog 40 = some true) ∧ (strOf Try.prog 40 = false) ∧ (isSlice Try.prog 40 = false) ∧ (isBool Try.prog 40 = false) ∧ (intOf' Try.prog 40 = none) ∧ (elemOf Try.prog 40 = none) ∧ (zeroOf Try.prog 40 = some (.agg #[.slice none 0 0])) ∧ (fldOf Try.prog 40 0 = some (0, 38)) ∧ (placesOf Try.prog 40 = some [(0, 1)]) ∧ (szOf Try.prog 44 = some 4) ∧ (aggOf Try.prog 44 = some true) := ⟨ty80, ty81, ty82, ty83, ty84, ty85, ty86, ty87, ty88, ty89, ty90, ty91, ty92, ty93, ty94, ty95, ty96, ty97, ty98, ty99, ty100, ty101, ty102, ty103, ty104, ty105, ty106, ty107, ty108, ty109, ty110, ty111, ty112, ty113, ty114, ty115, ty116, ty117, ty118, ty119⟩
theorem tys3 : (strOf Try.prog 44 = false) ∧ (isSlice Try.prog 44 = false) ∧ (isBool Try.prog 44 = false) ∧ (intOf' Try.prog 44 = none) ∧ (elemOf Try.prog 44 = none) ∧ (zeroOf Try.prog 44 = some (.agg #[.string ⟨#[]⟩, .int .i64 0, .string ⟨#[]⟩, .int .i64 0])) ∧ (fldOf Try.prog 44 0 = some (0, 9)) ∧ (fldOf Try.prog 44 1 = some (1, 3)) ∧ (fldOf Try.prog 44 2 = some (2, 9)) ∧ (fldOf Try.prog 44 3 = some (3, 3)) ∧ (placesOf Try.prog 44 = some [(0, 1), (1, 1), (2, 1), (3, 1)]) ∧ (eqKs Try.prog 44 = some [.str, .int, .str, .int]) ∧ (szOf Try.prog 59 = some 1) ∧ (aggOf Try.prog 59 = some false) ∧ (strOf Try.prog 59 = false) ∧ (isSlice Try.prog 59 = true) ∧ (isBool Try.prog 59 = false) ∧ (intOf' Try.prog 59 = none) ∧ (elemOf Try.prog 59 = some 130) ∧ (zeroOf Try.prog 59 = some (.slice none 0 0)) ∧ (elOf Try.prog 59 = some (130, 3, 56, [.int .i64 0, .slice none 0 0, .slice none 0 0])) ∧ (szOf Try.prog 61 = some 7) ∧ (aggOf Try.prog 61 = some true) ∧ (strOf Try.prog 61 = false) ∧ (isSlice Try.prog 61 = false) ∧ (isBool Try.prog 61 = false) ∧ (intOf' Try.prog 61 = none) ∧ (elemOf Try.prog 61 = none) ∧ (zeroOf Try.prog 61 = some (.agg #[.bool false, .bool false, .int .i64 0, .int .i64 0, .string ⟨#[]⟩, .int .i64 0, .int .i64 0])) ∧ (fldOf Try.prog 61 0 = some (0, 4)) ∧ (fldOf Try.prog 61 1 = some (1, 4)) ∧ (fldOf Try.prog 61 2 = some (2, 3)) ∧ (fldOf Try.prog 61 3 = some (3, 3)) ∧ (fldOf Try.prog 61 4 = some (4, 9)) ∧ (fldOf Try.prog 61 5 = some (5, 3)) ∧ (fldOf Try.prog 61 6 = some (6, 3)) ∧ (placesOf Try.prog 61 = some [(0, 1), (1, 1), (2, 1), (3, 1), (4, 1), (5, 1), (6, 1)]) ∧ (eqKs Try.prog 61 = some [.bool, .bool, .int, .int, .str, .int, .int]) ∧ (szOf Try.prog 63 = some 10) ∧ (aggOf Try.prog 63 = some true) := ⟨ty120, ty121, ty122, ty123, ty124, ty125, ty126, ty127, ty128, ty129, ty130, ty131, ty132, ty133, ty134, ty135, ty136, ty137, ty138, ty139, ty140, ty141, ty142, ty143, ty144, ty145, ty146, ty147, ty148, ty149, ty150, ty151, ty152, ty153, ty154, ty155, ty156, ty157, ty158, ty159⟩
theorem tys4 : (strOf Try.prog 63 = false) ∧ (isSlice Try.prog 63 = false) ∧ (isBool Try.prog 63 = false) ∧ (intOf' Try.prog 63 = none) ∧ (elemOf Try.prog 63 = none) ∧ (zeroOf Try.prog 63 = some (.agg #[.int .i64 0, .int .i64 0, .slice none 0 0, .bool false, .bool false, .int .i64 0, .int .i64 0, .string ⟨#[]⟩, .int .i64 0, .int .i64 0])) ∧ (fldOf Try.prog 63 0 = some (0, 3)) ∧ (fldOf Try.prog 63 1 = some (1, 3)) ∧ (fldOf Try.prog 63 2 = some (2, 59)) ∧ (fldOf Try.prog 63 3 = some (3, 61)) ∧ (placesOf Try.prog 63 = some [(0, 1), (1, 1), (2, 1), (3, 7)]) ∧ (szOf Try.prog 66 = some 1) ∧ (aggOf Try.prog 66 = some false) ∧ (strOf Try.prog 66 = false) ∧ (isSlice Try.prog 66 = true) ∧ (isBool Try.prog 66 = false) ∧ (intOf' Try.prog 66 = none) ∧ (elemOf Try.prog 66 = some 106) ∧ (zeroOf Try.prog 66 = some (.slice none 0 0)) ∧ (elOf Try.prog 66 = some (106, 3, 56, [.int .i64 0, .slice none 0 0, .slice none 0 0])) ∧ (szOf Try.prog 67 = some 7) ∧ (aggOf Try.prog 67 = some true) ∧ (strOf Try.prog 67 = false) ∧ (isSlice Try.prog 67 = false) ∧ (isBool Try.prog 67 = false) ∧ (intOf' Try.prog 67 = none) ∧ (elemOf Try.prog 67 = none) ∧ (zeroOf Try.prog 67 = some (.agg #[.bool false, .bool false, .int .i64 0, .int .i64 0, .string ⟨#[]⟩, .int .i64 0, .int .i64 0])) ∧ (fldOf Try.prog 67 0 = some (0, 4)) ∧ (fldOf Try.prog 67 1 = some (1, 4)) ∧ (fldOf Try.prog 67 2 = some (2, 3)) ∧ (fldOf Try.prog 67 3 = some (3, 3)) ∧ (fldOf Try.prog 67 4 = some (4, 9)) ∧ (fldOf Try.prog 67 5 = some (5, 3)) ∧ (fldOf Try.prog 67 6 = some (6, 3)) ∧ (placesOf Try.prog 67 = some [(0, 1), (1, 1), (2, 1), (3, 1), (4, 1), (5, 1), (6, 1)]) ∧ (eqKs Try.prog 67 = some [.bool, .bool, .int, .int, .str, .int, .int]) ∧ (szOf Try.prog 69 = some 10) ∧ (aggOf Try.prog 69 = some true) ∧ (strOf Try.prog 69 = false) := ⟨ty160, ty161, ty162, ty163, ty164, ty165, ty166, ty167, ty168, ty169, ty170, ty171, ty172, ty173, ty174, ty175, ty176, ty177, ty178, ty179, ty180, ty181, ty182, ty183, ty184, ty185, ty186, ty187, ty188, ty189, ty190, ty191, ty192, ty193, ty194, ty195, ty196, ty197, ty198, ty199⟩
theorem tys5 : (isSlice Try.prog 69 = false) ∧ (isBool Try.prog 69 = false) ∧ (intOf' Try.prog 69 = none) ∧ (elemOf Try.prog 69 = none) ∧ (zeroOf Try.prog 69 = some (.agg #[.int .i64 0, .int .i64 0, .slice none 0 0, .bool false, .bool false, .int .i64 0, .int .i64 0, .string ⟨#[]⟩, .int .i64 0, .int .i64 0])) ∧ (fldOf Try.prog 69 0 = some (0, 3)) ∧ (fldOf Try.prog 69 1 = some (1, 3)) ∧ (fldOf Try.prog 69 2 = some (2, 66)) ∧ (fldOf Try.prog 69 3 = some (3, 67)) ∧ (placesOf Try.prog 69 = some [(0, 1), (1, 1), (2, 1), (3, 7)]) ∧ (szOf Try.prog 73 = some 1) ∧ (aggOf Try.prog 73 = some false) ∧ (strOf Try.prog 73 = false) ∧ (isSlice Try.prog 73 = true) ∧ (isBool Try.prog 73 = false) ∧ (intOf' Try.prog 73 = none) ∧ (elemOf Try.prog 73 = some 9) ∧ (zeroOf Try.prog 73 = some (.slice none 0 0)) ∧ (elOf Try.prog 73 = some (9, 1, 16, [.string ⟨#[]⟩])) ∧ (szOf Try.prog 77 = some 2) ∧ (aggOf Try.prog 77 = some true) ∧ (strOf Try.prog 77 = false) ∧ (isSlice Try.prog 77 = false) ∧ (isBool Try.prog 77 = false) ∧ (intOf' Try.prog 77 = none) ∧ (elemOf Try.prog 77 = none) ∧ (zeroOf Try.prog 77 = some (.agg #[.string ⟨#[]⟩, .int .i64 0])) ∧ (fldOf Try.prog 77 0 = some (0, 9)) ∧ (fldOf Try.prog 77 1 = some (1, 3)) ∧ (placesOf Try.prog 77 = some [(0, 1), (1, 1)]) ∧ (eqKs Try.prog 77 = some [.str, .int]) ∧ (szOf Try.prog 78 = some 2) ∧ (aggOf Try.prog 78 = some true) ∧ (strOf Try.prog 78 = false) ∧ (isSlice Try.prog 78 = false) ∧ (isBool Try.prog 78 = false) ∧ (intOf' Try.prog 78 = none) ∧ (elemOf Try.prog 78 = none) ∧ (zeroOf Try.prog 78 = some (.agg #[.string ⟨#[]⟩, .int .i64 0])) ∧ (fldOf Try.prog 78 0 = some (0, 9)) := ⟨ty200, ty201, ty202, ty203, ty204, ty205, ty206, ty207, ty208, ty209, ty210, ty211, ty212, ty213, ty214, ty215, ty216, ty217, ty218, ty219, ty220, ty221, ty222, ty223, ty224, ty225, ty226, ty227, ty228, ty229, ty230, ty231, ty232, ty233, ty234, ty235, ty236, ty237, ty238, ty239⟩
theorem tys6 : (fldOf Try.prog 78 1 = some (1, 3)) ∧ (placesOf Try.prog 78 = some [(0, 1), (1, 1)]) ∧ (eqKs Try.prog 78 = some [.str, .int]) ∧ (szOf Try.prog 81 = some 1) ∧ (aggOf Try.prog 81 = some false) ∧ (strOf Try.prog 81 = false) ∧ (isSlice Try.prog 81 = true) ∧ (isBool Try.prog 81 = false) ∧ (intOf' Try.prog 81 = none) ∧ (elemOf Try.prog 81 = some 5) ∧ (zeroOf Try.prog 81 = some (.slice none 0 0)) ∧ (elOf Try.prog 81 = some (5, 1, 1, [.int .u8 0])) ∧ (szOf Try.prog 102 = some 1) ∧ (aggOf Try.prog 102 = some false) ∧ (strOf Try.prog 102 = false) ∧ (isSlice Try.prog 102 = true) ∧ (isBool Try.prog 102 = false) ∧ (intOf' Try.prog 102 = none) ∧ (elemOf Try.prog 102 = some 135) ∧ (zeroOf Try.prog 102 = some (.slice none 0 0)) ∧ (elOf Try.prog 102 = some (135, 5, 56, [.int .i64 0, .int .i64 0, .int .i64 0, .int .i64 0, .slice none 0 0])) ∧ (szOf Try.prog 104 = some 2) ∧ (aggOf Try.prog 104 = some true) ∧ (strOf Try.prog 104 = false) ∧ (isSlice Try.prog 104 = false) ∧ (isBool Try.prog 104 = false) ∧ (intOf' Try.prog 104 = none) ∧ (elemOf Try.prog 104 = none) ∧ (zeroOf Try.prog 104 = some (.agg #[.slice none 0 0, .slice none 0 0])) ∧ (fldOf Try.prog 104 0 = some (0, 102)) ∧ (fldOf Try.prog 104 1 = some (1, 73)) ∧ (placesOf Try.prog 104 = some [(0, 1), (1, 1)]) ∧ (szOf Try.prog 106 = some 3) ∧ (aggOf Try.prog 106 = some true) ∧ (strOf Try.prog 106 = false) ∧ (isSlice Try.prog 106 = false) ∧ (isBool Try.prog 106 = false) ∧ (intOf' Try.prog 106 = none) ∧ (elemOf Try.prog 106 = none) ∧ (zeroOf Try.prog 106 = some (.agg #[.int .i64 0, .slice none 0 0, .slice none 0 0])) := ⟨ty240, ty241, ty242, ty243, ty244, ty245, ty246, ty247, ty248, ty249, ty250, ty251, ty252, ty253, ty254, ty255, ty256, ty257, ty258, ty259, ty260, ty261, ty262, ty263, ty264, ty265, ty266, ty267, ty268, ty269, ty270, ty271, ty272, ty273, ty274, ty275, ty276, ty277, ty278, ty279⟩
theorem tys7 : (fldOf Try.prog 106 0 = some (0, 3)) ∧ (fldOf Try.prog 106 1 = some (1, 104)) ∧ (placesOf Try.prog 106 = some [(0, 1), (1, 2)]) ∧ (szOf Try.prog 114 = some 1) ∧ (aggOf Try.prog 114 = some false) ∧ (strOf Try.prog 114 = false) ∧ (isSlice Try.prog 114 = false) ∧ (isBool Try.prog 114 = false) ∧ (intOf' Try.prog 114 = some .u64) ∧ (elemOf Try.prog 114 = none) ∧ (zeroOf Try.prog 114 = some (.int .u64 0)) ∧ (szOf Try.prog 116 = some 4) ∧ (aggOf Try.prog 116 = some true) ∧ (strOf Try.prog 116 = false) ∧ (isSlice Try.prog 116 = false) ∧ (isBool Try.prog 116 = false) ∧ (intOf' Try.prog 116 = none) ∧ (elemOf Try.prog 116 = none) ∧ (zeroOf Try.prog 116 = some (.agg #[.string ⟨#[]⟩, .int .i64 0, .string ⟨#[]⟩, .int .i64 0])) ∧ (fldOf Try.prog 116 0 = some (0, 9)) ∧ (fldOf Try.prog 116 1 = some (1, 3)) ∧ (fldOf Try.prog 116 2 = some (2, 9)) ∧ (fldOf Try.prog 116 3 = some (3, 3)) ∧ (placesOf Try.prog 116 = some [(0, 1), (1, 1), (2, 1), (3, 1)]) ∧ (eqKs Try.prog 116 = some [.str, .int, .str, .int]) ∧ (szOf Try.prog 126 = some 1) ∧ (aggOf Try.prog 126 = some false) ∧ (strOf Try.prog 126 = false) ∧ (isSlice Try.prog 126 = true) ∧ (isBool Try.prog 126 = false) ∧ (intOf' Try.prog 126 = none) ∧ (elemOf Try.prog 126 = some 161) ∧ (zeroOf Try.prog 126 = some (.slice none 0 0)) ∧ (elOf Try.prog 126 = some (161, 5, 56, [.int .i64 0, .int .i64 0, .int .i64 0, .int .i64 0, .slice none 0 0])) ∧ (szOf Try.prog 128 = some 2) ∧ (aggOf Try.prog 128 = some true) ∧ (strOf Try.prog 128 = false) ∧ (isSlice Try.prog 128 = false) ∧ (isBool Try.prog 128 = false) ∧ (intOf' Try.prog 128 = none) := ⟨ty280, ty281, ty282, ty283, ty284, ty285, ty286, ty287, ty288, ty289, ty290, ty291, ty292, ty293, ty294, ty295, ty296, ty297, ty298, ty299, ty300, ty301, ty302, ty303, ty304, ty305, ty306, ty307, ty308, ty309, ty310, ty311, ty312, ty313, ty314, ty315, ty316, ty317, ty318, ty319⟩
theorem tys8 : (elemOf Try.prog 128 = none) ∧ (zeroOf Try.prog 128 = some (.agg #[.slice none 0 0, .slice none 0 0])) ∧ (fldOf Try.prog 128 0 = some (0, 126)) ∧ (fldOf Try.prog 128 1 = some (1, 73)) ∧ (placesOf Try.prog 128 = some [(0, 1), (1, 1)]) ∧ (szOf Try.prog 130 = some 3) ∧ (aggOf Try.prog 130 = some true) ∧ (strOf Try.prog 130 = false) ∧ (isSlice Try.prog 130 = false) ∧ (isBool Try.prog 130 = false) ∧ (intOf' Try.prog 130 = none) ∧ (elemOf Try.prog 130 = none) ∧ (zeroOf Try.prog 130 = some (.agg #[.int .i64 0, .slice none 0 0, .slice none 0 0])) ∧ (fldOf Try.prog 130 0 = some (0, 3)) ∧ (fldOf Try.prog 130 1 = some (1, 128)) ∧ (placesOf Try.prog 130 = some [(0, 1), (1, 2)]) ∧ (szOf Try.prog 133 = some 1) ∧ (aggOf Try.prog 133 = some false) ∧ (strOf Try.prog 133 = false) ∧ (isSlice Try.prog 133 = true) ∧ (isBool Try.prog 133 = false) ∧ (intOf' Try.prog 133 = none) ∧ (elemOf Try.prog 133 = some 3) ∧ (zeroOf Try.prog 133 = some (.slice none 0 0)) ∧ (elOf Try.prog 133 = some (3, 1, 8, [.int .i64 0])) ∧ (szOf Try.prog 135 = some 5) ∧ (aggOf Try.prog 135 = some true) ∧ (strOf Try.prog 135 = false) ∧ (isSlice Try.prog 135 = false) ∧ (isBool Try.prog 135 = false) ∧ (intOf' Try.prog 135 = none) ∧ (elemOf Try.prog 135 = none) ∧ (zeroOf Try.prog 135 = some (.agg #[.int .i64 0, .int .i64 0, .int .i64 0, .int .i64 0, .slice none 0 0])) ∧ (fldOf Try.prog 135 0 = some (0, 3)) ∧ (fldOf Try.prog 135 1 = some (1, 3)) ∧ (fldOf Try.prog 135 2 = some (2, 3)) ∧ (fldOf Try.prog 135 3 = some (3, 3)) ∧ (fldOf Try.prog 135 4 = some (4, 133)) ∧ (placesOf Try.prog 135 = some [(0, 1), (1, 1), (2, 1), (3, 1), (4, 1)]) ∧ (szOf Try.prog 146 = some 1) := ⟨ty320, ty321, ty322, ty323, ty324, ty325, ty326, ty327, ty328, ty329, ty330, ty331, ty332, ty333, ty334, ty335, ty336, ty337, ty338, ty339, ty340, ty341, ty342, ty343, ty344, ty345, ty346, ty347, ty348, ty349, ty350, ty351, ty352, ty353, ty354, ty355, ty356, ty357, ty358, ty359⟩
theorem tys9 : (aggOf Try.prog 146 = some false) ∧ (szOf Try.prog 159 = some 1) ∧ (aggOf Try.prog 159 = some false) ∧ (szOf Try.prog 161 = some 5) ∧ (aggOf Try.prog 161 = some true) ∧ (strOf Try.prog 161 = false) ∧ (isSlice Try.prog 161 = false) ∧ (isBool Try.prog 161 = false) ∧ (intOf' Try.prog 161 = none) ∧ (elemOf Try.prog 161 = none) ∧ (zeroOf Try.prog 161 = some (.agg #[.int .i64 0, .int .i64 0, .int .i64 0, .int .i64 0, .slice none 0 0])) ∧ (fldOf Try.prog 161 0 = some (0, 3)) ∧ (fldOf Try.prog 161 1 = some (1, 3)) ∧ (fldOf Try.prog 161 2 = some (2, 3)) ∧ (fldOf Try.prog 161 3 = some (3, 3)) ∧ (fldOf Try.prog 161 4 = some (4, 133)) ∧ (placesOf Try.prog 161 = some [(0, 1), (1, 1), (2, 1), (3, 1), (4, 1)]) ∧ (szOf Try.prog 173 = some 1) ∧ (aggOf Try.prog 173 = some false) ∧ (strOf Try.prog 173 = false) ∧ (isSlice Try.prog 173 = false) ∧ (isBool Try.prog 173 = false) ∧ (intOf' Try.prog 173 = some .u32) ∧ (elemOf Try.prog 173 = none) ∧ (zeroOf Try.prog 173 = some (.int .u32 0)) := ⟨ty360, ty361, ty362, ty363, ty364, ty365, ty366, ty367, ty368, ty369, ty370, ty371, ty372, ty373, ty374, ty375, ty376, ty377, ty378, ty379, ty380, ty381, ty382, ty383, ty384⟩
theorem TY : ((szOf Try.prog 2 = some 1) ∧ (aggOf Try.prog 2 = some false) ∧ (strOf Try.prog 2 = false) ∧ (isSlice Try.prog 2 = false) ∧ (isBool Try.prog 2 = false) ∧ (intOf' Try.prog 2 = some .i64) ∧ (elemOf Try.prog 2 = none) ∧ (zeroOf Try.prog 2 = some (.int .i64 0)) ∧ (szOf Try.prog 3 = some 1) ∧ (aggOf Try.prog 3 = some false) ∧ (strOf Try.prog 3 = false) ∧ (isSlice Try.prog 3 = false) ∧ (isBool Try.prog 3 = false) ∧ (intOf' Try.prog 3 = some .i64) ∧ (elemOf Try.prog 3 = none) ∧ (zeroOf Try.prog 3 = some (.int .i64 0)) ∧ (szOf Try.prog 4 = some 1) ∧ (aggOf Try.prog 4 = some false) ∧ (strOf Try.prog 4 = false) ∧ (isSlice Try.prog 4 = false) ∧ (isBool Try.prog 4 = true) ∧ (intOf' Try.prog 4 = none) ∧ (elemOf Try.prog 4 = none) ∧ (zeroOf Try.prog 4 = some (.bool false)) ∧ (szOf Try.prog 5 = some 1) ∧ (aggOf Try.prog 5 = some false) ∧ (strOf Try.prog 5 = false) ∧ (isSlice Try.prog 5 = false) ∧ (isBool Try.prog 5 = false) ∧ (intOf' Try.prog 5 = some .u8) ∧ (elemOf Try.prog 5 = none) ∧ (zeroOf Try.prog 5 = some (.int .u8 0)) ∧ (szOf Try.prog 9 = some 1) ∧ (aggOf Try.prog 9 = some false) ∧ (strOf Try.prog 9 = true) ∧ (isSlice Try.prog 9 = false) ∧ (isBool Try.prog 9 = false) ∧ (intOf' Try.prog 9 = none) ∧ (elemOf Try.prog 9 = none) ∧ (zeroOf Try.prog 9 = some (.string ⟨#[]⟩))) ∧ ((szOf Try.prog 12 = some 1) ∧ (aggOf Try.prog 12 = some false) ∧ (strOf Try.prog 12 = false) ∧ (isSlice Try.prog 12 = false) ∧ (isBool Try.prog 12 = false) ∧ (intOf' Try.prog 12 = some .u64) ∧ (elemOf Try.prog 12 = none) ∧ (zeroOf Try.prog 12 = some (.int .u64 0)) ∧ (szOf Try.prog 15 = some 1) ∧ (aggOf Try.prog 15 = some false) ∧ (szOf Try.prog 16 = some 1) ∧ (aggOf Try.prog 16 = some false) ∧ (szOf Try.prog 17 = some 1) ∧ (aggOf Try.prog 17 = some false) ∧ (szOf Try.prog 21 = some 1) ∧ (aggOf Try.prog 21 = some false) ∧ (strOf Try.prog 21 = false) ∧ (isSlice Try.prog 21 = false) ∧ (isBool Try.prog 21 = false) ∧ (intOf' Try.prog 21 = some .i32) ∧ (elemOf Try.prog 21 = none) ∧ (zeroOf Try.prog 21 = some (.int .i32 0)) ∧ (szOf Try.prog 24 = some 1) ∧ (aggOf Try.prog 24 = some false) ∧ (strOf Try.prog 24 = false) ∧ (isSlice Try.prog 24 = true) ∧ (isBool Try.prog 24 = false) ∧ (intOf' Try.prog 24 = none) ∧ (elemOf Try.prog 24 = some 77) ∧ (zeroOf Try.prog 24 = some (.slice none 0 0)) ∧ (elOf Try.prog 24 = some (77, 2, 24, [.string ⟨#[]⟩, .int .i64 0])) ∧ (szOf Try.prog 27 = some 1) ∧ (aggOf Try.prog 27 = some false) ∧ (strOf Try.prog 27 = false) ∧ (isSlice Try.prog 27 = true) ∧ (isBool Try.prog 27 = false) ∧ (intOf' Try.prog 27 = none) ∧ (elemOf Try.prog 27 = some 78) ∧ (zeroOf Try.prog 27 = some (.slice none 0 0)) ∧ (elOf Try.prog 27 = some (78, 2, 24, [.string ⟨#[]⟩, .int .i64 0]))) ∧ ((szOf Try.prog 33 = some 1) ∧ (aggOf Try.prog 33 = some false) ∧ (strOf Try.prog 33 = false) ∧ (isSlice Try.prog 33 = true) ∧ (isBool Try.prog 33 = false) ∧ (intOf' Try.prog 33 = none) ∧ (elemOf Try.prog 33 = some 116) ∧ (zeroOf Try.prog 33 = some (.slice none 0 0)) ∧ (elOf Try.prog 33 = some (116, 4, 48, [.string ⟨#[]⟩, .int .i64 0, .string ⟨#[]⟩, .int .i64 0])) ∧ (szOf Try.prog 35 = some 1) ∧ (aggOf Try.prog 35 = some true) ∧ (strOf Try.prog 35 = false) ∧ (isSlice Try.prog 35 = false) ∧ (isBool Try.prog 35 = false) ∧ (intOf' Try.prog 35 = none) ∧ (elemOf Try.prog 35 = none) ∧ (zeroOf Try.prog 35 = some (.agg #[.slice none 0 0])) ∧ (fldOf Try.prog 35 0 = some (0, 33)) ∧ (placesOf Try.prog 35 = some [(0, 1)]) ∧ (szOf Try.prog 38 = some 1) ∧ (aggOf Try.prog 38 = some false) ∧ (strOf Try.prog 38 = false) ∧ (isSlice Try.prog 38 = true) ∧ (isBool Try.prog 38 = false) ∧ (intOf' Try.prog 38 = none) ∧ (elemOf Try.prog 38 = some 44) ∧ (zeroOf Try.prog 38 = some (.slice none 0 0)) ∧ (elOf Try.prog 38 = some (44, 4, 48, [.string ⟨#[]⟩, .int .i64 0, .string ⟨#[]⟩, .int .i64 0])) ∧ (szOf Try.prog 40 = some 1) ∧ (aggOf Try.prog 40 = some true) ∧ (strOf Try.prog 40 = false) ∧ (isSlice Try.prog 40 = false) ∧ (isBool Try.prog 40 = false) ∧ (intOf' Try.prog 40 = none) ∧ (elemOf Try.prog 40 = none) ∧ (zeroOf Try.prog 40 = some (.agg #[.slice none 0 0])) ∧ (fldOf Try.prog 40 0 = some (0, 38)) ∧ (placesOf Try.prog 40 = some [(0, 1)]) ∧ (szOf Try.prog 44 = some 4) ∧ (aggOf Try.prog 44 = some true)) ∧ ((strOf Try.prog 44 = false) ∧ (isSlice Try.prog 44 = false) ∧ (isBool Try.prog 44 = false) ∧ (intOf' Try.prog 44 = none) ∧ (elemOf Try.prog 44 = none) ∧ (zeroOf Try.prog 44 = some (.agg #[.string ⟨#[]⟩, .int .i64 0, .string ⟨#[]⟩, .int .i64 0])) ∧ (fldOf Try.prog 44 0 = some (0, 9)) ∧ (fldOf Try.prog 44 1 = some (1, 3)) ∧ (fldOf Try.prog 44 2 = some (2, 9)) ∧ (fldOf Try.prog 44 3 = some (3, 3)) ∧ (placesOf Try.prog 44 = some [(0, 1), (1, 1), (2, 1), (3, 1)]) ∧ (eqKs Try.prog 44 = some [.str, .int, .str, .int]) ∧ (szOf Try.prog 59 = some 1) ∧ (aggOf Try.prog 59 = some false) ∧ (strOf Try.prog 59 = false) ∧ (isSlice Try.prog 59 = true) ∧ (isBool Try.prog 59 = false) ∧ (intOf' Try.prog 59 = none) ∧ (elemOf Try.prog 59 = some 130) ∧ (zeroOf Try.prog 59 = some (.slice none 0 0)) ∧ (elOf Try.prog 59 = some (130, 3, 56, [.int .i64 0, .slice none 0 0, .slice none 0 0])) ∧ (szOf Try.prog 61 = some 7) ∧ (aggOf Try.prog 61 = some true) ∧ (strOf Try.prog 61 = false) ∧ (isSlice Try.prog 61 = false) ∧ (isBool Try.prog 61 = false) ∧ (intOf' Try.prog 61 = none) ∧ (elemOf Try.prog 61 = none) ∧ (zeroOf Try.prog 61 = some (.agg #[.bool false, .bool false, .int .i64 0, .int .i64 0, .string ⟨#[]⟩, .int .i64 0, .int .i64 0])) ∧ (fldOf Try.prog 61 0 = some (0, 4)) ∧ (fldOf Try.prog 61 1 = some (1, 4)) ∧ (fldOf Try.prog 61 2 = some (2, 3)) ∧ (fldOf Try.prog 61 3 = some (3, 3)) ∧ (fldOf Try.prog 61 4 = some (4, 9)) ∧ (fldOf Try.prog 61 5 = some (5, 3)) ∧ (fldOf Try.prog 61 6 = some (6, 3)) ∧ (placesOf Try.prog 61 = some [(0, 1), (1, 1), (2, 1), (3, 1), (4, 1), (5, 1), (6, 1)]) ∧ (eqKs Try.prog 61 = some [.bool, .bool, .int, .int, .str, .int, .int]) ∧ (szOf Try.prog 63 = some 10) ∧ (aggOf Try.prog 63 = some true)) ∧ ((strOf Try.prog 63 = false) ∧ (isSlice Try.prog 63 = false) ∧ (isBool Try.prog 63 = false) ∧ (intOf' Try.prog 63 = none) ∧ (elemOf Try.prog 63 = none) ∧ (zeroOf Try.prog 63 = some (.agg #[.int .i64 0, .int .i64 0, .slice none 0 0, .bool false, .bool false, .int .i64 0, .int .i64 0, .string ⟨#[]⟩, .int .i64 0, .int .i64 0])) ∧ (fldOf Try.prog 63 0 = some (0, 3)) ∧ (fldOf Try.prog 63 1 = some (1, 3)) ∧ (fldOf Try.prog 63 2 = some (2, 59)) ∧ (fldOf Try.prog 63 3 = some (3, 61)) ∧ (placesOf Try.prog 63 = some [(0, 1), (1, 1), (2, 1), (3, 7)]) ∧ (szOf Try.prog 66 = some 1) ∧ (aggOf Try.prog 66 = some false) ∧ (strOf Try.prog 66 = false) ∧ (isSlice Try.prog 66 = true) ∧ (isBool Try.prog 66 = false) ∧ (intOf' Try.prog 66 = none) ∧ (elemOf Try.prog 66 = some 106) ∧ (zeroOf Try.prog 66 = some (.slice none 0 0)) ∧ (elOf Try.prog 66 = some (106, 3, 56, [.int .i64 0, .slice none 0 0, .slice none 0 0])) ∧ (szOf Try.prog 67 = some 7) ∧ (aggOf Try.prog 67 = some true) ∧ (strOf Try.prog 67 = false) ∧ (isSlice Try.prog 67 = false) ∧ (isBool Try.prog 67 = false) ∧ (intOf' Try.prog 67 = none) ∧ (elemOf Try.prog 67 = none) ∧ (zeroOf Try.prog 67 = some (.agg #[.bool false, .bool false, .int .i64 0, .int .i64 0, .string ⟨#[]⟩, .int .i64 0, .int .i64 0])) ∧ (fldOf Try.prog 67 0 = some (0, 4)) ∧ (fldOf Try.prog 67 1 = some (1, 4)) ∧ (fldOf Try.prog 67 2 = some (2, 3)) ∧ (fldOf Try.prog 67 3 = some (3, 3)) ∧ (fldOf Try.prog 67 4 = some (4, 9)) ∧ (fldOf Try.prog 67 5 = some (5, 3)) ∧ (fldOf Try.prog 67 6 = some (6, 3)) ∧ (placesOf Try.prog 67 = some [(0, 1), (1, 1), (2, 1), (3, 1), (4, 1), (5, 1), (6, 1)]) ∧ (eqKs Try.prog 67 = some [.bool, .bool, .int, .int, .str, .int, .int]) ∧ (szOf Try.prog 69 = some 10) ∧ (aggOf Try.prog 69 = some true) ∧ (strOf Try.prog 69 = false)) ∧ ((isSlice Try.prog 69 = false) ∧ (isBool Try.prog 69 = false) ∧ (intOf' Try.prog 69 = none) ∧ (elemOf Try.prog 69 = none) ∧ (zeroOf Try.prog 69 = some (.agg #[.int .i64 0, .int .i64 0, .slice none 0 0, .bool false, .bool false, .int .i64 0, .int .i64 0, .string ⟨#[]⟩, .int .i64 0, .int .i64 0])) ∧ (fldOf Try.prog 69 0 = some (0, 3)) ∧ (fldOf Try.prog 69 1 = some (1, 3)) ∧ (fldOf Try.prog 69 2 = some (2, 66)) ∧ (fldOf Try.prog 69 3 = some (3, 67)) ∧ (placesOf Try.prog 69 = some [(0, 1), (1, 1), (2, 1), (3, 7)]) ∧ (szOf Try.prog 73 = some 1) ∧ (aggOf Try.prog 73 = some false) ∧ (strOf Try.prog 73 = false) ∧ (isSlice Try.prog 73 = true) ∧ (isBool Try.prog 73 = false) ∧ (intOf' Try.prog 73 = none) ∧ (elemOf Try.prog 73 = some 9) ∧ (zeroOf Try.prog 73 = some (.slice none 0 0)) ∧ (elOf Try.prog 73 = some (9, 1, 16, [.string ⟨#[]⟩])) ∧ (szOf Try.prog 77 = some 2) ∧ (aggOf Try.prog 77 = some true) ∧ (strOf Try.prog 77 = false) ∧ (isSlice Try.prog 77 = false) ∧ (isBool Try.prog 77 = false) ∧ (intOf' Try.prog 77 = none) ∧ (elemOf Try.prog 77 = none) ∧ (zeroOf Try.prog 77 = some (.agg #[.string ⟨#[]⟩, .int .i64 0])) ∧ (fldOf Try.prog 77 0 = some (0, 9)) ∧ (fldOf Try.prog 77 1 = some (1, 3)) ∧ (placesOf Try.prog 77 = some [(0, 1), (1, 1)]) ∧ (eqKs Try.prog 77 = some [.str, .int]) ∧ (szOf Try.prog 78 = some 2) ∧ (aggOf Try.prog 78 = some true) ∧ (strOf Try.prog 78 = false) ∧ (isSlice Try.prog 78 = false) ∧ (isBool Try.prog 78 = false) ∧ (intOf' Try.prog 78 = none) ∧ (elemOf Try.prog 78 = none) ∧ (zeroOf Try.prog 78 = some (.agg #[.string ⟨#[]⟩, .int .i64 0])) ∧ (fldOf Try.prog 78 0 = some (0, 9))) ∧ ((fldOf Try.prog 78 1 = some (1, 3)) ∧ (placesOf Try.prog 78 = some [(0, 1), (1, 1)]) ∧ (eqKs Try.prog 78 = some [.str, .int]) ∧ (szOf Try.prog 81 = some 1) ∧ (aggOf Try.prog 81 = some false) ∧ (strOf Try.prog 81 = false) ∧ (isSlice Try.prog 81 = true) ∧ (isBool Try.prog 81 = false) ∧ (intOf' Try.prog 81 = none) ∧ (elemOf Try.prog 81 = some 5) ∧ (zeroOf Try.prog 81 = some (.slice none 0 0)) ∧ (elOf Try.prog 81 = some (5, 1, 1, [.int .u8 0])) ∧ (szOf Try.prog 102 = some 1) ∧ (aggOf Try.prog 102 = some false) ∧ (strOf Try.prog 102 = false) ∧ (isSlice Try.prog 102 = true) ∧ (isBool Try.prog 102 = false) ∧ (intOf' Try.prog 102 = none) ∧ (elemOf Try.prog 102 = some 135) ∧ (zeroOf Try.prog 102 = some (.slice none 0 0)) ∧ (elOf Try.prog 102 = some (135, 5, 56, [.int .i64 0, .int .i64 0, .int .i64 0, .int .i64 0, .slice none 0 0])) ∧ (szOf Try.prog 104 = some 2) ∧ (aggOf Try.prog 104 = some true) ∧ (strOf Try.prog 104 = false) ∧ (isSlice Try.prog 104 = false) ∧ (isBool Try.prog 104 = false) ∧ (intOf' Try.prog 104 = none) ∧ (elemOf Try.prog 104 = none) ∧ (zeroOf Try.prog 104 = some (.agg #[.slice none 0 0, .slice none 0 0])) ∧ (fldOf Try.prog 104 0 = some (0, 102)) ∧ (fldOf Try.prog 104 1 = some (1, 73)) ∧ (placesOf Try.prog 104 = some [(0, 1), (1, 1)]) ∧ (szOf Try.prog 106 = some 3) ∧ (aggOf Try.prog 106 = some true) ∧ (strOf Try.prog 106 = false) ∧ (isSlice Try.prog 106 = false) ∧ (isBool Try.prog 106 = false) ∧ (intOf' Try.prog 106 = none) ∧ (elemOf Try.prog 106 = none) ∧ (zeroOf Try.prog 106 = some (.agg #[.int .i64 0, .slice none 0 0, .slice none 0 0]))) ∧ ((fldOf Try.prog 106 0 = some (0, 3)) ∧ (fldOf Try.prog 106 1 = some (1, 104)) ∧ (placesOf Try.prog 106 = some [(0, 1), (1, 2)]) ∧ (szOf Try.prog 114 = some 1) ∧ (aggOf Try.prog 114 = some false) ∧ (strOf Try.prog 114 = false) ∧ (isSlice Try.prog 114 = false) ∧ (isBool Try.prog 114 = false) ∧ (intOf' Try.prog 114 = some .u64) ∧ (elemOf Try.prog 114 = none) ∧ (zeroOf Try.prog 114 = some (.int .u64 0)) ∧ (szOf Try.prog 116 = some 4) ∧ (aggOf Try.prog 116 = some true) ∧ (strOf Try.prog 116 = false) ∧ (isSlice Try.prog 116 = false) ∧ (isBool Try.prog 116 = false) ∧ (intOf' Try.prog 116 = none) ∧ (elemOf Try.prog 116 = none) ∧ (zeroOf Try.prog 116 = some (.agg #[.string ⟨#[]⟩, .int .i64 0, .string ⟨#[]⟩, .int .i64 0])) ∧ (fldOf Try.prog 116 0 = some (0, 9)) ∧ (fldOf Try.prog 116 1 = some (1, 3)) ∧ (fldOf Try.prog 116 2 = some (2, 9)) ∧ (fldOf Try.prog 116 3 = some (3, 3)) ∧ (placesOf Try.prog 116 = some [(0, 1), (1, 1), (2, 1), (3, 1)]) ∧ (eqKs Try.prog 116 = some [.str, .int, .str, .int]) ∧ (szOf Try.prog 126 = some 1) ∧ (aggOf Try.prog 126 = some false) ∧ (strOf Try.prog 126 = false) ∧ (isSlice Try.prog 126 = true) ∧ (isBool Try.prog 126 = false) ∧ (intOf' Try.prog 126 = none) ∧ (elemOf Try.prog 126 = some 161) ∧ (zeroOf Try.prog 126 = some (.slice none 0 0)) ∧ (elOf Try.prog 126 = some (161, 5, 56, [.int .i64 0, .int .i64 0, .int .i64 0, .int .i64 0, .slice none 0 0])) ∧ (szOf Try.prog 128 = some 2) ∧ (aggOf Try.prog 128 = some true) ∧ (strOf Try.prog 128 = false) ∧ (isSlice Try.prog 128 = false) ∧ (isBool Try.prog 128 = false) ∧ (intOf' Try.prog 128 = none)) ∧ ((elemOf Try.prog 128 = none) ∧ (zeroOf Try.prog 128 = some (.agg #[.slice none 0 0, .slice none 0 0])) ∧ (fldOf Try.prog 128 0 = some (0, 126)) ∧ (fldOf Try.prog 128 1 = some (1, 73)) ∧ (placesOf Try.prog 128 = some [(0, 1), (1, 1)]) ∧ (szOf Try.prog 130 = some 3) ∧ (aggOf Try.prog 130 = some true) ∧ (strOf Try.prog 130 = false) ∧ (isSlice Try.prog 130 = false) ∧ (isBool Try.prog 130 = false) ∧ (intOf' Try.prog 130 = none) ∧ (elemOf Try.prog 130 = none) ∧ (zeroOf Try.prog 130 = some (.agg #[.int .i64 0, .slice none 0 0, .slice none 0 0])) ∧ (fldOf Try.prog 130 0 = some (0, 3)) ∧ (fldOf Try.prog 130 1 = some (1, 128)) ∧ (placesOf Try.prog 130 = some [(0, 1), (1, 2)]) ∧ (szOf Try.prog 133 = some 1) ∧ (aggOf Try.prog 133 = some false) ∧ (strOf Try.prog 133 = false) ∧ (isSlice Try.prog 133 = true) ∧ (isBool Try.prog 133 = false) ∧ (intOf' Try.prog 133 = none) ∧ (elemOf Try.prog 133 = some 3) ∧ (zeroOf Try.prog 133 = some (.slice none 0 0)) ∧ (elOf Try.prog 133 = some (3, 1, 8, [.int .i64 0])) ∧ (szOf Try.prog 135 = some 5) ∧ (aggOf Try.prog 135 = some true) ∧ (strOf Try.prog 135 = false) ∧ (isSlice Try.prog 135 = false) ∧ (isBool Try.prog 135 = false) ∧ (intOf' Try.prog 135 = none) ∧ (elemOf Try.prog 135 = none) ∧ (zeroOf Try.prog 135 = some (.agg #[.int .i64 0, .int .i64 0, .int .i64 0, .int .i64 0, .slice none 0 0])) ∧ (fldOf Try.prog 135 0 = some (0, 3)) ∧ (fldOf Try.prog 135 1 = some (1, 3)) ∧ (fldOf Try.prog 135 2 = some (2, 3)) ∧ (fldOf Try.prog 135 3 = some (3, 3)) ∧ (fldOf Try.prog 135 4 = some (4, 133)) ∧ (placesOf Try.prog 135 = some [(0, 1), (1, 1), (2, 1), (3, 1), (4, 1)]) ∧ (szOf Try.prog 146 = some 1)) ∧ ((aggOf Try.prog 146 = some false) ∧ (szOf Try.prog 159 = some 1) ∧ (aggOf Try.prog 159 = some false) ∧ (szOf Try.prog 161 = some 5) ∧ (aggOf Try.prog 161 = some true) ∧ (strOf Try.prog 161 = false) ∧ (isSlice Try.prog 161 = false) ∧ (isBool Try.prog 161 = false) ∧ (intOf' Try.prog 161 = none) ∧ (elemOf Try.prog 161 = none) ∧ (zeroOf Try.prog 161 = some (.agg #[.int .i64 0, .int .i64 0, .int .i64 0, .int .i64 0, .slice none 0 0])) ∧ (fldOf Try.prog 161 0 = some (0, 3)) ∧ (fldOf Try.prog 161 1 = some (1, 3)) ∧ (fldOf Try.prog 161 2 = some (2, 3)) ∧ (fldOf Try.prog 161 3 = some (3, 3)) ∧ (fldOf Try.prog 161 4 = some (4, 133)) ∧ (placesOf Try.prog 161 = some [(0, 1), (1, 1), (2, 1), (3, 1), (4, 1)]) ∧ (szOf Try.prog 173 = some 1) ∧ (aggOf Try.prog 173 = some false) ∧ (strOf Try.prog 173 = false) ∧ (isSlice Try.prog 173 = false) ∧ (isBool Try.prog 173 = false) ∧ (intOf' Try.prog 173 = some .u32) ∧ (elemOf Try.prog 173 = none) ∧ (zeroOf Try.prog 173 = some (.int .u32 0))) := ⟨tys0, tys1, tys2, tys3, tys4, tys5, tys6, tys7, tys8, tys9⟩
theorem mixed : Try.prog.follows .mixedOrders = true := by kernel_rfl
attribute [simp] TY
end Go.Proofs.Ytmiflnadgckenaa.Hz
