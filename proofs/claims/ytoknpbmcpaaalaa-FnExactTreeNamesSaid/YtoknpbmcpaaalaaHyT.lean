/- What the calculus asks of the types, each fact by the kernel. Written by facts.py. -/
import Derived.Test.YtoknpbmcpaaalaaHyGB
import Derived.Test.YtoknpbmcpaaalaaProg
namespace Go.Proofs.Ytoknpbmcpaaalaa.Hz
theorem ty0 : szOf Try.prog 2 = some 1 := by kernel_rfl
theorem ty1 : aggOf Try.prog 2 = some false := by kernel_rfl
theorem ty2 : strOf Try.prog 2 = false := by kernel_rfl
theorem ty3 : isSlice Try.prog 2 = false := by kernel_rfl
theorem ty4 : isBool Try.prog 2 = false := by kernel_rfl
theorem ty5 : intOf' Try.prog 2 = some .i64 := by kernel_rfl
theorem ty6 : elemOf Try.prog 2 = none := by kernel_rfl
theorem ty7 : zeroOf Try.prog 2 = some (.int .i64 0) := by kernel_rfl
theorem ty8 : szOf Try.prog 3 = some 1 := by kernel_rfl
theorem ty9 : aggOf Try.prog 3 = some false := by kernel_rfl
theorem ty10 : strOf Try.prog 3 = false := by kernel_rfl
theorem ty11 : isSlice Try.prog 3 = false := by kernel_rfl
theorem ty12 : isBool Try.prog 3 = false := by kernel_rfl
theorem ty13 : intOf' Try.prog 3 = some .i64 := by kernel_rfl
theorem ty14 : elemOf Try.prog 3 = none := by kernel_rfl
theorem ty15 : zeroOf Try.prog 3 = some (.int .i64 0) := by kernel_rfl
theorem ty16 : szOf Try.prog 4 = some 1 := by kernel_rfl
theorem ty17 : aggOf Try.prog 4 = some false := by kernel_rfl
theorem ty18 : strOf Try.prog 4 = false := by kernel_rfl
theorem ty19 : isSlice Try.prog 4 = false := by kernel_rfl
theorem ty20 : isBool Try.prog 4 = true := by kernel_rfl
theorem ty21 : intOf' Try.prog 4 = none := by kernel_rfl
theorem ty22 : elemOf Try.prog 4 = none := by kernel_rfl
theorem ty23 : zeroOf Try.prog 4 = some (.bool false) := by kernel_rfl
theorem ty24 : szOf Try.prog 5 = some 1 := by kernel_rfl
theorem ty25 : aggOf Try.prog 5 = some false := by kernel_rfl
theorem ty26 : strOf Try.prog 5 = false := by kernel_rfl
theorem ty27 : isSlice Try.prog 5 = false := by kernel_rfl
theorem ty28 : isBool Try.prog 5 = false := by kernel_rfl
theorem ty29 : intOf' Try.prog 5 = some .u8 := by kernel_rfl
theorem ty30 : elemOf Try.prog 5 = none := by kernel_rfl
theorem ty31 : zeroOf Try.prog 5 = some (.int .u8 0) := by kernel_rfl
theorem ty32 : szOf Try.prog 9 = some 1 := by kernel_rfl
theorem ty33 : aggOf Try.prog 9 = some false := by kernel_rfl
theorem ty34 : strOf Try.prog 9 = true := by kernel_rfl
theorem ty35 : isSlice Try.prog 9 = false := by kernel_rfl
theorem ty36 : isBool Try.prog 9 = false := by kernel_rfl
theorem ty37 : intOf' Try.prog 9 = none := by kernel_rfl
theorem ty38 : elemOf Try.prog 9 = none := by kernel_rfl
theorem ty39 : zeroOf Try.prog 9 = some (.string ⟨#[]⟩) := by kernel_rfl
theorem ty40 : szOf Try.prog 12 = some 1 := by kernel_rfl
theorem ty41 : aggOf Try.prog 12 = some false := by kernel_rfl
theorem ty42 : strOf Try.prog 12 = false := by kernel_rfl
theorem ty43 : isSlice Try.prog 12 = false := by kernel_rfl
theorem ty44 : isBool Try.prog 12 = false := by kernel_rfl
theorem ty45 : intOf' Try.prog 12 = some .u64 := by kernel_rfl
theorem ty46 : elemOf Try.prog 12 = none := by kernel_rfl
theorem ty47 : zeroOf Try.prog 12 = some (.int .u64 0) := by kernel_rfl
theorem ty48 : szOf Try.prog 15 = some 1 := by kernel_rfl
theorem ty49 : aggOf Try.prog 15 = some false := by kernel_rfl
theorem ty50 : szOf Try.prog 16 = some 1 := by kernel_rfl
theorem ty51 : aggOf Try.prog 16 = some false := by kernel_rfl
theorem ty52 : szOf Try.prog 17 = some 1 := by kernel_rfl
theorem ty53 : aggOf Try.prog 17 = some false := by kernel_rfl
theorem ty54 : szOf Try.prog 21 = some 1 := by kernel_rfl
theorem ty55 : aggOf Try.prog 21 = some false := by kernel_rfl
theorem ty56 : strOf Try.prog 21 = false := by kernel_rfl
theorem ty57 : isSlice Try.prog 21 = false := by kernel_rfl
theorem ty58 : isBool Try.prog 21 = false := by kernel_rfl
theorem ty59 : intOf' Try.prog 21 = some .i32 := by kernel_rfl
theorem ty60 : elemOf Try.prog 21 = none := by kernel_rfl
theorem ty61 : zeroOf Try.prog 21 = some (.int .i32 0) := by kernel_rfl
theorem ty62 : szOf Try.prog 22 = some 1 := by kernel_rfl
theorem ty63 : aggOf Try.prog 22 = some false := by kernel_rfl
theorem ty64 : strOf Try.prog 22 = false := by kernel_rfl
theorem ty65 : isSlice Try.prog 22 = true := by kernel_rfl
theorem ty66 : isBool Try.prog 22 = false := by kernel_rfl
theorem ty67 : intOf' Try.prog 22 = none := by kernel_rfl
theorem ty68 : elemOf Try.prog 22 = some 135 := by kernel_rfl
theorem ty69 : zeroOf Try.prog 22 = some (.slice none 0 0) := by kernel_rfl
theorem ty70 : elOf Try.prog 22 = some (135, 4, 48, [.string ⟨#[]⟩, .int .i64 0, .string ⟨#[]⟩, .int .i64 0]) := by kernel_rfl
theorem ty71 : szOf Try.prog 24 = some 1 := by kernel_rfl
theorem ty72 : aggOf Try.prog 24 = some true := by kernel_rfl
theorem ty73 : strOf Try.prog 24 = false := by kernel_rfl
theorem ty74 : isSlice Try.prog 24 = false := by kernel_rfl
theorem ty75 : isBool Try.prog 24 = false := by kernel_rfl
theorem ty76 : intOf' Try.prog 24 = none := by kernel_rfl
theorem ty77 : elemOf Try.prog 24 = none := by kernel_rfl
theorem ty78 : zeroOf Try.prog 24 = some (.agg #[.slice none 0 0]) := by kernel_rfl
theorem ty79 : fldOf Try.prog 24 0 = some (0, 22) := by kernel_rfl
theorem ty80 : placesOf Try.prog 24 = some [(0, 1)] := by kernel_rfl
theorem ty81 : szOf Try.prog 27 = some 1 := by kernel_rfl
theorem ty82 : aggOf Try.prog 27 = some false := by kernel_rfl
theorem ty83 : strOf Try.prog 27 = false := by kernel_rfl
theorem ty84 : isSlice Try.prog 27 = true := by kernel_rfl
theorem ty85 : isBool Try.prog 27 = false := by kernel_rfl
theorem ty86 : intOf' Try.prog 27 = none := by kernel_rfl
theorem ty87 : elemOf Try.prog 27 = some 78 := by kernel_rfl
theorem ty88 : zeroOf Try.prog 27 = some (.slice none 0 0) := by kernel_rfl
theorem ty89 : elOf Try.prog 27 = some (78, 4, 48, [.string ⟨#[]⟩, .int .i64 0, .string ⟨#[]⟩, .int .i64 0]) := by kernel_rfl
theorem ty90 : szOf Try.prog 29 = some 1 := by kernel_rfl
theorem ty91 : aggOf Try.prog 29 = some true := by kernel_rfl
theorem ty92 : strOf Try.prog 29 = false := by kernel_rfl
theorem ty93 : isSlice Try.prog 29 = false := by kernel_rfl
theorem ty94 : isBool Try.prog 29 = false := by kernel_rfl
theorem ty95 : intOf' Try.prog 29 = none := by kernel_rfl
theorem ty96 : elemOf Try.prog 29 = none := by kernel_rfl
theorem ty97 : zeroOf Try.prog 29 = some (.agg #[.slice none 0 0]) := by kernel_rfl
theorem ty98 : fldOf Try.prog 29 0 = some (0, 27) := by kernel_rfl
theorem ty99 : placesOf Try.prog 29 = some [(0, 1)] := by kernel_rfl
theorem ty100 : szOf Try.prog 33 = some 1 := by kernel_rfl
theorem ty101 : aggOf Try.prog 33 = some false := by kernel_rfl
theorem ty102 : strOf Try.prog 33 = false := by kernel_rfl
theorem ty103 : isSlice Try.prog 33 = true := by kernel_rfl
theorem ty104 : isBool Try.prog 33 = false := by kernel_rfl
theorem ty105 : intOf' Try.prog 33 = none := by kernel_rfl
theorem ty106 : elemOf Try.prog 33 = some 9 := by kernel_rfl
theorem ty107 : zeroOf Try.prog 33 = some (.slice none 0 0) := by kernel_rfl
theorem ty108 : elOf Try.prog 33 = some (9, 1, 16, [.string ⟨#[]⟩]) := by kernel_rfl
theorem ty109 : szOf Try.prog 39 = some 1 := by kernel_rfl
theorem ty110 : aggOf Try.prog 39 = some false := by kernel_rfl
theorem ty111 : strOf Try.prog 39 = false := by kernel_rfl
theorem ty112 : isSlice Try.prog 39 = true := by kernel_rfl
theorem ty113 : isBool Try.prog 39 = false := by kernel_rfl
theorem ty114 : intOf' Try.prog 39 = none := by kernel_rfl
theorem ty115 : elemOf Try.prog 39 = some 91 := by kernel_rfl
theorem ty116 : zeroOf Try.prog 39 = some (.slice none 0 0) := by kernel_rfl
theorem ty117 : elOf Try.prog 39 = some (91, 2, 24, [.string ⟨#[]⟩, .int .i64 0]) := by kernel_rfl
theorem ty118 : szOf Try.prog 41 = some 1 := by kernel_rfl
theorem ty119 : aggOf Try.prog 41 = some false := by kernel_rfl
theorem ty120 : strOf Try.prog 41 = false := by kernel_rfl
theorem ty121 : isSlice Try.prog 41 = true := by kernel_rfl
theorem ty122 : isBool Try.prog 41 = false := by kernel_rfl
theorem ty123 : intOf' Try.prog 41 = none := by kernel_rfl
theorem ty124 : elemOf Try.prog 41 = some 92 := by kernel_rfl
theorem ty125 : zeroOf Try.prog 41 = some (.slice none 0 0) := by kernel_rfl
theorem ty126 : elOf Try.prog 41 = some (92, 2, 24, [.string ⟨#[]⟩, .int .i64 0]) := by kernel_rfl
theorem ty127 : szOf Try.prog 48 = some 1 := by kernel_rfl
theorem ty128 : aggOf Try.prog 48 = some false := by kernel_rfl
theorem ty129 : strOf Try.prog 48 = false := by kernel_rfl
theorem ty130 : isSlice Try.prog 48 = true := by kernel_rfl
theorem ty131 : isBool Try.prog 48 = false := by kernel_rfl
theorem ty132 : intOf' Try.prog 48 = none := by kernel_rfl
theorem ty133 : elemOf Try.prog 48 = some 146 := by kernel_rfl
theorem ty134 : zeroOf Try.prog 48 = some (.slice none 0 0) := by kernel_rfl
theorem ty135 : elOf Try.prog 48 = some (146, 5, 56, [.int .i64 0, .int .i64 0, .int .i64 0, .int .i64 0, .slice none 0 0]) := by kernel_rfl
theorem ty136 : szOf Try.prog 50 = some 2 := by kernel_rfl
theorem ty137 : aggOf Try.prog 50 = some true := by kernel_rfl
theorem ty138 : strOf Try.prog 50 = false := by kernel_rfl
theorem ty139 : isSlice Try.prog 50 = false := by kernel_rfl
theorem ty140 : isBool Try.prog 50 = false := by kernel_rfl
theorem ty141 : intOf' Try.prog 50 = none := by kernel_rfl
theorem ty142 : elemOf Try.prog 50 = none := by kernel_rfl
theorem ty143 : zeroOf Try.prog 50 = some (.agg #[.slice none 0 0, .slice none 0 0]) := by kernel_rfl
theorem ty144 : fldOf Try.prog 50 0 = some (0, 48) := by kernel_rfl
theorem ty145 : fldOf Try.prog 50 1 = some (1, 33) := by kernel_rfl
theorem ty146 : placesOf Try.prog 50 = some [(0, 1), (1, 1)] := by kernel_rfl
theorem ty147 : szOf Try.prog 53 = some 1 := by kernel_rfl
theorem ty148 : aggOf Try.prog 53 = some false := by kernel_rfl
theorem ty149 : strOf Try.prog 53 = false := by kernel_rfl
theorem ty150 : isSlice Try.prog 53 = true := by kernel_rfl
theorem ty151 : isBool Try.prog 53 = false := by kernel_rfl
theorem ty152 : intOf' Try.prog 53 = none := by kernel_rfl
theorem ty153 : elemOf Try.prog 53 = some 109 := by kernel_rfl
theorem ty154 : zeroOf Try.prog 53 = some (.slice none 0 0) := by kernel_rfl
theorem ty155 : elOf Try.prog 53 = some (109, 5, 56, [.int .i64 0, .int .i64 0, .int .i64 0, .int .i64 0, .slice none 0 0]) := by kernel_rfl
theorem ty156 : szOf Try.prog 55 = some 2 := by kernel_rfl
theorem ty157 : aggOf Try.prog 55 = some true := by kernel_rfl
theorem ty158 : strOf Try.prog 55 = false := by kernel_rfl
theorem ty159 : isSlice Try.prog 55 = false := by kernel_rfl
theorem ty160 : isBool Try.prog 55 = false := by kernel_rfl
theorem ty161 : intOf' Try.prog 55 = none := by kernel_rfl
theorem ty162 : elemOf Try.prog 55 = none := by kernel_rfl
theorem ty163 : zeroOf Try.prog 55 = some (.agg #[.slice none 0 0, .slice none 0 0]) := by kernel_rfl
theorem ty164 : fldOf Try.prog 55 0 = some (0, 53) := by kernel_rfl
theorem ty165 : fldOf Try.prog 55 1 = some (1, 33) := by kernel_rfl
theorem ty166 : placesOf Try.prog 55 = some [(0, 1), (1, 1)] := by kernel_rfl
theorem ty167 : szOf Try.prog 68 = some 1 := by kernel_rfl
theorem ty168 : aggOf Try.prog 68 = some false := by kernel_rfl
theorem ty169 : strOf Try.prog 68 = false := by kernel_rfl
theorem ty170 : isSlice Try.prog 68 = true := by kernel_rfl
theorem ty171 : isBool Try.prog 68 = false := by kernel_rfl
theorem ty172 : intOf' Try.prog 68 = none := by kernel_rfl
theorem ty173 : elemOf Try.prog 68 = some 128 := by kernel_rfl
theorem ty174 : zeroOf Try.prog 68 = some (.slice none 0 0) := by kernel_rfl
theorem ty175 : elOf Try.prog 68 = some (128, 2, 24, [.int .i64 0, .string ⟨#[]⟩]) := by kernel_rfl
theorem ty176 : szOf Try.prog 78 = some 4 := by kernel_rfl
theorem ty177 : aggOf Try.prog 78 = some true := by kernel_rfl
theorem ty178 : strOf Try.prog 78 = false := by kernel_rfl
theorem ty179 : isSlice Try.prog 78 = false := by kernel_rfl
theorem ty180 : isBool Try.prog 78 = false := by kernel_rfl
theorem ty181 : intOf' Try.prog 78 = none := by kernel_rfl
theorem ty182 : elemOf Try.prog 78 = none := by kernel_rfl
theorem ty183 : zeroOf Try.prog 78 = some (.agg #[.string ⟨#[]⟩, .int .i64 0, .string ⟨#[]⟩, .int .i64 0]) := by kernel_rfl
theorem ty184 : fldOf Try.prog 78 0 = some (0, 9) := by kernel_rfl
theorem ty185 : fldOf Try.prog 78 1 = some (1, 3) := by kernel_rfl
theorem ty186 : fldOf Try.prog 78 2 = some (2, 9) := by kernel_rfl
theorem ty187 : fldOf Try.prog 78 3 = some (3, 3) := by kernel_rfl
theorem ty188 : placesOf Try.prog 78 = some [(0, 1), (1, 1), (2, 1), (3, 1)] := by kernel_rfl
theorem ty189 : eqKs Try.prog 78 = some [.str, .int, .str, .int] := by kernel_rfl
theorem ty190 : szOf Try.prog 91 = some 2 := by kernel_rfl
theorem ty191 : aggOf Try.prog 91 = some true := by kernel_rfl
theorem ty192 : strOf Try.prog 91 = false := by kernel_rfl
theorem ty193 : isSlice Try.prog 91 = false := by kernel_rfl
theorem ty194 : isBool Try.prog 91 = false := by kernel_rfl
theorem ty195 : intOf' Try.prog 91 = none := by kernel_rfl
theorem ty196 : elemOf Try.prog 91 = none := by kernel_rfl
theorem ty197 : zeroOf Try.prog 91 = some (.agg #[.string ⟨#[]⟩, .int .i64 0]) := by kernel_rfl
theorem ty198 : fldOf Try.prog 91 0 = some (0, 9) := by kernel_rfl
theorem ty199 : fldOf Try.prog 91 1 = some (1, 3) := by kernel_rfl
theorem ty200 : placesOf Try.prog 91 = some [(0, 1), (1, 1)] := by kernel_rfl
theorem ty201 : eqKs Try.prog 91 = some [.str, .int] := by kernel_rfl
theorem ty202 : szOf Try.prog 92 = some 2 := by kernel_rfl
theorem ty203 : aggOf Try.prog 92 = some true := by kernel_rfl
theorem ty204 : strOf Try.prog 92 = false := by kernel_rfl
theorem ty205 : isSlice Try.prog 92 = false := by kernel_rfl
theorem ty206 : isBool Try.prog 92 = false := by kernel_rfl
theorem ty207 : intOf' Try.prog 92 = none := by kernel_rfl
theorem ty208 : elemOf Try.prog 92 = none := by kernel_rfl
theorem ty209 : zeroOf Try.prog 92 = some (.agg #[.string ⟨#[]⟩, .int .i64 0]) := by kernel_rfl
theorem ty210 : fldOf Try.prog 92 0 = some (0, 9) := by kernel_rfl
theorem ty211 : fldOf Try.prog 92 1 = some (1, 3) := by kernel_rfl
theorem ty212 : placesOf Try.prog 92 = some [(0, 1), (1, 1)] := by kernel_rfl
theorem ty213 : eqKs Try.prog 92 = some [.str, .int] := by kernel_rfl
theorem ty214 : szOf Try.prog 102 = some 1 := by kernel_rfl
theorem ty215 : aggOf Try.prog 102 = some false := by kernel_rfl
theorem ty216 : strOf Try.prog 102 = false := by kernel_rfl
theorem ty217 : isSlice Try.prog 102 = true := by kernel_rfl
theorem ty218 : isBool Try.prog 102 = false := by kernel_rfl
theorem ty219 : intOf' Try.prog 102 = none := by kernel_rfl
theorem ty220 : elemOf Try.prog 102 = some 5 := by kernel_rfl
theorem ty221 : zeroOf Try.prog 102 = some (.slice none 0 0) := by kernel_rfl
theorem ty222 : elOf Try.prog 102 = some (5, 1, 1, [.int .u8 0]) := by kernel_rfl
theorem ty223 : szOf Try.prog 104 = some 1 := by kernel_rfl
theorem ty224 : aggOf Try.prog 104 = some false := by kernel_rfl
theorem ty225 : strOf Try.prog 104 = false := by kernel_rfl
theorem ty226 : isSlice Try.prog 104 = true := by kernel_rfl
theorem ty227 : isBool Try.prog 104 = false := by kernel_rfl
theorem ty228 : intOf' Try.prog 104 = none := by kernel_rfl
theorem ty229 : elemOf Try.prog 104 = some 3 := by kernel_rfl
theorem ty230 : zeroOf Try.prog 104 = some (.slice none 0 0) := by kernel_rfl
theorem ty231 : elOf Try.prog 104 = some (3, 1, 8, [.int .i64 0]) := by kernel_rfl
theorem ty232 : szOf Try.prog 109 = some 5 := by kernel_rfl
theorem ty233 : aggOf Try.prog 109 = some true := by kernel_rfl
theorem ty234 : strOf Try.prog 109 = false := by kernel_rfl
theorem ty235 : isSlice Try.prog 109 = false := by kernel_rfl
theorem ty236 : isBool Try.prog 109 = false := by kernel_rfl
theorem ty237 : intOf' Try.prog 109 = none := by kernel_rfl
theorem ty238 : elemOf Try.prog 109 = none := by kernel_rfl
theorem ty239 : zeroOf Try.prog 109 = some (.agg #[.int .i64 0, .int .i64 0, .int .i64 0, .int .i64 0, .slice none 0 0]) := by kernel_rfl
theorem ty240 : fldOf Try.prog 109 0 = some (0, 3) := by kernel_rfl
theorem ty241 : fldOf Try.prog 109 1 = some (1, 3) := by kernel_rfl
theorem ty242 : fldOf Try.prog 109 2 = some (2, 3) := by kernel_rfl
theorem ty243 : fldOf Try.prog 109 3 = some (3, 3) := by kernel_rfl
theorem ty244 : fldOf Try.prog 109 4 = some (4, 104) := by kernel_rfl
theorem ty245 : placesOf Try.prog 109 = some [(0, 1), (1, 1), (2, 1), (3, 1), (4, 1)] := by kernel_rfl
theorem ty246 : szOf Try.prog 118 = some 1 := by kernel_rfl
theorem ty247 : aggOf Try.prog 118 = some false := by kernel_rfl
theorem ty248 : szOf Try.prog 128 = some 2 := by kernel_rfl
theorem ty249 : aggOf Try.prog 128 = some true := by kernel_rfl
theorem ty250 : strOf Try.prog 128 = false := by kernel_rfl
theorem ty251 : isSlice Try.prog 128 = false := by kernel_rfl
theorem ty252 : isBool Try.prog 128 = false := by kernel_rfl
theorem ty253 : intOf' Try.prog 128 = none := by kernel_rfl
theorem ty254 : elemOf Try.prog 128 = none := by kernel_rfl
theorem ty255 : zeroOf Try.prog 128 = some (.agg #[.int .i64 0, .string ⟨#[]⟩]) := by kernel_rfl
theorem ty256 : fldOf Try.prog 128 0 = some (0, 3) := by kernel_rfl
theorem ty257 : fldOf Try.prog 128 1 = some (1, 9) := by kernel_rfl
theorem ty258 : placesOf Try.prog 128 = some [(0, 1), (1, 1)] := by kernel_rfl
theorem ty259 : eqKs Try.prog 128 = some [.int, .str] := by kernel_rfl
theorem ty260 : szOf Try.prog 135 = some 4 := by kernel_rfl
theorem ty261 : aggOf Try.prog 135 = some true := by kernel_rfl
theorem ty262 : strOf Try.prog 135 = false := by kernel_rfl
theorem ty263 : isSlice Try.prog 135 = false := by kernel_rfl
theorem ty264 : isBool Try.prog 135 = false := by kernel_rfl
theorem ty265 : intOf' Try.prog 135 = none := by kernel_rfl
theorem ty266 : elemOf Try.prog 135 = none := by kernel_rfl
theorem ty267 : zeroOf Try.prog 135 = some (.agg #[.string ⟨#[]⟩, .int .i64 0, .string ⟨#[]⟩, .int .i64 0]) := by kernel_rfl
theorem ty268 : fldOf Try.prog 135 0 = some (0, 9) := by kernel_rfl
theorem ty269 : fldOf Try.prog 135 1 = some (1, 3) := by kernel_rfl
theorem ty270 : fldOf Try.prog 135 2 = some (2, 9) := by kernel_rfl
theorem ty271 : fldOf Try.prog 135 3 = some (3, 3) := by kernel_rfl
theorem ty272 : placesOf Try.prog 135 = some [(0, 1), (1, 1), (2, 1), (3, 1)] := by kernel_rfl
theorem ty273 : eqKs Try.prog 135 = some [.str, .int, .str, .int] := by kernel_rfl
theorem ty274 : szOf Try.prog 146 = some 5 := by kernel_rfl
theorem ty275 : aggOf Try.prog 146 = some true := by kernel_rfl
theorem ty276 : strOf Try.prog 146 = false := by kernel_rfl
theorem ty277 : isSlice Try.prog 146 = false := by kernel_rfl
theorem ty278 : isBool Try.prog 146 = false := by kernel_rfl
theorem ty279 : intOf' Try.prog 146 = none := by kernel_rfl
theorem ty280 : elemOf Try.prog 146 = none := by kernel_rfl
theorem ty281 : zeroOf Try.prog 146 = some (.agg #[.int .i64 0, .int .i64 0, .int .i64 0, .int .i64 0, .slice none 0 0]) := by kernel_rfl
theorem ty282 : fldOf Try.prog 146 0 = some (0, 3) := by kernel_rfl
theorem ty283 : fldOf Try.prog 146 1 = some (1, 3) := by kernel_rfl
theorem ty284 : fldOf Try.prog 146 2 = some (2, 3) := by kernel_rfl
theorem ty285 : fldOf Try.prog 146 3 = some (3, 3) := by kernel_rfl
theorem ty286 : fldOf Try.prog 146 4 = some (4, 104) := by kernel_rfl
theorem ty287 : placesOf Try.prog 146 = some [(0, 1), (1, 1), (2, 1), (3, 1), (4, 1)] := by kernel_rfl
theorem ty288 : szOf Try.prog 150 = some 1 := by kernel_rfl
theorem ty289 : aggOf Try.prog 150 = some false := by kernel_rfl
theorem ty290 : strOf Try.prog 150 = false := by kernel_rfl
theorem ty291 : isSlice Try.prog 150 = false := by kernel_rfl
theorem ty292 : isBool Try.prog 150 = false := by kernel_rfl
theorem ty293 : intOf' Try.prog 150 = some .u64 := by kernel_rfl
theorem ty294 : elemOf Try.prog 150 = none := by kernel_rfl
theorem ty295 : zeroOf Try.prog 150 = some (.int .u64 0) := by kernel_rfl
theorem ty296 : szOf Try.prog 167 = some 1 := by kernel_rfl
theorem ty297 : aggOf Try.prog 167 = some false := by kernel_rfl
theorem ty298 : szOf Try.prog 177 = some 1 := by kernel_rfl
theorem ty299 : aggOf Try.prog 177 = some false := by kernel_rfl
theorem ty300 : strOf Try.prog 177 = false := by kernel_rfl
theorem ty301 : isSlice Try.prog 177 = false := by kernel_rfl
theorem ty302 : isBool Try.prog 177 = false := by kernel_rfl
theorem ty303 : intOf' Try.prog 177 = some .u32 := by kernel_rfl
theorem ty304 : elemOf Try.prog 177 = none := by kernel_rfl
theorem ty305 : zeroOf Try.prog 177 = some (.int .u32 0) := by kernel_rfl
theorem ty306 : szOf Try.prog 180 = some 1 := by kernel_rfl
theorem ty307 : aggOf Try.prog 180 = some false := by kernel_rfl
theorem ty308 : strOf Try.prog 180 = false := by kernel_rfl
theorem ty309 : isSlice Try.prog 180 = false := by kernel_rfl
theorem ty310 : isBool Try.prog 180 = false := by kernel_rfl
theorem ty311 : intOf' Try.prog 180 = some .u64 := by kernel_rfl
theorem ty312 : elemOf Try.prog 180 = none := by kernel_rfl
theorem ty313 : zeroOf Try.prog 180 = some (.int .u64 0) := by kernel_rfl
theorem ty314 : szOf Try.prog 185 = some 1 := by kernel_rfl
theorem ty315 : aggOf Try.prog 185 = some false := by kernel_rfl
theorem tys0 : (szOf Try.prog 2 = some 1) ∧ (aggOf Try.prog 2 = some false) ∧ (strOf Try.prog 2 = false) ∧ (isSlice Try.prog 2 = false) ∧ (isBool Try.prog 2 = false) ∧ (intOf' Try.prog 2 = some .i64) ∧ (elemOf Try.prog 2 = none) ∧ (zeroOf Try.prog 2 = some (.int .i64 0)) ∧ (szOf Try.prog 3 = some 1) ∧ (aggOf Try.prog 3 = some false) ∧ (strOf Try.prog 3 = false) ∧ (isSlice Try.prog 3 = false) ∧ (isBool Try.prog 3 = false) ∧ (intOf' Try.prog 3 = some .i64) ∧ (elemOf Try.prog 3 = none) ∧ (zeroOf Try.prog 3 = some (.int .i64 0)) ∧ (szOf Try.prog 4 = some 1) ∧ (aggOf Try.prog 4 = some false) ∧ (strOf Try.prog 4 = false) ∧ (isSlice Try.prog 4 = false) ∧ (isBool Try.prog 4 = true) ∧ (intOf' Try.prog 4 = none) ∧ (elemOf Try.prog 4 = none) ∧ (zeroOf Try.prog 4 = some (.bool false)) ∧ (szOf Try.prog 5 = some 1) ∧ (aggOf Try.prog 5 = some false) ∧ (strOf Try.prog 5 = false) ∧ (isSlice Try.prog 5 = false) ∧ (isBool Try.prog 5 = false) ∧ (intOf' Try.prog 5 = some .u8) ∧ (elemOf Try.prog 5 = none) ∧ (zeroOf Try.prog 5 = some (.int .u8 0)) ∧ (szOf Try.prog 9 = some 1) ∧ (aggOf Try.prog 9 = some false) ∧ (strOf Try.prog 9 = true) ∧ (isSlice Try.prog 9 = false) ∧ (isBool Try.prog 9 = false) ∧ (intOf' Try.prog 9 = none) ∧ (elemOf Try.prog 9 = none) ∧ (zeroOf Try.prog 9 = some (.string ⟨#[]⟩)) := ⟨ty0, ty1, ty2, ty3, ty4, ty5, ty6, ty7, ty8, ty9, ty10, ty11, ty12, ty13, ty14, ty15, ty16, ty17, ty18, ty19, ty20, ty21, ty22, ty23, ty24, ty25, ty26, ty27, ty28, ty29, ty30, ty31, ty32, ty33, ty34, ty35, ty36, ty37, ty38, ty39⟩
theorem tys1 : (szOf Try.prog 12 = some 1) ∧ (aggOf Try.prog 12 = some false) ∧ (strOf Try.prog 12 = false) ∧ (isSlice Try.prog 12 = false) ∧ (isBool Try.prog 12 = false) ∧ (intOf' Try.prog 12 = some .u64) ∧ (elemOf Try.prog 12 = none) ∧ (zeroOf Try.prog 12 = some (.int .u64 0)) ∧ (szOf Try.prog 15 = some 1) ∧ (aggOf Try.prog 15 = some false) ∧ (szOf Try.prog 16 = some 1) ∧ (aggOf Try.prog 16 = some false) ∧ (szOf Try.prog 17 = some 1) ∧ (aggOf Try.prog 17 = some false) ∧ (szOf Try.prog 21 = some 1) ∧ (aggOf Try.prog 21 = some false) ∧ (strOf Try.prog 21 = false) ∧ (isSlice Try.prog 21 = false) ∧ (isBool Try.prog 21 = false) ∧ (intOf' Try.prog 21 = some .i32) ∧ (elemOf Try.prog 21 = none) ∧ (zeroOf Try.prog 21 = some (.int .i32 0)) ∧ (szOf Try.prog 22 = some 1) ∧ (aggOf Try.prog 22 = some false) ∧ (strOf Try.prog 22 = false) ∧ (isSlice Try.prog 22 = true) ∧ (isBool Try.prog 22 = false) ∧ (intOf' Try.prog 22 = none) ∧ (elemOf Try.prog 22 = some 135) ∧ (zeroOf Try.prog 22 = some (.slice none 0 0)) ∧ (elOf Try.prog 22 = some (135, 4, 48, [.string ⟨#[]⟩, .int .i64 0, .string ⟨#[]⟩, .int .i64 0])) ∧ (szOf Try.prog 24 = some 1) ∧ (aggOf Try.prog 24 = some true) ∧ (strOf Try.prog 24 = false) ∧ (isSlice Try.prog 24 = false) ∧ (isBool Try.prog 24 = false) ∧ (intOf' Try.prog 24 = none) ∧ (elemOf Try.prog 24 = none) ∧ (zeroOf Try.prog 24 = some (.agg #[.slice none 0 0])) ∧ (fldOf Try.prog 24 0 = some (0, 22)) := ⟨ty40, ty41, ty42, ty43, ty44, ty45, ty46, ty47, ty48, ty49, ty50, ty51, ty52, ty53, ty54, ty55, ty56, ty57, ty58, ty59, ty60, ty61, ty62, ty63, ty64, ty65, ty66, ty67, ty68, ty69, ty70, ty71, ty72, ty73, ty74, ty75, ty76, ty77, ty78, ty79⟩
theorem tys2 : (placesOf Try.prog 24 = some [(0, 1)]) ∧ (szOf Try.prog 27 = some 1) ∧ (aggOf Try.prog 27 = some false) ∧ (strOf Try.prog 27 = false) ∧ (isSlice Try.prog 27 = true) ∧ (isBool Try.prog 27 = false) ∧ (intOf' Try.prog 27 = none) ∧ (elemOf Try.prog 27 = some 78) ∧ (zeroOf Try.prog 27 = some (.slice none 0 0)) ∧ (elOf Try.prog 27 = some (78, 4, 48, [.string ⟨#[]⟩, .int .i64 0, .string ⟨#[]⟩, .int .i64 0])) ∧ (szOf Try.prog 29 = some 1) ∧ (aggOf Try.prog 29 = some true) ∧ (strOf Try.prog 29 = false) ∧ (isSlice Try.prog 29 = false) ∧ (isBool Try.prog 29 = false) ∧ (intOf' Try.prog 29 = none) ∧ (elemOf Try.prog 29 = none) ∧ (zeroOf Try.prog 29 = some (.agg #[.slice none 0 0])) ∧ (fldOf Try.prog 29 0 = some (0, 27)) ∧ (placesOf Try.prog 29 = some [(0, 1)]) ∧ (szOf Try.prog 33 = some 1) ∧ (aggOf Try.prog 33 = some false) ∧ (strOf Try.prog 33 = false) ∧ (isSlice Try.prog 33 = true) ∧ (isBool Try.prog 33 = false) ∧ (intOf' Try.prog 33 = none) ∧ (elemOf Try.prog 33 = some 9) ∧ (zeroOf Try.prog 33 = some (.slice none 0 0)) ∧ (elOf Try.prog 33 = some (9, 1, 16, [.string ⟨#[]⟩])) ∧ (szOf Try.prog 39 = some 1) ∧ (aggOf Try.prog 39 = some false) ∧ (strOf Try.prog 39 = false) ∧ (isSlice Try.prog 39 = true) ∧ (isBool Try.prog 39 = false) ∧ (intOf' Try.prog 39 = none) ∧ (elemOf Try.prog 39 = some 91) ∧ (zeroOf Try.prog 39 = some (.slice none 0 0)) ∧ (elOf Try.prog 39 = some (91, 2, 24, [.string ⟨#[]⟩, .int .i64 0])) ∧ (szOf Try.prog 41 = some 1) ∧ (aggOf Try.prog 41 = some false) := ⟨ty80, ty81, ty82, ty83, ty84, ty85, ty86, ty87, ty88, ty89, ty90, ty91, ty92, ty93, ty94, ty95, ty96, ty97, ty98, ty99, ty100, ty101, ty102, ty103, ty104, ty105, ty106, ty107, ty108, ty109, ty110, ty111, ty112, ty113, ty114, ty115, ty116, ty117, ty118, ty119⟩
theorem tys3 : (strOf Try.prog 41 = false) ∧ (isSlice Try.prog 41 = true) ∧ (isBool Try.prog 41 = false) ∧ (intOf' Try.prog 41 = none) ∧ (elemOf Try.prog 41 = some 92) ∧ (zeroOf Try.prog 41 = some (.slice none 0 0)) ∧ (elOf Try.prog 41 = some (92, 2, 24, [.string ⟨#[]⟩, .int .i64 0])) ∧ (szOf Try.prog 48 = some 1) ∧ (aggOf Try.prog 48 = some false) ∧ (strOf Try.prog 48 = false) ∧ (isSlice Try.prog 48 = true) ∧ (isBool Try.prog 48 = false) ∧ (intOf' Try.prog 48 = none) ∧ (elemOf Try.prog 48 = some 146) ∧ (zeroOf Try.prog 48 = some (.slice none 0 0)) ∧ (elOf Try.prog 48 = some (146, 5, 56, [.int .i64 0, .int .i64 0, .int .i64 0, .int .i64 0, .slice none 0 0])) ∧ (szOf Try.prog 50 = some 2) ∧ (aggOf Try.prog 50 = some true) ∧ (strOf Try.prog 50 = false) ∧ (isSlice Try.prog 50 = false) ∧ (isBool Try.prog 50 = false) ∧ (intOf' Try.prog 50 = none) ∧ (elemOf Try.prog 50 = none) ∧ (zeroOf Try.prog 50 = some (.agg #[.slice none 0 0, .slice none 0 0])) ∧ (fldOf Try.prog 50 0 = some (0, 48)) ∧ (fldOf Try.prog 50 1 = some (1, 33)) ∧ (placesOf Try.prog 50 = some [(0, 1), (1, 1)]) ∧ (szOf Try.prog 53 = some 1) ∧ (aggOf Try.prog 53 = some false) ∧ (strOf Try.prog 53 = false) ∧ (isSlice Try.prog 53 = true) ∧ (isBool Try.prog 53 = false) ∧ (intOf' Try.prog 53 = none) ∧ (elemOf Try.prog 53 = some 109) ∧ (zeroOf Try.prog 53 = some (.slice none 0 0)) ∧ (elOf Try.prog 53 = some (109, 5, 56, [.int .i64 0, .int .i64 0, .int .i64 0, .int .i64 0, .slice none 0 0])) ∧ (szOf Try.prog 55 = some 2) ∧ (aggOf Try.prog 55 = some true) ∧ (strOf Try.prog 55 = false) ∧ (isSlice Try.prog 55 = false) := ⟨ty120, ty121, ty122, ty123, ty124, ty125, ty126, ty127, ty128, ty129, ty130, ty131, ty132, ty133, ty134, ty135, ty136, ty137, ty138, ty139, ty140, ty141, ty142, ty143, ty144, ty145, ty146, ty147, ty148, ty149, ty150, ty151, ty152, ty153, ty154, ty155, ty156, ty157, ty158, ty159⟩
theorem tys4 : (isBool Try.prog 55 = false) ∧ (intOf' Try.prog 55 = none) ∧ (elemOf Try.prog 55 = none) ∧ (zeroOf Try.prog 55 = some (.agg #[.slice none 0 0, .slice none 0 0])) ∧ (fldOf Try.prog 55 0 = some (0, 53)) ∧ (fldOf Try.prog 55 1 = some (1, 33)) ∧ (placesOf Try.prog 55 = some [(0, 1), (1, 1)]) ∧ (szOf Try.prog 68 = some 1) ∧ (aggOf Try.prog 68 = some false) ∧ (strOf Try.prog 68 = false) ∧ (isSlice Try.prog 68 = true) ∧ (isBool Try.prog 68 = false) ∧ (intOf' Try.prog 68 = none) ∧ (elemOf Try.prog 68 = some 128) ∧ (zeroOf Try.prog 68 = some (.slice none 0 0)) ∧ (elOf Try.prog 68 = some (128, 2, 24, [.int .i64 0, .string ⟨#[]⟩])) ∧ (szOf Try.prog 78 = some 4) ∧ (aggOf Try.prog 78 = some true) ∧ (strOf Try.prog 78 = false) ∧ (isSlice Try.prog 78 = false) ∧ (isBool Try.prog 78 = false) ∧ (intOf' Try.prog 78 = none) ∧ (elemOf Try.prog 78 = none) ∧ (zeroOf Try.prog 78 = some (.agg #[.string ⟨#[]⟩, .int .i64 0, .string ⟨#[]⟩, .int .i64 0])) ∧ (fldOf Try.prog 78 0 = some (0, 9)) ∧ (fldOf Try.prog 78 1 = some (1, 3)) ∧ (fldOf Try.prog 78 2 = some (2, 9)) ∧ (fldOf Try.prog 78 3 = some (3, 3)) ∧ (placesOf Try.prog 78 = some [(0, 1), (1, 1), (2, 1), (3, 1)]) ∧ (eqKs Try.prog 78 = some [.str, .int, .str, .int]) ∧ (szOf Try.prog 91 = some 2) ∧ (aggOf Try.prog 91 = some true) ∧ (strOf Try.prog 91 = false) ∧ (isSlice Try.prog 91 = false) ∧ (isBool Try.prog 91 = false) ∧ (intOf' Try.prog 91 = none) ∧ (elemOf Try.prog 91 = none) ∧ (zeroOf Try.prog 91 = some (.agg #[.string ⟨#[]⟩, .int .i64 0])) ∧ (fldOf Try.prog 91 0 = some (0, 9)) ∧ (fldOf Try.prog 91 1 = some (1, 3)) := ⟨ty160, ty161, ty162, ty163, ty164, ty165, ty166, ty167, ty168, ty169, ty170, ty171, ty172, ty173, ty174, ty175, ty176, ty177, ty178, ty179, ty180, ty181, ty182, ty183, ty184, ty185, ty186, ty187, ty188, ty189, ty190, ty191, ty192, ty193, ty194, ty195, ty196, ty197, ty198, ty199⟩
theorem tys5 : (placesOf Try.prog 91 = some [(0, 1), (1, 1)]) ∧ (eqKs Try.prog 91 = some [.str, .int]) ∧ (szOf Try.prog 92 = some 2) ∧ (aggOf Try.prog 92 = some true) ∧ (strOf Try.prog 92 = false) ∧ (isSlice Try.prog 92 = false) ∧ (isBool Try.prog 92 = false) ∧ (intOf' Try.prog 92 = none) ∧ (elemOf Try.prog 92 = none) ∧ (zeroOf Try.prog 92 = some (.agg #[.string ⟨#[]⟩, .int .i64 0])) ∧ (fldOf Try.prog 92 0 = some (0, 9)) ∧ (fldOf Try.prog 92 1 = some (1, 3)) ∧ (placesOf Try.prog 92 = some [(0, 1), (1, 1)]) ∧ (eqKs Try.prog 92 = some [.str, .int]) ∧ (szOf Try.prog 102 = some 1) ∧ (aggOf Try.prog 102 = some false) ∧ (strOf Try.prog 102 = false) ∧ (isSlice Try.prog 102 = true) ∧ (isBool Try.prog 102 = false) ∧ (intOf' Try.prog 102 = none) ∧ (elemOf Try.prog 102 = some 5) ∧ (zeroOf Try.prog 102 = some (.slice none 0 0)) ∧ (elOf Try.prog 102 = some (5, 1, 1, [.int .u8 0])) ∧ (szOf Try.prog 104 = some 1) ∧ (aggOf Try.prog 104 = some false) ∧ (strOf Try.prog 104 = false) ∧ (isSlice Try.prog 104 = true) ∧ (isBool Try.prog 104 = false) ∧ (intOf' Try.prog 104 = none) ∧ (elemOf Try.prog 104 = some 3) ∧ (zeroOf Try.prog 104 = some (.slice none 0 0)) ∧ (elOf Try.prog 104 = some (3, 1, 8, [.int .i64 0])) ∧ (szOf Try.prog 109 = some 5) ∧ (aggOf Try.prog 109 = some true) ∧ (strOf Try.prog 109 = false) ∧ (isSlice Try.prog 109 = false) ∧ (isBool Try.prog 109 = false) ∧ (intOf' Try.prog 109 = none) ∧ (elemOf Try.prog 109 = none) ∧ (zeroOf Try.prog 109 = some (.agg #[.int .i64 0, .int .i64 0, .int .i64 0, .int .i64 0, .slice none 0 0])) := ⟨ty200, ty201, ty202, ty203, ty204, ty205, ty206, ty207, ty208, ty209, ty210, ty211, ty212, ty213, ty214, ty215, ty216, ty217, ty218, ty219, ty220, ty221, ty222, ty223, ty224, ty225, ty226, ty227, ty228, ty229, ty230, ty231, ty232, ty233, ty234, ty235, ty236, ty237, ty238, ty239⟩
theorem tys6 : (fldOf Try.prog 109 0 = some (0, 3)) ∧ (fldOf Try.prog 109 1 = some (1, 3)) ∧ (fldOf Try.prog 109 2 = some (2, 3)) ∧ (fldOf Try.prog 109 3 = some (3, 3)) ∧ (fldOf Try.prog 109 4 = some (4, 104)) ∧ (placesOf Try.prog 109 = some [(0, 1), (1, 1), (2, 1), (3, 1), (4, 1)]) ∧ (szOf Try.prog 118 = some 1) ∧ (aggOf Try.prog 118 = some false) ∧ (szOf Try.prog 128 = some 2) ∧ (aggOf Try.prog 128 = some true) ∧ (strOf Try.prog 128 = false) ∧ (isSlice Try.prog 128 = false) ∧ (isBool Try.prog 128 = false) ∧ (intOf' Try.prog 128 = none) ∧ (elemOf Try.prog 128 = none) ∧ (zeroOf Try.prog 128 = some (.agg #[.int .i64 0, .string ⟨#[]⟩])) ∧ (fldOf Try.prog 128 0 = some (0, 3)) ∧ (fldOf Try.prog 128 1 = some (1, 9)) ∧ (placesOf Try.prog 128 = some [(0, 1), (1, 1)]) ∧ (eqKs Try.prog 128 = some [.int, .str]) ∧ (szOf Try.prog 135 = some 4) ∧ (aggOf Try.prog 135 = some true) ∧ (strOf Try.prog 135 = false) ∧ (isSlice Try.prog 135 = false) ∧ (isBool Try.prog 135 = false) ∧ (intOf' Try.prog 135 = none) ∧ (elemOf Try.prog 135 = none) ∧ (zeroOf Try.prog 135 = some (.agg #[.string ⟨#[]⟩, .int .i64 0, .string ⟨#[]⟩, .int .i64 0])) ∧ (fldOf Try.prog 135 0 = some (0, 9)) ∧ (fldOf Try.prog 135 1 = some (1, 3)) ∧ (fldOf Try.prog 135 2 = some (2, 9)) ∧ (fldOf Try.prog 135 3 = some (3, 3)) ∧ (placesOf Try.prog 135 = some [(0, 1), (1, 1), (2, 1), (3, 1)]) ∧ (eqKs Try.prog 135 = some [.str, .int, .str, .int]) ∧ (szOf Try.prog 146 = some 5) ∧ (aggOf Try.prog 146 = some true) ∧ (strOf Try.prog 146 = false) ∧ (isSlice Try.prog 146 = false) ∧ (isBool Try.prog 146 = false) ∧ (intOf' Try.prog 146 = none) := ⟨ty240, ty241, ty242, ty243, ty244, ty245, ty246, ty247, ty248, ty249, ty250, ty251, ty252, ty253, ty254, ty255, ty256, ty257, ty258, ty259, ty260, ty261, ty262, ty263, ty264, ty265, ty266, ty267, ty268, ty269, ty270, ty271, ty272, ty273, ty274, ty275, ty276, ty277, ty278, ty279⟩
theorem tys7 : (elemOf Try.prog 146 = none) ∧ (zeroOf Try.prog 146 = some (.agg #[.int .i64 0, .int .i64 0, .int .i64 0, .int .i64 0, .slice none 0 0])) ∧ (fldOf Try.prog 146 0 = some (0, 3)) ∧ (fldOf Try.prog 146 1 = some (1, 3)) ∧ (fldOf Try.prog 146 2 = some (2, 3)) ∧ (fldOf Try.prog 146 3 = some (3, 3)) ∧ (fldOf Try.prog 146 4 = some (4, 104)) ∧ (placesOf Try.prog 146 = some [(0, 1), (1, 1), (2, 1), (3, 1), (4, 1)]) ∧ (szOf Try.prog 150 = some 1) ∧ (aggOf Try.prog 150 = some false) ∧ (strOf Try.prog 150 = false) ∧ (isSlice Try.prog 150 = false) ∧ (isBool Try.prog 150 = false) ∧ (intOf' Try.prog 150 = some .u64) ∧ (elemOf Try.prog 150 = none) ∧ (zeroOf Try.prog 150 = some (.int .u64 0)) ∧ (szOf Try.prog 167 = some 1) ∧ (aggOf Try.prog 167 = some false) ∧ (szOf Try.prog 177 = some 1) ∧ (aggOf Try.prog 177 = some false) ∧ (strOf Try.prog 177 = false) ∧ (isSlice Try.prog 177 = false) ∧ (isBool Try.prog 177 = false) ∧ (intOf' Try.prog 177 = some .u32) ∧ (elemOf Try.prog 177 = none) ∧ (zeroOf Try.prog 177 = some (.int .u32 0)) ∧ (szOf Try.prog 180 = some 1) ∧ (aggOf Try.prog 180 = some false) ∧ (strOf Try.prog 180 = false) ∧ (isSlice Try.prog 180 = false) ∧ (isBool Try.prog 180 = false) ∧ (intOf' Try.prog 180 = some .u64) ∧ (elemOf Try.prog 180 = none) ∧ (zeroOf Try.prog 180 = some (.int .u64 0)) ∧ (szOf Try.prog 185 = some 1) ∧ (aggOf Try.prog 185 = some false) := ⟨ty280, ty281, ty282, ty283, ty284, ty285, ty286, ty287, ty288, ty289, ty290, ty291, ty292, ty293, ty294, ty295, ty296, ty297, ty298, ty299, ty300, ty301, ty302, ty303, ty304, ty305, ty306, ty307, ty308, ty309, ty310, ty311, ty312, ty313, ty314, ty315⟩
theorem TY : ((szOf Try.prog 2 = some 1) ∧ (aggOf Try.prog 2 = some false) ∧ (strOf Try.prog 2 = false) ∧ (isSlice Try.prog 2 = false) ∧ (isBool Try.prog 2 = false) ∧ (intOf' Try.prog 2 = some .i64) ∧ (elemOf Try.prog 2 = none) ∧ (zeroOf Try.prog 2 = some (.int .i64 0)) ∧ (szOf Try.prog 3 = some 1) ∧ (aggOf Try.prog 3 = some false) ∧ (strOf Try.prog 3 = false) ∧ (isSlice Try.prog 3 = false) ∧ (isBool Try.prog 3 = false) ∧ (intOf' Try.prog 3 = some .i64) ∧ (elemOf Try.prog 3 = none) ∧ (zeroOf Try.prog 3 = some (.int .i64 0)) ∧ (szOf Try.prog 4 = some 1) ∧ (aggOf Try.prog 4 = some false) ∧ (strOf Try.prog 4 = false) ∧ (isSlice Try.prog 4 = false) ∧ (isBool Try.prog 4 = true) ∧ (intOf' Try.prog 4 = none) ∧ (elemOf Try.prog 4 = none) ∧ (zeroOf Try.prog 4 = some (.bool false)) ∧ (szOf Try.prog 5 = some 1) ∧ (aggOf Try.prog 5 = some false) ∧ (strOf Try.prog 5 = false) ∧ (isSlice Try.prog 5 = false) ∧ (isBool Try.prog 5 = false) ∧ (intOf' Try.prog 5 = some .u8) ∧ (elemOf Try.prog 5 = none) ∧ (zeroOf Try.prog 5 = some (.int .u8 0)) ∧ (szOf Try.prog 9 = some 1) ∧ (aggOf Try.prog 9 = some false) ∧ (strOf Try.prog 9 = true) ∧ (isSlice Try.prog 9 = false) ∧ (isBool Try.prog 9 = false) ∧ (intOf' Try.prog 9 = none) ∧ (elemOf Try.prog 9 = none) ∧ (zeroOf Try.prog 9 = some (.string ⟨#[]⟩))) ∧ ((szOf Try.prog 12 = some 1) ∧ (aggOf Try.prog 12 = some false) ∧ (strOf Try.prog 12 = false) ∧ (isSlice Try.prog 12 = false) ∧ (isBool Try.prog 12 = false) ∧ (intOf' Try.prog 12 = some .u64) ∧ (elemOf Try.prog 12 = none) ∧ (zeroOf Try.prog 12 = some (.int .u64 0)) ∧ (szOf Try.prog 15 = some 1) ∧ (aggOf Try.prog 15 = some false) ∧ (szOf Try.prog 16 = some 1) ∧ (aggOf Try.prog 16 = some false) ∧ (szOf Try.prog 17 = some 1) ∧ (aggOf Try.prog 17 = some false) ∧ (szOf Try.prog 21 = some 1) ∧ (aggOf Try.prog 21 = some false) ∧ (strOf Try.prog 21 = false) ∧ (isSlice Try.prog 21 = false) ∧ (isBool Try.prog 21 = false) ∧ (intOf' Try.prog 21 = some .i32) ∧ (elemOf Try.prog 21 = none) ∧ (zeroOf Try.prog 21 = some (.int .i32 0)) ∧ (szOf Try.prog 22 = some 1) ∧ (aggOf Try.prog 22 = some false) ∧ (strOf Try.prog 22 = false) ∧ (isSlice Try.prog 22 = true) ∧ (isBool Try.prog 22 = false) ∧ (intOf' Try.prog 22 = none) ∧ (elemOf Try.prog 22 = some 135) ∧ (zeroOf Try.prog 22 = some (.slice none 0 0)) ∧ (elOf Try.prog 22 = some (135, 4, 48, [.string ⟨#[]⟩, .int .i64 0, .string ⟨#[]⟩, .int .i64 0])) ∧ (szOf Try.prog 24 = some 1) ∧ (aggOf Try.prog 24 = some true) ∧ (strOf Try.prog 24 = false) ∧ (isSlice Try.prog 24 = false) ∧ (isBool Try.prog 24 = false) ∧ (intOf' Try.prog 24 = none) ∧ (elemOf Try.prog 24 = none) ∧ (zeroOf Try.prog 24 = some (.agg #[.slice none 0 0])) ∧ (fldOf Try.prog 24 0 = some (0, 22))) ∧ ((placesOf Try.prog 24 = some [(0, 1)]) ∧ (szOf Try.prog 27 = some 1) ∧ (aggOf Try.prog 27 = some false) ∧ (strOf Try.prog 27 = false) ∧ (isSlice Try.prog 27 = true) ∧ (isBool Try.prog 27 = false) ∧ (intOf' Try.prog 27 = none) ∧ (elemOf Try.prog 27 = some 78) ∧ (zeroOf Try.prog 27 = some (.slice none 0 0)) ∧ (elOf Try.prog 27 = some (78, 4, 48, [.string ⟨#[]⟩, .int .i64 0, .string ⟨#[]⟩, .int .i64 0])) ∧ (szOf Try.prog 29 = some 1) ∧ (aggOf Try.prog 29 = some true) ∧ (strOf Try.prog 29 = false) ∧ (isSlice Try.prog 29 = false) ∧ (isBool Try.prog 29 = false) ∧ (intOf' Try.prog 29 = none) ∧ (elemOf Try.prog 29 = none) ∧ (zeroOf Try.prog 29 = some (.agg #[.slice none 0 0])) ∧ (fldOf Try.prog 29 0 = some (0, 27)) ∧ (placesOf Try.prog 29 = some [(0, 1)]) ∧ (szOf Try.prog 33 = some 1) ∧ (aggOf Try.prog 33 = some false) ∧ (strOf Try.prog 33 = false) ∧ (isSlice Try.prog 33 = true) ∧ (isBool Try.prog 33 = false) ∧ (intOf' Try.prog 33 = none) ∧ (elemOf Try.prog 33 = some 9) ∧ (zeroOf Try.prog 33 = some (.slice none 0 0)) ∧ (elOf Try.prog 33 = some (9, 1, 16, [.string ⟨#[]⟩])) ∧ (szOf Try.prog 39 = some 1) ∧ (aggOf Try.prog 39 = some false) ∧ (strOf Try.prog 39 = false) ∧ (isSlice Try.prog 39 = true) ∧ (isBool Try.prog 39 = false) ∧ (intOf' Try.prog 39 = none) ∧ (elemOf Try.prog 39 = some 91) ∧ (zeroOf Try.prog 39 = some (.slice none 0 0)) ∧ (elOf Try.prog 39 = some (91, 2, 24, [.string ⟨#[]⟩, .int .i64 0])) ∧ (szOf Try.prog 41 = some 1) ∧ (aggOf Try.prog 41 = some false)) ∧ ((strOf Try.prog 41 = false) ∧ (isSlice Try.prog 41 = true) ∧ (isBool Try.prog 41 = false) ∧ (intOf' Try.prog 41 = none) ∧ (elemOf Try.prog 41 = some 92) ∧ (zeroOf Try.prog 41 = some (.slice none 0 0)) ∧ (elOf Try.prog 41 = some (92, 2, 24, [.string ⟨#[]⟩, .int .i64 0])) ∧ (szOf Try.prog 48 = some 1) ∧ (aggOf Try.prog 48 = some false) ∧ (strOf Try.prog 48 = false) ∧ (isSlice Try.prog 48 = true) ∧ (isBool Try.prog 48 = false) ∧ (intOf' Try.prog 48 = none) ∧ (elemOf Try.prog 48 = some 146) ∧ (zeroOf Try.prog 48 = some (.slice none 0 0)) ∧ (elOf Try.prog 48 = some (146, 5, 56, [.int .i64 0, .int .i64 0, .int .i64 0, .int .i64 0, .slice none 0 0])) ∧ (szOf Try.prog 50 = some 2) ∧ (aggOf Try.prog 50 = some true) ∧ (strOf Try.prog 50 = false) ∧ (isSlice Try.prog 50 = false) ∧ (isBool Try.prog 50 = false) ∧ (intOf' Try.prog 50 = none) ∧ (elemOf Try.prog 50 = none) ∧ (zeroOf Try.prog 50 = some (.agg #[.slice none 0 0, .slice none 0 0])) ∧ (fldOf Try.prog 50 0 = some (0, 48)) ∧ (fldOf Try.prog 50 1 = some (1, 33)) ∧ (placesOf Try.prog 50 = some [(0, 1), (1, 1)]) ∧ (szOf Try.prog 53 = some 1) ∧ (aggOf Try.prog 53 = some false) ∧ (strOf Try.prog 53 = false) ∧ (isSlice Try.prog 53 = true) ∧ (isBool Try.prog 53 = false) ∧ (intOf' Try.prog 53 = none) ∧ (elemOf Try.prog 53 = some 109) ∧ (zeroOf Try.prog 53 = some (.slice none 0 0)) ∧ (elOf Try.prog 53 = some (109, 5, 56, [.int .i64 0, .int .i64 0, .int .i64 0, .int .i64 0, .slice none 0 0])) ∧ (szOf Try.prog 55 = some 2) ∧ (aggOf Try.prog 55 = some true) ∧ (strOf Try.prog 55 = false) ∧ (isSlice Try.prog 55 = false)) ∧ ((isBool Try.prog 55 = false) ∧ (intOf' Try.prog 55 = none) ∧ (elemOf Try.prog 55 = none) ∧ (zeroOf Try.prog 55 = some (.agg #[.slice none 0 0, .slice none 0 0])) ∧ (fldOf Try.prog 55 0 = some (0, 53)) ∧ (fldOf Try.prog 55 1 = some (1, 33)) ∧ (placesOf Try.prog 55 = some [(0, 1), (1, 1)]) ∧ (szOf Try.prog 68 = some 1) ∧ (aggOf Try.prog 68 = some false) ∧ (strOf Try.prog 68 = false) ∧ (isSlice Try.prog 68 = true) ∧ (isBool Try.prog 68 = false) ∧ (intOf' Try.prog 68 = none) ∧ (elemOf Try.prog 68 = some 128) ∧ (zeroOf Try.prog 68 = some (.slice none 0 0)) ∧ (elOf Try.prog 68 = some (128, 2, 24, [.int .i64 0, .string ⟨#[]⟩])) ∧ (szOf Try.prog 78 = some 4) ∧ (aggOf Try.prog 78 = some true) ∧ (strOf Try.prog 78 = false) ∧ (isSlice Try.prog 78 = false) ∧ (isBool Try.prog 78 = false) ∧ (intOf' Try.prog 78 = none) ∧ (elemOf Try.prog 78 = none) ∧ (zeroOf Try.prog 78 = some (.agg #[.string ⟨#[]⟩, .int .i64 0, .string ⟨#[]⟩, .int .i64 0])) ∧ (fldOf Try.prog 78 0 = some (0, 9)) ∧ (fldOf Try.prog 78 1 = some (1, 3)) ∧ (fldOf Try.prog 78 2 = some (2, 9)) ∧ (fldOf Try.prog 78 3 = some (3, 3)) ∧ (placesOf Try.prog 78 = some [(0, 1), (1, 1), (2, 1), (3, 1)]) ∧ (eqKs Try.prog 78 = some [.str, .int, .str, .int]) ∧ (szOf Try.prog 91 = some 2) ∧ (aggOf Try.prog 91 = some true) ∧ (strOf Try.prog 91 = false) ∧ (isSlice Try.prog 91 = false) ∧ (isBool Try.prog 91 = false) ∧ (intOf' Try.prog 91 = none) ∧ (elemOf Try.prog 91 = none) ∧ (zeroOf Try.prog 91 = some (.agg #[.string ⟨#[]⟩, .int .i64 0])) ∧ (fldOf Try.prog 91 0 = some (0, 9)) ∧ (fldOf Try.prog 91 1 = some (1, 3))) ∧ ((placesOf Try.prog 91 = some [(0, 1), (1, 1)]) ∧ (eqKs Try.prog 91 = some [.str, .int]) ∧ (szOf Try.prog 92 = some 2) ∧ (aggOf Try.prog 92 = some true) ∧ (strOf Try.prog 92 = false) ∧ (isSlice Try.prog 92 = false) ∧ (isBool Try.prog 92 = false) ∧ (intOf' Try.prog 92 = none) ∧ (elemOf Try.prog 92 = none) ∧ (zeroOf Try.prog 92 = some (.agg #[.string ⟨#[]⟩, .int .i64 0])) ∧ (fldOf Try.prog 92 0 = some (0, 9)) ∧ (fldOf Try.prog 92 1 = some (1, 3)) ∧ (placesOf Try.prog 92 = some [(0, 1), (1, 1)]) ∧ (eqKs Try.prog 92 = some [.str, .int]) ∧ (szOf Try.prog 102 = some 1) ∧ (aggOf Try.prog 102 = some false) ∧ (strOf Try.prog 102 = false) ∧ (isSlice Try.prog 102 = true) ∧ (isBool Try.prog 102 = false) ∧ (intOf' Try.prog 102 = none) ∧ (elemOf Try.prog 102 = some 5) ∧ (zeroOf Try.prog 102 = some (.slice none 0 0)) ∧ (elOf Try.prog 102 = some (5, 1, 1, [.int .u8 0])) ∧ (szOf Try.prog 104 = some 1) ∧ (aggOf Try.prog 104 = some false) ∧ (strOf Try.prog 104 = false) ∧ (isSlice Try.prog 104 = true) ∧ (isBool Try.prog 104 = false) ∧ (intOf' Try.prog 104 = none) ∧ (elemOf Try.prog 104 = some 3) ∧ (zeroOf Try.prog 104 = some (.slice none 0 0)) ∧ (elOf Try.prog 104 = some (3, 1, 8, [.int .i64 0])) ∧ (szOf Try.prog 109 = some 5) ∧ (aggOf Try.prog 109 = some true) ∧ (strOf Try.prog 109 = false) ∧ (isSlice Try.prog 109 = false) ∧ (isBool Try.prog 109 = false) ∧ (intOf' Try.prog 109 = none) ∧ (elemOf Try.prog 109 = none) ∧ (zeroOf Try.prog 109 = some (.agg #[.int .i64 0, .int .i64 0, .int .i64 0, .int .i64 0, .slice none 0 0]))) ∧ ((fldOf Try.prog 109 0 = some (0, 3)) ∧ (fldOf Try.prog 109 1 = some (1, 3)) ∧ (fldOf Try.prog 109 2 = some (2, 3)) ∧ (fldOf Try.prog 109 3 = some (3, 3)) ∧ (fldOf Try.prog 109 4 = some (4, 104)) ∧ (placesOf Try.prog 109 = some [(0, 1), (1, 1), (2, 1), (3, 1), (4, 1)]) ∧ (szOf Try.prog 118 = some 1) ∧ (aggOf Try.prog 118 = some false) ∧ (szOf Try.prog 128 = some 2) ∧ (aggOf Try.prog 128 = some true) ∧ (strOf Try.prog 128 = false) ∧ (isSlice Try.prog 128 = false) ∧ (isBool Try.prog 128 = false) ∧ (intOf' Try.prog 128 = none) ∧ (elemOf Try.prog 128 = none) ∧ (zeroOf Try.prog 128 = some (.agg #[.int .i64 0, .string ⟨#[]⟩])) ∧ (fldOf Try.prog 128 0 = some (0, 3)) ∧ (fldOf Try.prog 128 1 = some (1, 9)) ∧ (placesOf Try.prog 128 = some [(0, 1), (1, 1)]) ∧ (eqKs Try.prog 128 = some [.int, .str]) ∧ (szOf Try.prog 135 = some 4) ∧ (aggOf Try.prog 135 = some true) ∧ (strOf Try.prog 135 = false) ∧ (isSlice Try.prog 135 = false) ∧ (isBool Try.prog 135 = false) ∧ (intOf' Try.prog 135 = none) ∧ (elemOf Try.prog 135 = none) ∧ (zeroOf Try.prog 135 = some (.agg #[.string ⟨#[]⟩, .int .i64 0, .string ⟨#[]⟩, .int .i64 0])) ∧ (fldOf Try.prog 135 0 = some (0, 9)) ∧ (fldOf Try.prog 135 1 = some (1, 3)) ∧ (fldOf Try.prog 135 2 = some (2, 9)) ∧ (fldOf Try.prog 135 3 = some (3, 3)) ∧ (placesOf Try.prog 135 = some [(0, 1), (1, 1), (2, 1), (3, 1)]) ∧ (eqKs Try.prog 135 = some [.str, .int, .str, .int]) ∧ (szOf Try.prog 146 = some 5) ∧ (aggOf Try.prog 146 = some true) ∧ (strOf Try.prog 146 = false) ∧ (isSlice Try.prog 146 = false) ∧ (isBool Try.prog 146 = false) ∧ (intOf' Try.prog 146 = none)) ∧ ((elemOf Try.prog 146 = none) ∧ (zeroOf Try.prog 146 = some (.agg #[.int .i64 0, .int .i64 0, .int .i64 0, .int .i64 0, .slice none 0 0])) ∧ (fldOf Try.prog 146 0 = some (0, 3)) ∧ (fldOf Try.prog 146 1 = some (1, 3)) ∧ (fldOf Try.prog 146 2 = some (2, 3)) ∧ (fldOf Try.prog 146 3 = some (3, 3)) ∧ (fldOf Try.prog 146 4 = some (4, 104)) ∧ (placesOf Try.prog 146 = some [(0, 1), (1, 1), (2, 1), (3, 1), (4, 1)]) ∧ (szOf Try.prog 150 = some 1) ∧ (aggOf Try.prog 150 = some false) ∧ (strOf Try.prog 150 = false) ∧ (isSlice Try.prog 150 = false) ∧ (isBool Try.prog 150 = false) ∧ (intOf' Try.prog 150 = some .u64) ∧ (elemOf Try.prog 150 = none) ∧ (zeroOf Try.prog 150 = some (.int .u64 0)) ∧ (szOf Try.prog 167 = some 1) ∧ (aggOf Try.prog 167 = some false) ∧ (szOf Try.prog 177 = some 1) ∧ (aggOf Try.prog 177 = some false) ∧ (strOf Try.prog 177 = false) ∧ (isSlice Try.prog 177 = false) ∧ (isBool Try.prog 177 = false) ∧ (intOf' Try.prog 177 = some .u32) ∧ (elemOf Try.prog 177 = none) ∧ (zeroOf Try.prog 177 = some (.int .u32 0)) ∧ (szOf Try.prog 180 = some 1) ∧ (aggOf Try.prog 180 = some false) ∧ (strOf Try.prog 180 = false) ∧ (isSlice Try.prog 180 = false) ∧ (isBool Try.prog 180 = false) ∧ (intOf' Try.prog 180 = some .u64) ∧ (elemOf Try.prog 180 = none) ∧ (zeroOf Try.prog 180 = some (.int .u64 0)) ∧ (szOf Try.prog 185 = some 1) ∧ (aggOf Try.prog 185 = some false)) := ⟨tys0, tys1, tys2, tys3, tys4, tys5, tys6, tys7⟩
theorem mixed : Try.prog.follows .mixedOrders = true := by kernel_rfl
attribute [simp] TY
end Go.Proofs.Ytoknpbmcpaaalaa.Hz
