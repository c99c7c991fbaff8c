/- What the calculus asks of the types, each fact by the kernel. Written by facts.py. -/
import Derived.Test.YtidkkmkihifeoaaHzN
import Derived.Test.YtidkkmkihifeoaaProg
namespace Go.Proofs.Ytidkkmkihifeoaa.Hz
theorem ty0 : szOf Try.prog 2 = some 1 := by kernel_rfl
theorem ty1 : aggOf Try.prog 2 = some false := by kernel_rfl
theorem ty2 : strOf Try.prog 2 = false := by kernel_rfl
theorem ty3 : isSlice Try.prog 2 = false := by kernel_rfl
theorem ty4 : isBool Try.prog 2 = false := by kernel_rfl
theorem ty5 : intOf' Try.prog 2 = some .i64 := by kernel_rfl
theorem ty6 : elemOf Try.prog 2 = none := by kernel_rfl
theorem ty7 : zeroOf Try.prog 2 = some (.int .i64 0) := by kernel_rfl
theorem ty8 : szOf Try.prog 3 = some 1 := by kernel_rfl
theorem ty9 : aggOf Try.prog 3 = some false := by kernel_rfl
theorem ty10 : strOf Try.prog 3 = false := by kernel_rfl
theorem ty11 : isSlice Try.prog 3 = false := by kernel_rfl
theorem ty12 : isBool Try.prog 3 = false := by kernel_rfl
theorem ty13 : intOf' Try.prog 3 = some .i64 := by kernel_rfl
theorem ty14 : elemOf Try.prog 3 = none := by kernel_rfl
theorem ty15 : zeroOf Try.prog 3 = some (.int .i64 0) := by kernel_rfl
theorem ty16 : szOf Try.prog 4 = some 1 := by kernel_rfl
theorem ty17 : aggOf Try.prog 4 = some false := by kernel_rfl
theorem ty18 : strOf Try.prog 4 = false := by kernel_rfl
theorem ty19 : isSlice Try.prog 4 = false := by kernel_rfl
theorem ty20 : isBool Try.prog 4 = true := by kernel_rfl
theorem ty21 : intOf' Try.prog 4 = none := by kernel_rfl
theorem ty22 : elemOf Try.prog 4 = none := by kernel_rfl
theorem ty23 : zeroOf Try.prog 4 = some (.bool false) := by kernel_rfl
theorem ty24 : szOf Try.prog 5 = some 1 := by kernel_rfl
theorem ty25 : aggOf Try.prog 5 = some false := by kernel_rfl
theorem ty26 : strOf Try.prog 5 = false := by kernel_rfl
theorem ty27 : isSlice Try.prog 5 = false := by kernel_rfl
theorem ty28 : isBool Try.prog 5 = false := by kernel_rfl
theorem ty29 : intOf' Try.prog 5 = some .u8 := by kernel_rfl
theorem ty30 : elemOf Try.prog 5 = none := by kernel_rfl
theorem ty31 : zeroOf Try.prog 5 = some (.int .u8 0) := by kernel_rfl
theorem ty32 : szOf Try.prog 9 = some 1 := by kernel_rfl
theorem ty33 : aggOf Try.prog 9 = some false := by kernel_rfl
theorem ty34 : strOf Try.prog 9 = true := by kernel_rfl
theorem ty35 : isSlice Try.prog 9 = false := by kernel_rfl
theorem ty36 : isBool Try.prog 9 = false := by kernel_rfl
theorem ty37 : intOf' Try.prog 9 = none := by kernel_rfl
theorem ty38 : elemOf Try.prog 9 = none := by kernel_rfl
theorem ty39 : zeroOf Try.prog 9 = some (.string ⟨#[]⟩) := by kernel_rfl
theorem ty40 : szOf Try.prog 12 = some 1 := by kernel_rfl
theorem ty41 : aggOf Try.prog 12 = some false := by kernel_rfl
theorem ty42 : strOf Try.prog 12 = false := by kernel_rfl
theorem ty43 : isSlice Try.prog 12 = false := by kernel_rfl
theorem ty44 : isBool Try.prog 12 = false := by kernel_rfl
theorem ty45 : intOf' Try.prog 12 = some .u64 := by kernel_rfl
theorem ty46 : elemOf Try.prog 12 = none := by kernel_rfl
theorem ty47 : zeroOf Try.prog 12 = some (.int .u64 0) := by kernel_rfl
theorem ty48 : szOf Try.prog 15 = some 1 := by kernel_rfl
theorem ty49 : aggOf Try.prog 15 = some false := by kernel_rfl
theorem ty50 : szOf Try.prog 16 = some 1 := by kernel_rfl
theorem ty51 : aggOf Try.prog 16 = some false := by kernel_rfl
theorem ty52 : szOf Try.prog 17 = some 1 := by kernel_rfl
theorem ty53 : aggOf Try.prog 17 = some false := by kernel_rfl
theorem ty54 : szOf Try.prog 21 = some 1 := by kernel_rfl
theorem ty55 : aggOf Try.prog 21 = some false := by kernel_rfl
theorem ty56 : strOf Try.prog 21 = false := by kernel_rfl
theorem ty57 : isSlice Try.prog 21 = false := by kernel_rfl
theorem ty58 : isBool Try.prog 21 = false := by kernel_rfl
theorem ty59 : intOf' Try.prog 21 = some .i32 := by kernel_rfl
theorem ty60 : elemOf Try.prog 21 = none := by kernel_rfl
theorem ty61 : zeroOf Try.prog 21 = some (.int .i32 0) := by kernel_rfl
theorem ty62 : szOf Try.prog 22 = some 1 := by kernel_rfl
theorem ty63 : aggOf Try.prog 22 = some false := by kernel_rfl
theorem ty64 : strOf Try.prog 22 = false := by kernel_rfl
theorem ty65 : isSlice Try.prog 22 = true := by kernel_rfl
theorem ty66 : isBool Try.prog 22 = false := by kernel_rfl
theorem ty67 : intOf' Try.prog 22 = none := by kernel_rfl
theorem ty68 : elemOf Try.prog 22 = some 96 := by kernel_rfl
theorem ty69 : zeroOf Try.prog 22 = some (.slice none 0 0) := by kernel_rfl
theorem ty70 : elOf Try.prog 22 = some (96, 2, 24, [.string ⟨#[]⟩, .int .i64 0]) := by kernel_rfl
theorem ty71 : szOf Try.prog 24 = some 1 := by kernel_rfl
theorem ty72 : aggOf Try.prog 24 = some false := by kernel_rfl
theorem ty73 : strOf Try.prog 24 = false := by kernel_rfl
theorem ty74 : isSlice Try.prog 24 = true := by kernel_rfl
theorem ty75 : isBool Try.prog 24 = false := by kernel_rfl
theorem ty76 : intOf' Try.prog 24 = none := by kernel_rfl
theorem ty77 : elemOf Try.prog 24 = some 66 := by kernel_rfl
theorem ty78 : zeroOf Try.prog 24 = some (.slice none 0 0) := by kernel_rfl
theorem ty79 : elOf Try.prog 24 = some (66, 2, 24, [.string ⟨#[]⟩, .int .i64 0]) := by kernel_rfl
theorem ty80 : szOf Try.prog 35 = some 1 := by kernel_rfl
theorem ty81 : aggOf Try.prog 35 = some false := by kernel_rfl
theorem ty82 : strOf Try.prog 35 = false := by kernel_rfl
theorem ty83 : isSlice Try.prog 35 = true := by kernel_rfl
theorem ty84 : isBool Try.prog 35 = false := by kernel_rfl
theorem ty85 : intOf' Try.prog 35 = none := by kernel_rfl
theorem ty86 : elemOf Try.prog 35 = some 163 := by kernel_rfl
theorem ty87 : zeroOf Try.prog 35 = some (.slice none 0 0) := by kernel_rfl
theorem ty88 : elOf Try.prog 35 = some (163, 4, 48, [.string ⟨#[]⟩, .int .i64 0, .string ⟨#[]⟩, .int .i64 0]) := by kernel_rfl
theorem ty89 : szOf Try.prog 37 = some 1 := by kernel_rfl
theorem ty90 : aggOf Try.prog 37 = some true := by kernel_rfl
theorem ty91 : strOf Try.prog 37 = false := by kernel_rfl
theorem ty92 : isSlice Try.prog 37 = false := by kernel_rfl
theorem ty93 : isBool Try.prog 37 = false := by kernel_rfl
theorem ty94 : intOf' Try.prog 37 = none := by kernel_rfl
theorem ty95 : elemOf Try.prog 37 = none := by kernel_rfl
theorem ty96 : zeroOf Try.prog 37 = some (.agg #[.slice none 0 0]) := by kernel_rfl
theorem ty97 : fldOf Try.prog 37 0 = some (0, 35) := by kernel_rfl
theorem ty98 : placesOf Try.prog 37 = some [(0, 1)] := by kernel_rfl
theorem ty99 : szOf Try.prog 40 = some 1 := by kernel_rfl
theorem ty100 : aggOf Try.prog 40 = some false := by kernel_rfl
theorem ty101 : strOf Try.prog 40 = false := by kernel_rfl
theorem ty102 : isSlice Try.prog 40 = true := by kernel_rfl
theorem ty103 : isBool Try.prog 40 = false := by kernel_rfl
theorem ty104 : intOf' Try.prog 40 = none := by kernel_rfl
theorem ty105 : elemOf Try.prog 40 = some 111 := by kernel_rfl
theorem ty106 : zeroOf Try.prog 40 = some (.slice none 0 0) := by kernel_rfl
theorem ty107 : elOf Try.prog 40 = some (111, 4, 48, [.string ⟨#[]⟩, .int .i64 0, .string ⟨#[]⟩, .int .i64 0]) := by kernel_rfl
theorem ty108 : szOf Try.prog 42 = some 1 := by kernel_rfl
theorem ty109 : aggOf Try.prog 42 = some true := by kernel_rfl
theorem ty110 : strOf Try.prog 42 = false := by kernel_rfl
theorem ty111 : isSlice Try.prog 42 = false := by kernel_rfl
theorem ty112 : isBool Try.prog 42 = false := by kernel_rfl
theorem ty113 : intOf' Try.prog 42 = none := by kernel_rfl
theorem ty114 : elemOf Try.prog 42 = none := by kernel_rfl
theorem ty115 : zeroOf Try.prog 42 = some (.agg #[.slice none 0 0]) := by kernel_rfl
theorem ty116 : fldOf Try.prog 42 0 = some (0, 40) := by kernel_rfl
theorem ty117 : placesOf Try.prog 42 = some [(0, 1)] := by kernel_rfl
theorem ty118 : szOf Try.prog 46 = some 1 := by kernel_rfl
theorem ty119 : aggOf Try.prog 46 = some false := by kernel_rfl
theorem ty120 : strOf Try.prog 46 = false := by kernel_rfl
theorem ty121 : isSlice Try.prog 46 = true := by kernel_rfl
theorem ty122 : isBool Try.prog 46 = false := by kernel_rfl
theorem ty123 : intOf' Try.prog 46 = none := by kernel_rfl
theorem ty124 : elemOf Try.prog 46 = some 174 := by kernel_rfl
theorem ty125 : zeroOf Try.prog 46 = some (.slice none 0 0) := by kernel_rfl
theorem ty126 : elOf Try.prog 46 = some (174, 3, 56, [.int .i64 0, .slice none 0 0, .slice none 0 0]) := by kernel_rfl
theorem ty127 : szOf Try.prog 48 = some 7 := by kernel_rfl
theorem ty128 : aggOf Try.prog 48 = some true := by kernel_rfl
theorem ty129 : strOf Try.prog 48 = false := by kernel_rfl
theorem ty130 : isSlice Try.prog 48 = false := by kernel_rfl
theorem ty131 : isBool Try.prog 48 = false := by kernel_rfl
theorem ty132 : intOf' Try.prog 48 = none := by kernel_rfl
theorem ty133 : elemOf Try.prog 48 = none := by kernel_rfl
theorem ty134 : zeroOf Try.prog 48 = some (.agg #[.bool false, .bool false, .int .i64 0, .int .i64 0, .string ⟨#[]⟩, .int .i64 0, .int .i64 0]) := by kernel_rfl
theorem ty135 : fldOf Try.prog 48 0 = some (0, 4) := by kernel_rfl
theorem ty136 : fldOf Try.prog 48 1 = some (1, 4) := by kernel_rfl
theorem ty137 : fldOf Try.prog 48 2 = some (2, 3) := by kernel_rfl
theorem ty138 : fldOf Try.prog 48 3 = some (3, 3) := by kernel_rfl
theorem ty139 : fldOf Try.prog 48 4 = some (4, 9) := by kernel_rfl
theorem ty140 : fldOf Try.prog 48 5 = some (5, 3) := by kernel_rfl
theorem ty141 : fldOf Try.prog 48 6 = some (6, 3) := by kernel_rfl
theorem ty142 : placesOf Try.prog 48 = some [(0, 1), (1, 1), (2, 1), (3, 1), (4, 1), (5, 1), (6, 1)] := by kernel_rfl
theorem ty143 : eqKs Try.prog 48 = some [.bool, .bool, .int, .int, .str, .int, .int] := by kernel_rfl
theorem ty144 : szOf Try.prog 50 = some 10 := by kernel_rfl
theorem ty145 : aggOf Try.prog 50 = some true := by kernel_rfl
theorem ty146 : strOf Try.prog 50 = false := by kernel_rfl
theorem ty147 : isSlice Try.prog 50 = false := by kernel_rfl
theorem ty148 : isBool Try.prog 50 = false := by kernel_rfl
theorem ty149 : intOf' Try.prog 50 = none := by kernel_rfl
theorem ty150 : elemOf Try.prog 50 = none := by kernel_rfl
theorem ty151 : zeroOf Try.prog 50 = some (.agg #[.int .i64 0, .int .i64 0, .slice none 0 0, .bool false, .bool false, .int .i64 0, .int .i64 0, .string ⟨#[]⟩, .int .i64 0, .int .i64 0]) := by kernel_rfl
theorem ty152 : fldOf Try.prog 50 0 = some (0, 3) := by kernel_rfl
theorem ty153 : fldOf Try.prog 50 1 = some (1, 3) := by kernel_rfl
theorem ty154 : fldOf Try.prog 50 2 = some (2, 46) := by kernel_rfl
theorem ty155 : fldOf Try.prog 50 3 = some (3, 48) := by kernel_rfl
theorem ty156 : placesOf Try.prog 50 = some [(0, 1), (1, 1), (2, 1), (3, 7)] := by kernel_rfl
theorem ty157 : szOf Try.prog 53 = some 1 := by kernel_rfl
theorem ty158 : aggOf Try.prog 53 = some false := by kernel_rfl
theorem ty159 : strOf Try.prog 53 = false := by kernel_rfl
theorem ty160 : isSlice Try.prog 53 = true := by kernel_rfl
theorem ty161 : isBool Try.prog 53 = false := by kernel_rfl
theorem ty162 : intOf' Try.prog 53 = none := by kernel_rfl
theorem ty163 : elemOf Try.prog 53 = some 122 := by kernel_rfl
theorem ty164 : zeroOf Try.prog 53 = some (.slice none 0 0) := by kernel_rfl
theorem ty165 : elOf Try.prog 53 = some (122, 3, 56, [.int .i64 0, .slice none 0 0, .slice none 0 0]) := by kernel_rfl
theorem ty166 : szOf Try.prog 54 = some 7 := by kernel_rfl
theorem ty167 : aggOf Try.prog 54 = some true := by kernel_rfl
theorem ty168 : strOf Try.prog 54 = false := by kernel_rfl
theorem ty169 : isSlice Try.prog 54 = false := by kernel_rfl
theorem ty170 : isBool Try.prog 54 = false := by kernel_rfl
theorem ty171 : intOf' Try.prog 54 = none := by kernel_rfl
theorem ty172 : elemOf Try.prog 54 = none := by kernel_rfl
theorem ty173 : zeroOf Try.prog 54 = some (.agg #[.bool false, .bool false, .int .i64 0, .int .i64 0, .string ⟨#[]⟩, .int .i64 0, .int .i64 0]) := by kernel_rfl
theorem ty174 : fldOf Try.prog 54 0 = some (0, 4) := by kernel_rfl
theorem ty175 : fldOf Try.prog 54 1 = some (1, 4) := by kernel_rfl
theorem ty176 : fldOf Try.prog 54 2 = some (2, 3) := by kernel_rfl
theorem ty177 : fldOf Try.prog 54 3 = some (3, 3) := by kernel_rfl
theorem ty178 : fldOf Try.prog 54 4 = some (4, 9) := by kernel_rfl
theorem ty179 : fldOf Try.prog 54 5 = some (5, 3) := by kernel_rfl
theorem ty180 : fldOf Try.prog 54 6 = some (6, 3) := by kernel_rfl
theorem ty181 : placesOf Try.prog 54 = some [(0, 1), (1, 1), (2, 1), (3, 1), (4, 1), (5, 1), (6, 1)] := by kernel_rfl
theorem ty182 : eqKs Try.prog 54 = some [.bool, .bool, .int, .int, .str, .int, .int] := by kernel_rfl
theorem ty183 : szOf Try.prog 56 = some 10 := by kernel_rfl
theorem ty184 : aggOf Try.prog 56 = some true := by kernel_rfl
theorem ty185 : strOf Try.prog 56 = false := by kernel_rfl
theorem ty186 : isSlice Try.prog 56 = false := by kernel_rfl
theorem ty187 : isBool Try.prog 56 = false := by kernel_rfl
theorem ty188 : intOf' Try.prog 56 = none := by kernel_rfl
theorem ty189 : elemOf Try.prog 56 = none := by kernel_rfl
theorem ty190 : zeroOf Try.prog 56 = some (.agg #[.int .i64 0, .int .i64 0, .slice none 0 0, .bool false, .bool false, .int .i64 0, .int .i64 0, .string ⟨#[]⟩, .int .i64 0, .int .i64 0]) := by kernel_rfl
theorem ty191 : fldOf Try.prog 56 0 = some (0, 3) := by kernel_rfl
theorem ty192 : fldOf Try.prog 56 1 = some (1, 3) := by kernel_rfl
theorem ty193 : fldOf Try.prog 56 2 = some (2, 53) := by kernel_rfl
theorem ty194 : fldOf Try.prog 56 3 = some (3, 54) := by kernel_rfl
theorem ty195 : placesOf Try.prog 56 = some [(0, 1), (1, 1), (2, 1), (3, 7)] := by kernel_rfl
theorem ty196 : szOf Try.prog 59 = some 1 := by kernel_rfl
theorem ty197 : aggOf Try.prog 59 = some false := by kernel_rfl
theorem ty198 : strOf Try.prog 59 = false := by kernel_rfl
theorem ty199 : isSlice Try.prog 59 = true := by kernel_rfl
theorem ty200 : isBool Try.prog 59 = false := by kernel_rfl
theorem ty201 : intOf' Try.prog 59 = none := by kernel_rfl
theorem ty202 : elemOf Try.prog 59 = some 5 := by kernel_rfl
theorem ty203 : zeroOf Try.prog 59 = some (.slice none 0 0) := by kernel_rfl
theorem ty204 : elOf Try.prog 59 = some (5, 1, 1, [.int .u8 0]) := by kernel_rfl
theorem ty205 : szOf Try.prog 66 = some 2 := by kernel_rfl
theorem ty206 : aggOf Try.prog 66 = some true := by kernel_rfl
theorem ty207 : strOf Try.prog 66 = false := by kernel_rfl
theorem ty208 : isSlice Try.prog 66 = false := by kernel_rfl
theorem ty209 : isBool Try.prog 66 = false := by kernel_rfl
theorem ty210 : intOf' Try.prog 66 = none := by kernel_rfl
theorem ty211 : elemOf Try.prog 66 = none := by kernel_rfl
theorem ty212 : zeroOf Try.prog 66 = some (.agg #[.string ⟨#[]⟩, .int .i64 0]) := by kernel_rfl
theorem ty213 : fldOf Try.prog 66 0 = some (0, 9) := by kernel_rfl
theorem ty214 : fldOf Try.prog 66 1 = some (1, 3) := by kernel_rfl
theorem ty215 : placesOf Try.prog 66 = some [(0, 1), (1, 1)] := by kernel_rfl
theorem ty216 : eqKs Try.prog 66 = some [.str, .int] := by kernel_rfl
theorem ty217 : szOf Try.prog 68 = some 1 := by kernel_rfl
theorem ty218 : aggOf Try.prog 68 = some false := by kernel_rfl
theorem ty219 : strOf Try.prog 68 = false := by kernel_rfl
theorem ty220 : isSlice Try.prog 68 = true := by kernel_rfl
theorem ty221 : isBool Try.prog 68 = false := by kernel_rfl
theorem ty222 : intOf' Try.prog 68 = none := by kernel_rfl
theorem ty223 : elemOf Try.prog 68 = some 183 := by kernel_rfl
theorem ty224 : zeroOf Try.prog 68 = some (.slice none 0 0) := by kernel_rfl
theorem ty225 : elOf Try.prog 68 = some (183, 5, 56, [.int .i64 0, .int .i64 0, .int .i64 0, .int .i64 0, .slice none 0 0]) := by kernel_rfl
theorem ty226 : szOf Try.prog 69 = some 1 := by kernel_rfl
theorem ty227 : aggOf Try.prog 69 = some false := by kernel_rfl
theorem ty228 : strOf Try.prog 69 = false := by kernel_rfl
theorem ty229 : isSlice Try.prog 69 = true := by kernel_rfl
theorem ty230 : isBool Try.prog 69 = false := by kernel_rfl
theorem ty231 : intOf' Try.prog 69 = none := by kernel_rfl
theorem ty232 : elemOf Try.prog 69 = some 9 := by kernel_rfl
theorem ty233 : zeroOf Try.prog 69 = some (.slice none 0 0) := by kernel_rfl
theorem ty234 : elOf Try.prog 69 = some (9, 1, 16, [.string ⟨#[]⟩]) := by kernel_rfl
theorem ty235 : szOf Try.prog 71 = some 2 := by kernel_rfl
theorem ty236 : aggOf Try.prog 71 = some true := by kernel_rfl
theorem ty237 : strOf Try.prog 71 = false := by kernel_rfl
theorem ty238 : isSlice Try.prog 71 = false := by kernel_rfl
theorem ty239 : isBool Try.prog 71 = false := by kernel_rfl
theorem ty240 : intOf' Try.prog 71 = none := by kernel_rfl
theorem ty241 : elemOf Try.prog 71 = none := by kernel_rfl
theorem ty242 : zeroOf Try.prog 71 = some (.agg #[.slice none 0 0, .slice none 0 0]) := by kernel_rfl
theorem ty243 : fldOf Try.prog 71 0 = some (0, 68) := by kernel_rfl
theorem ty244 : fldOf Try.prog 71 1 = some (1, 69) := by kernel_rfl
theorem ty245 : placesOf Try.prog 71 = some [(0, 1), (1, 1)] := by kernel_rfl
theorem ty246 : szOf Try.prog 75 = some 1 := by kernel_rfl
theorem ty247 : aggOf Try.prog 75 = some false := by kernel_rfl
theorem ty248 : strOf Try.prog 75 = false := by kernel_rfl
theorem ty249 : isSlice Try.prog 75 = true := by kernel_rfl
theorem ty250 : isBool Try.prog 75 = false := by kernel_rfl
theorem ty251 : intOf' Try.prog 75 = none := by kernel_rfl
theorem ty252 : elemOf Try.prog 75 = some 151 := by kernel_rfl
theorem ty253 : zeroOf Try.prog 75 = some (.slice none 0 0) := by kernel_rfl
theorem ty254 : elOf Try.prog 75 = some (151, 5, 56, [.int .i64 0, .int .i64 0, .int .i64 0, .int .i64 0, .slice none 0 0]) := by kernel_rfl
theorem ty255 : szOf Try.prog 77 = some 2 := by kernel_rfl
theorem ty256 : aggOf Try.prog 77 = some true := by kernel_rfl
theorem ty257 : strOf Try.prog 77 = false := by kernel_rfl
theorem ty258 : isSlice Try.prog 77 = false := by kernel_rfl
theorem ty259 : isBool Try.prog 77 = false := by kernel_rfl
theorem ty260 : intOf' Try.prog 77 = none := by kernel_rfl
theorem ty261 : elemOf Try.prog 77 = none := by kernel_rfl
theorem ty262 : zeroOf Try.prog 77 = some (.agg #[.slice none 0 0, .slice none 0 0]) := by kernel_rfl
theorem ty263 : fldOf Try.prog 77 0 = some (0, 75) := by kernel_rfl
theorem ty264 : fldOf Try.prog 77 1 = some (1, 69) := by kernel_rfl
theorem ty265 : placesOf Try.prog 77 = some [(0, 1), (1, 1)] := by kernel_rfl
theorem ty266 : szOf Try.prog 96 = some 2 := by kernel_rfl
theorem ty267 : aggOf Try.prog 96 = some true := by kernel_rfl
theorem ty268 : strOf Try.prog 96 = false := by kernel_rfl
theorem ty269 : isSlice Try.prog 96 = false := by kernel_rfl
theorem ty270 : isBool Try.prog 96 = false := by kernel_rfl
theorem ty271 : intOf' Try.prog 96 = none := by kernel_rfl
theorem ty272 : elemOf Try.prog 96 = none := by kernel_rfl
theorem ty273 : zeroOf Try.prog 96 = some (.agg #[.string ⟨#[]⟩, .int .i64 0]) := by kernel_rfl
theorem ty274 : fldOf Try.prog 96 0 = some (0, 9) := by kernel_rfl
theorem ty275 : fldOf Try.prog 96 1 = some (1, 3) := by kernel_rfl
theorem ty276 : placesOf Try.prog 96 = some [(0, 1), (1, 1)] := by kernel_rfl
theorem ty277 : eqKs Try.prog 96 = some [.str, .int] := by kernel_rfl
theorem ty278 : szOf Try.prog 111 = some 4 := by kernel_rfl
theorem ty279 : aggOf Try.prog 111 = some true := by kernel_rfl
theorem ty280 : strOf Try.prog 111 = false := by kernel_rfl
theorem ty281 : isSlice Try.prog 111 = false := by kernel_rfl
theorem ty282 : isBool Try.prog 111 = false := by kernel_rfl
theorem ty283 : intOf' Try.prog 111 = none := by kernel_rfl
theorem ty284 : elemOf Try.prog 111 = none := by kernel_rfl
theorem ty285 : zeroOf Try.prog 111 = some (.agg #[.string ⟨#[]⟩, .int .i64 0, .string ⟨#[]⟩, .int .i64 0]) := by kernel_rfl
theorem ty286 : fldOf Try.prog 111 0 = some (0, 9) := by kernel_rfl
theorem ty287 : fldOf Try.prog 111 1 = some (1, 3) := by kernel_rfl
theorem ty288 : fldOf Try.prog 111 2 = some (2, 9) := by kernel_rfl
theorem ty289 : fldOf Try.prog 111 3 = some (3, 3) := by kernel_rfl
theorem ty290 : placesOf Try.prog 111 = some [(0, 1), (1, 1), (2, 1), (3, 1)] := by kernel_rfl
theorem ty291 : eqKs Try.prog 111 = some [.str, .int, .str, .int] := by kernel_rfl
theorem ty292 : szOf Try.prog 122 = some 3 := by kernel_rfl
theorem ty293 : aggOf Try.prog 122 = some true := by kernel_rfl
theorem ty294 : strOf Try.prog 122 = false := by kernel_rfl
theorem ty295 : isSlice Try.prog 122 = false := by kernel_rfl
theorem ty296 : isBool Try.prog 122 = false := by kernel_rfl
theorem ty297 : intOf' Try.prog 122 = none := by kernel_rfl
theorem ty298 : elemOf Try.prog 122 = none := by kernel_rfl
theorem ty299 : zeroOf Try.prog 122 = some (.agg #[.int .i64 0, .slice none 0 0, .slice none 0 0]) := by kernel_rfl
theorem ty300 : fldOf Try.prog 122 0 = some (0, 3) := by kernel_rfl
theorem ty301 : fldOf Try.prog 122 1 = some (1, 77) := by kernel_rfl
theorem ty302 : placesOf Try.prog 122 = some [(0, 1), (1, 2)] := by kernel_rfl
theorem ty303 : szOf Try.prog 129 = some 1 := by kernel_rfl
theorem ty304 : aggOf Try.prog 129 = some false := by kernel_rfl
theorem ty305 : szOf Try.prog 135 = some 1 := by kernel_rfl
theorem ty306 : aggOf Try.prog 135 = some false := by kernel_rfl
theorem ty307 : strOf Try.prog 135 = false := by kernel_rfl
theorem ty308 : isSlice Try.prog 135 = true := by kernel_rfl
theorem ty309 : isBool Try.prog 135 = false := by kernel_rfl
theorem ty310 : intOf' Try.prog 135 = none := by kernel_rfl
theorem ty311 : elemOf Try.prog 135 = some 3 := by kernel_rfl
theorem ty312 : zeroOf Try.prog 135 = some (.slice none 0 0) := by kernel_rfl
theorem ty313 : elOf Try.prog 135 = some (3, 1, 8, [.int .i64 0]) := by kernel_rfl
theorem ty314 : szOf Try.prog 151 = some 5 := by kernel_rfl
theorem ty315 : aggOf Try.prog 151 = some true := by kernel_rfl
theorem ty316 : strOf Try.prog 151 = false := by kernel_rfl
theorem ty317 : isSlice Try.prog 151 = false := by kernel_rfl
theorem ty318 : isBool Try.prog 151 = false := by kernel_rfl
theorem ty319 : intOf' Try.prog 151 = none := by kernel_rfl
theorem ty320 : elemOf Try.prog 151 = none := by kernel_rfl
theorem ty321 : zeroOf Try.prog 151 = some (.agg #[.int .i64 0, .int .i64 0, .int .i64 0, .int .i64 0, .slice none 0 0]) := by kernel_rfl
theorem ty322 : fldOf Try.prog 151 0 = some (0, 3) := by kernel_rfl
theorem ty323 : fldOf Try.prog 151 1 = some (1, 3) := by kernel_rfl
theorem ty324 : fldOf Try.prog 151 2 = some (2, 3) := by kernel_rfl
theorem ty325 : fldOf Try.prog 151 3 = some (3, 3) := by kernel_rfl
theorem ty326 : fldOf Try.prog 151 4 = some (4, 135) := by kernel_rfl
theorem ty327 : placesOf Try.prog 151 = some [(0, 1), (1, 1), (2, 1), (3, 1), (4, 1)] := by kernel_rfl
theorem ty328 : szOf Try.prog 160 = some 1 := by kernel_rfl
theorem ty329 : aggOf Try.prog 160 = some false := by kernel_rfl
theorem ty330 : szOf Try.prog 163 = some 4 := by kernel_rfl
theorem ty331 : aggOf Try.prog 163 = some true := by kernel_rfl
theorem ty332 : strOf Try.prog 163 = false := by kernel_rfl
theorem ty333 : isSlice Try.prog 163 = false := by kernel_rfl
theorem ty334 : isBool Try.prog 163 = false := by kernel_rfl
theorem ty335 : intOf' Try.prog 163 = none := by kernel_rfl
theorem ty336 : elemOf Try.prog 163 = none := by kernel_rfl
theorem ty337 : zeroOf Try.prog 163 = some (.agg #[.string ⟨#[]⟩, .int .i64 0, .string ⟨#[]⟩, .int .i64 0]) := by kernel_rfl
theorem ty338 : fldOf Try.prog 163 0 = some (0, 9) := by kernel_rfl
theorem ty339 : fldOf Try.prog 163 1 = some (1, 3) := by kernel_rfl
theorem ty340 : fldOf Try.prog 163 2 = some (2, 9) := by kernel_rfl
theorem ty341 : fldOf Try.prog 163 3 = some (3, 3) := by kernel_rfl
theorem ty342 : placesOf Try.prog 163 = some [(0, 1), (1, 1), (2, 1), (3, 1)] := by kernel_rfl
theorem ty343 : eqKs Try.prog 163 = some [.str, .int, .str, .int] := by kernel_rfl
theorem ty344 : szOf Try.prog 174 = some 3 := by kernel_rfl
theorem ty345 : aggOf Try.prog 174 = some true := by kernel_rfl
theorem ty346 : strOf Try.prog 174 = false := by kernel_rfl
theorem ty347 : isSlice Try.prog 174 = false := by kernel_rfl
theorem ty348 : isBool Try.prog 174 = false := by kernel_rfl
theorem ty349 : intOf' Try.prog 174 = none := by kernel_rfl
theorem ty350 : elemOf Try.prog 174 = none := by kernel_rfl
theorem ty351 : zeroOf Try.prog 174 = some (.agg #[.int .i64 0, .slice none 0 0, .slice none 0 0]) := by kernel_rfl
theorem ty352 : fldOf Try.prog 174 0 = some (0, 3) := by kernel_rfl
theorem ty353 : fldOf Try.prog 174 1 = some (1, 71) := by kernel_rfl
theorem ty354 : placesOf Try.prog 174 = some [(0, 1), (1, 2)] := by kernel_rfl
theorem ty355 : szOf Try.prog 179 = some 3 := by kernel_rfl
theorem ty356 : aggOf Try.prog 179 = some true := by kernel_rfl
theorem ty357 : strOf Try.prog 179 = false := by kernel_rfl
theorem ty358 : isSlice Try.prog 179 = false := by kernel_rfl
theorem ty359 : isBool Try.prog 179 = false := by kernel_rfl
theorem ty360 : intOf' Try.prog 179 = none := by kernel_rfl
theorem ty361 : elemOf Try.prog 179 = none := by kernel_rfl
theorem ty362 : zeroOf Try.prog 179 = some (.agg #[.slice none 0 0, .int .i64 0, .int .i64 0]) := by kernel_rfl
theorem ty363 : fldOf Try.prog 179 0 = some (0, 59) := by kernel_rfl
theorem ty364 : fldOf Try.prog 179 1 = some (1, 3) := by kernel_rfl
theorem ty365 : fldOf Try.prog 179 2 = some (2, 3) := by kernel_rfl
theorem ty366 : placesOf Try.prog 179 = some [(0, 1), (1, 1), (2, 1)] := by kernel_rfl
theorem ty367 : szOf Try.prog 181 = some 1 := by kernel_rfl
theorem ty368 : aggOf Try.prog 181 = some false := by kernel_rfl
theorem ty369 : strOf Try.prog 181 = false := by kernel_rfl
theorem ty370 : isSlice Try.prog 181 = false := by kernel_rfl
theorem ty371 : isBool Try.prog 181 = false := by kernel_rfl
theorem ty372 : intOf' Try.prog 181 = some .u64 := by kernel_rfl
theorem ty373 : elemOf Try.prog 181 = none := by kernel_rfl
theorem ty374 : zeroOf Try.prog 181 = some (.int .u64 0) := by kernel_rfl
theorem ty375 : szOf Try.prog 183 = some 5 := by kernel_rfl
theorem ty376 : aggOf Try.prog 183 = some true := by kernel_rfl
theorem ty377 : strOf Try.prog 183 = false := by kernel_rfl
theorem ty378 : isSlice Try.prog 183 = false := by kernel_rfl
theorem ty379 : isBool Try.prog 183 = false := by kernel_rfl
theorem ty380 : intOf' Try.prog 183 = none := by kernel_rfl
theorem ty381 : elemOf Try.prog 183 = none := by kernel_rfl
theorem ty382 : zeroOf Try.prog 183 = some (.agg #[.int .i64 0, .int .i64 0, .int .i64 0, .int .i64 0, .slice none 0 0]) := by kernel_rfl
theorem ty383 : fldOf Try.prog 183 0 = some (0, 3) := by kernel_rfl
theorem ty384 : fldOf Try.prog 183 1 = some (1, 3) := by kernel_rfl
theorem ty385 : fldOf Try.prog 183 2 = some (2, 3) := by kernel_rfl
theorem ty386 : fldOf Try.prog 183 3 = some (3, 3) := by kernel_rfl
theorem ty387 : fldOf Try.prog 183 4 = some (4, 135) := by kernel_rfl
theorem ty388 : placesOf Try.prog 183 = some [(0, 1), (1, 1), (2, 1), (3, 1), (4, 1)] := by kernel_rfl
theorem ty389 : szOf Try.prog 199 = some 1 := by kernel_rfl
theorem ty390 : aggOf Try.prog 199 = some false := by kernel_rfl
theorem ty391 : szOf Try.prog 208 = some 1 := by kernel_rfl
theorem ty392 : aggOf Try.prog 208 = some false := by kernel_rfl
theorem ty393 : strOf Try.prog 208 = false := by kernel_rfl
theorem ty394 : isSlice Try.prog 208 = false := by kernel_rfl
theorem ty395 : isBool Try.prog 208 = false := by kernel_rfl
theorem ty396 : intOf' Try.prog 208 = some .u32 := by kernel_rfl
theorem ty397 : elemOf Try.prog 208 = none := by kernel_rfl
theorem ty398 : zeroOf Try.prog 208 = some (.int .u32 0) := by kernel_rfl
theorem ty399 : szOf Try.prog 211 = some 1 := by kernel_rfl
theorem ty400 : aggOf Try.prog 211 = some false := by kernel_rfl
theorem ty401 : strOf Try.prog 211 = false := by kernel_rfl
theorem ty402 : isSlice Try.prog 211 = false := by kernel_rfl
theorem ty403 : isBool Try.prog 211 = false := by kernel_rfl
theorem ty404 : intOf' Try.prog 211 = some .u64 := by kernel_rfl
theorem ty405 : elemOf Try.prog 211 = none := by kernel_rfl
theorem ty406 : zeroOf Try.prog 211 = some (.int .u64 0) := by kernel_rfl
theorem ty407 : szOf Try.prog 214 = some 1 := by kernel_rfl
theorem ty408 : aggOf Try.prog 214 = some false := by kernel_rfl
theorem tys0 : (szOf Try.prog 2 = some 1) ∧ (aggOf Try.prog 2 = some false) ∧ (strOf Try.prog 2 = false) ∧ (isSlice Try.prog 2 = false) ∧ (isBool Try.prog 2 = false) ∧ (intOf' Try.prog 2 = some .i64) ∧ (elemOf Try.prog 2 = none) ∧ (zeroOf Try.prog 2 = some (.int .i64 0)) ∧ (szOf Try.prog 3 = some 1) ∧ (aggOf Try.prog 3 = some false) ∧ (strOf Try.prog 3 = false) ∧ (isSlice Try.prog 3 = false) ∧ (isBool Try.prog 3 = false) ∧ (intOf' Try.prog 3 = some .i64) ∧ (elemOf Try.prog 3 = none) ∧ (zeroOf Try.prog 3 = some (.int .i64 0)) ∧ (szOf Try.prog 4 = some 1) ∧ (aggOf Try.prog 4 = some false) ∧ (strOf Try.prog 4 = false) ∧ (isSlice Try.prog 4 = false) ∧ (isBool Try.prog 4 = true) ∧ (intOf' Try.prog 4 = none) ∧ (elemOf Try.prog 4 = none) ∧ (zeroOf Try.prog 4 = some (.bool false)) ∧ (szOf Try.prog 5 = some 1) ∧ (aggOf Try.prog 5 = some false) ∧ (strOf Try.prog 5 = false) ∧ (isSlice Try.prog 5 = false) ∧ (isBool Try.prog 5 = false) ∧ (intOf' Try.prog 5 = some .u8) ∧ (elemOf Try.prog 5 = none) ∧ (zeroOf Try.prog 5 = some (.int .u8 0)) ∧ (szOf Try.prog 9 = some 1) ∧ (aggOf Try.prog 9 = some false) ∧ (strOf Try.prog 9 = true) ∧ (isSlice Try.prog 9 = false) ∧ (isBool Try.prog 9 = false) ∧ (intOf' Try.prog 9 = none) ∧ (elemOf Try.prog 9 = none) ∧ (zeroOf Try.prog 9 = some (.string ⟨#[]⟩)) := ⟨ty0, ty1, ty2, ty3, ty4, ty5, ty6, ty7, ty8, ty9, ty10, ty11, ty12, ty13, ty14, ty15, ty16, ty17, ty18, ty19, ty20, ty21, ty22, ty23, ty24, ty25, ty26, ty27, ty28, ty29, ty30, ty31, ty32, ty33, ty34, ty35, ty36, ty37, ty38, ty39⟩
theorem tys1 : (szOf Try.prog 12 = some 1) ∧ (aggOf Try.prog 12 = some false) ∧ (strOf Try.prog 12 = false) ∧ (isSlice Try.prog 12 = false) ∧ (isBool Try.prog 12 = false) ∧ (intOf' Try.prog 12 = some .u64) ∧ (elemOf Try.prog 12 = none) ∧ (zeroOf Try.prog 12 = some (.int .u64 0)) ∧ (szOf Try.prog 15 = some 1) ∧ (aggOf Try.prog 15 = some false) ∧ (szOf Try.prog 16 = some 1) ∧ (aggOf Try.prog 16 = some false) ∧ (szOf Try.prog 17 = some 1) ∧ (aggOf Try.prog 17 = some false) ∧ (szOf Try.prog 21 = some 1) ∧ (aggOf Try.prog 21 = some false) ∧ (strOf Try.prog 21 = false) ∧ (isSlice Try.prog 21 = false) ∧ (isBool Try.prog 21 = false) ∧ (intOf' Try.prog 21 = some .i32) ∧ (elemOf Try.prog 21 = none) ∧ (zeroOf Try.prog 21 = some (.int .i32 0)) ∧ (szOf Try.prog 22 = some 1) ∧ (aggOf Try.prog 22 = some false) ∧ (strOf Try.prog 22 = false) ∧ (isSlice Try.prog 22 = true) ∧ (isBool Try.prog 22 = false) ∧ (intOf' Try.prog 22 = none) ∧ (elemOf Try.prog 22 = some 96) ∧ (zeroOf Try.prog 22 = some (.slice none 0 0)) ∧ (elOf Try.prog 22 = some (96, 2, 24, [.string ⟨#[]⟩, .int .i64 0])) ∧ (szOf Try.prog 24 = some 1) ∧ (aggOf Try.prog 24 = some false) ∧ (strOf Try.prog 24 = false) ∧ (isSlice Try.prog 24 = true) ∧ (isBool Try.prog 24 = false) ∧ (intOf' Try.prog 24 = none) ∧ (elemOf Try.prog 24 = some 66) ∧ (zeroOf Try.prog 24 = some (.slice none 0 0)) ∧ (elOf Try.prog 24 = some (66, 2, 24, [.string ⟨#[]⟩, .int .i64 0])) := ⟨ty40, ty41, ty42, ty43, ty44, ty45, ty46, ty47, ty48, ty49, ty50, ty51, ty52, ty53, ty54, ty55, ty56, ty57, ty58, ty59, ty60, ty61, ty62, ty63, ty64, ty65, ty66, ty67, ty68, ty69, ty70, ty71, ty72, ty73, ty74, ty75, ty76, ty77, ty78, ty79⟩
theorem tys2 : (szOf Try.prog 35 = some 1) ∧ (aggOf Try.prog 35 = some false) ∧ (strOf Try.prog 35 = false) ∧ (isSlice Try.prog 35 = true) ∧ (isBool Try.prog 35 = false) ∧ (intOf' Try.prog 35 = none) ∧ (elemOf Try.prog 35 = some 163) ∧ (zeroOf Try.prog 35 = some (.slice none 0 0)) ∧ (elOf Try.prog 35 = some (163, 4, 48, [.string ⟨#[]⟩, .int .i64 0, .string ⟨#[]⟩, .int .i64 0])) ∧ (szOf Try.prog 37 = some 1) ∧ (aggOf Try.prog 37 = some true) ∧ (strOf Try.prog 37 = false) ∧ (isSlice Try.prog 37 = false) ∧ (isBool Try.prog 37 = false) ∧ (intOf' Try.prog 37 = none) ∧ (elemOf Try.prog 37 = none) ∧ (zeroOf Try.prog 37 = some (.agg #[.slice none 0 0])) ∧ (fldOf Try.prog 37 0 = some (0, 35)) ∧ (placesOf Try.prog 37 = some [(0, 1)]) ∧ (szOf Try.prog 40 = some 1) ∧ (aggOf Try.prog 40 = some false) ∧ (strOf Try.prog 40 = false) ∧ (isSlice Try.prog 40 = true) ∧ (isBool Try.prog 40 = false) ∧ (intOf' Try.prog 40 = none) ∧ (elemOf Try.prog 40 = some 111) ∧ (zeroOf Try.prog 40 = some (.slice none 0 0)) ∧ (elOf Try.prog 40 = some (111, 4, 48, [.string ⟨#[]⟩, .int .i64 0, .string ⟨#[]⟩, .int .i64 0])) ∧ (szOf Try.prog 42 = some 1) ∧ (aggOf Try.prog 42 = some true) ∧ (strOf Try.prog 42 = false) ∧ (isSlice Try.prog 42 = false) ∧ (isBool Try.prog 42 = false) ∧ (intOf' Try.prog 42 = none) ∧ (elemOf Try.prog 42 = none) ∧ (zeroOf Try.prog 42 = some (.agg #[.slice none 0 0])) ∧ (fldOf Try.prog 42 0 = some (0, 40)) ∧ (placesOf Try.prog 42 = some [(0, 1)]) ∧ (szOf Try.prog 46 = some 1) ∧ (aggOf Try.prog 46 = some false) := ⟨ty80, ty81, ty82, ty83, ty84, ty85, ty86, ty87, ty88, ty89, ty90, ty91, ty92, ty93, ty94, ty95, ty96, ty97, ty98, ty99, ty100, ty101, ty102, ty103, ty104, ty105, ty106, ty107, ty108, ty109, ty110, ty111, ty112, ty113, ty114, ty115, ty116, ty117, ty118, ty119⟩
theorem tys3 : (strOf Try.prog 46 = false) ∧ (isSlice Try.prog 46 = true) ∧ (isBool Try.prog 46 = false) ∧ (intOf' Try.prog 46 = none) ∧ (elemOf Try.prog 46 = some 174) ∧ (zeroOf Try.prog 46 = some (.slice none 0 0)) ∧ (elOf Try.prog 46 = some (174, 3, 56, [.int .i64 0, .slice none 0 0, .slice none 0 0])) ∧ (szOf Try.prog 48 = some 7) ∧ (aggOf Try.prog 48 = some true) ∧ (strOf Try.prog 48 = false) ∧ (isSlice Try.prog 48 = false) ∧ (isBool Try.prog 48 = false) ∧ (intOf' Try.prog 48 = none) ∧ (elemOf Try.prog 48 = none) ∧ (zeroOf Try.prog 48 = some (.agg #[.bool false, .bool false, .int .i64 0, .int .i64 0, .string ⟨#[]⟩, .int .i64 0, .int .i64 0])) ∧ (fldOf Try.prog 48 0 = some (0, 4)) ∧ (fldOf Try.prog 48 1 = some (1, 4)) ∧ (fldOf Try.prog 48 2 = some (2, 3)) ∧ (fldOf Try.prog 48 3 = some (3, 3)) ∧ (fldOf Try.prog 48 4 = some (4, 9)) ∧ (fldOf Try.prog 48 5 = some (5, 3)) ∧ (fldOf Try.prog 48 6 = some (6, 3)) ∧ (placesOf Try.prog 48 = some [(0, 1), (1, 1), (2, 1), (3, 1), (4, 1), (5, 1), (6, 1)]) ∧ (eqKs Try.prog 48 = some [.bool, .bool, .int, .int, .str, .int, .int]) ∧ (szOf Try.prog 50 = some 10) ∧ (aggOf Try.prog 50 = some true) ∧ (strOf Try.prog 50 = false) ∧ (isSlice Try.prog 50 = false) ∧ (isBool Try.prog 50 = false) ∧ (intOf' Try.prog 50 = none) ∧ (elemOf Try.prog 50 = none) ∧ (zeroOf Try.prog 50 = some (.agg #[.int .i64 0, .int .i64 0, .slice none 0 0, .bool false, .bool false, .int .i64 0, .int .i64 0, .string ⟨#[]⟩, .int .i64 0, .int .i64 0])) ∧ (fldOf Try.prog 50 0 = some (0, 3)) ∧ (fldOf Try.prog 50 1 = some (1, 3)) ∧ (fldOf Try.prog 50 2 = some (2, 46)) ∧ (fldOf Try.prog 50 3 = some (3, 48)) ∧ (placesOf Try.prog 50 = some [(0, 1), (1, 1), (2, 1), (3, 7)]) ∧ (szOf Try.prog 53 = some 1) ∧ (aggOf Try.prog 53 = some false) ∧ (strOf Try.prog 53 = false) := ⟨ty120, ty121, ty122, ty123, ty124, ty125, ty126, ty127, ty128, ty129, ty130, ty131, ty132, ty133, ty134, ty135, ty136, ty137, ty138, ty139, ty140, ty141, ty142, ty143, ty144, ty145, ty146, ty147, ty148, ty149, ty150, ty151, ty152, ty153, ty154, ty155, ty156, ty157, ty158, ty159⟩
theorem tys4 : (isSlice Try.prog 53 = true) ∧ (isBool Try.prog 53 = false) ∧ (intOf' Try.prog 53 = none) ∧ (elemOf Try.prog 53 = some 122) ∧ (zeroOf Try.prog 53 = some (.slice none 0 0)) ∧ (elOf Try.prog 53 = some (122, 3, 56, [.int .i64 0, .slice none 0 0, .slice none 0 0])) ∧ (szOf Try.prog 54 = some 7) ∧ (aggOf Try.prog 54 = some true) ∧ (strOf Try.prog 54 = false) ∧ (isSlice Try.prog 54 = false) ∧ (isBool Try.prog 54 = false) ∧ (intOf' Try.prog 54 = none) ∧ (elemOf Try.prog 54 = none) ∧ (zeroOf Try.prog 54 = some (.agg #[.bool false, .bool false, .int .i64 0, .int .i64 0, .string ⟨#[]⟩, .int .i64 0, .int .i64 0])) ∧ (fldOf Try.prog 54 0 = some (0, 4)) ∧ (fldOf Try.prog 54 1 = some (1, 4)) ∧ (fldOf Try.prog 54 2 = some (2, 3)) ∧ (fldOf Try.prog 54 3 = some (3, 3)) ∧ (fldOf Try.prog 54 4 = some (4, 9)) ∧ (fldOf Try.prog 54 5 = some (5, 3)) ∧ (fldOf Try.prog 54 6 = some (6, 3)) ∧ (placesOf Try.prog 54 = some [(0, 1), (1, 1), (2, 1), (3, 1), (4, 1), (5, 1), (6, 1)]) ∧ (eqKs Try.prog 54 = some [.bool, .bool, .int, .int, .str, .int, .int]) ∧ (szOf Try.prog 56 = some 10) ∧ (aggOf Try.prog 56 = some true) ∧ (strOf Try.prog 56 = false) ∧ (isSlice Try.prog 56 = false) ∧ (isBool Try.prog 56 = false) ∧ (intOf' Try.prog 56 = none) ∧ (elemOf Try.prog 56 = none) ∧ (zeroOf Try.prog 56 = some (.agg #[.int .i64 0, .int .i64 0, .slice none 0 0, .bool false, .bool false, .int .i64 0, .int .i64 0, .string ⟨#[]⟩, .int .i64 0, .int .i64 0])) ∧ (fldOf Try.prog 56 0 = some (0, 3)) ∧ (fldOf Try.prog 56 1 = some (1, 3)) ∧ (fldOf Try.prog 56 2 = some (2, 53)) ∧ (fldOf Try.prog 56 3 = some (3, 54)) ∧ (placesOf Try.prog 56 = some [(0, 1), (1, 1), (2, 1), (3, 7)]) ∧ (szOf Try.prog 59 = some 1) ∧ (aggOf Try.prog 59 = some false) ∧ (strOf Try.prog 59 = false) ∧ (isSlice Try.prog 59 = true) := ⟨ty160, ty161, ty162, ty163, ty164, ty165, ty166, ty167, ty168, ty169, ty170, ty171, ty172, ty173, ty174, ty175, ty176, ty177, ty178, ty179, ty180, ty181, ty182, ty183, ty184, ty185, ty186, ty187, ty188, ty189, ty190, ty191, ty192, ty193, ty194, ty195, ty196, ty197, ty198, ty199⟩
theorem tys5 : (isBool Try.prog 59 = false) ∧ (intOf' Try.prog 59 = none) ∧ (elemOf Try.prog 59 = some 5) ∧ (zeroOf Try.prog 59 = some (.slice none 0 0)) ∧ (elOf Try.prog 59 = some (5, 1, 1, [.int .u8 0])) ∧ (szOf Try.prog 66 = some 2) ∧ (aggOf Try.prog 66 = some true) ∧ (strOf Try.prog 66 = false) ∧ (isSlice Try.prog 66 = false) ∧ (isBool Try.prog 66 = false) ∧ (intOf' Try.prog 66 = none) ∧ (elemOf Try.prog 66 = none) ∧ (zeroOf Try.prog 66 = some (.agg #[.string ⟨#[]⟩, .int .i64 0])) ∧ (fldOf Try.prog 66 0 = some (0, 9)) ∧ (fldOf Try.prog 66 1 = some (1, 3)) ∧ (placesOf Try.prog 66 = some [(0, 1), (1, 1)]) ∧ (eqKs Try.prog 66 = some [.str, .int]) ∧ (szOf Try.prog 68 = some 1) ∧ (aggOf Try.prog 68 = some false) ∧ (strOf Try.prog 68 = false) ∧ (isSlice Try.prog 68 = true) ∧ (isBool Try.prog 68 = false) ∧ (intOf' Try.prog 68 = none) ∧ (elemOf Try.prog 68 = some 183) ∧ (zeroOf Try.prog 68 = some (.slice none 0 0)) ∧ (elOf Try.prog 68 = some (183, 5, 56, [.int .i64 0, .int .i64 0, .int .i64 0, .int .i64 0, .slice none 0 0])) ∧ (szOf Try.prog 69 = some 1) ∧ (aggOf Try.prog 69 = some false) ∧ (strOf Try.prog 69 = false) ∧ (isSlice Try.prog 69 = true) ∧ (isBool Try.prog 69 = false) ∧ (intOf' Try.prog 69 = none) ∧ (elemOf Try.prog 69 = some 9) ∧ (zeroOf Try.prog 69 = some (.slice none 0 0)) ∧ (elOf Try.prog 69 = some (9, 1, 16, [.string ⟨#[]⟩])) ∧ (szOf Try.prog 71 = some 2) ∧ (aggOf Try.prog 71 = some true) ∧ (strOf Try.prog 71 = false) ∧ (isSlice Try.prog 71 = false) ∧ (isBool Try.prog 71 = false) := ⟨ty200, ty201, ty202, ty203, ty204, ty205, ty206, ty207, ty208, ty209, ty210, ty211, ty212, ty213, ty214, ty215, ty216, ty217, ty218, ty219, ty220, ty221, ty222, ty223, ty224, ty225, ty226, ty227, ty228, ty229, ty230, ty231, ty232, ty233, ty234, ty235, ty236, ty237, ty238, ty239⟩
theorem tys6 : (intOf' Try.prog 71 = none) ∧ (elemOf Try.prog 71 = none) ∧ (zeroOf Try.prog 71 = some (.agg #[.slice none 0 0, .slice none 0 0])) ∧ (fldOf Try.prog 71 0 = some (0, 68)) ∧ (fldOf Try.prog 71 1 = some (1, 69)) ∧ (placesOf Try.prog 71 = some [(0, 1), (1, 1)]) ∧ (szOf Try.prog 75 = some 1) ∧ (aggOf Try.prog 75 = some false) ∧ (strOf Try.prog 75 = false) ∧ (isSlice Try.prog 75 = true) ∧ (isBool Try.prog 75 = false) ∧ (intOf' Try.prog 75 = none) ∧ (elemOf Try.prog 75 = some 151) ∧ (zeroOf Try.prog 75 = some (.slice none 0 0)) ∧ (elOf Try.prog 75 = some (151, 5, 56, [.int .i64 0, .int .i64 0, .int .i64 0, .int .i64 0, .slice none 0 0])) ∧ (szOf Try.prog 77 = some 2) ∧ (aggOf Try.prog 77 = some true) ∧ (strOf Try.prog 77 = false) ∧ (isSlice Try.prog 77 = false) ∧ (isBool Try.prog 77 = false) ∧ (intOf' Try.prog 77 = none) ∧ (elemOf Try.prog 77 = none) ∧ (zeroOf Try.prog 77 = some (.agg #[.slice none 0 0, .slice none 0 0])) ∧ (fldOf Try.prog 77 0 = some (0, 75)) ∧ (fldOf Try.prog 77 1 = some (1, 69)) ∧ (placesOf Try.prog 77 = some [(0, 1), (1, 1)]) ∧ (szOf Try.prog 96 = some 2) ∧ (aggOf Try.prog 96 = some true) ∧ (strOf Try.prog 96 = false) ∧ (isSlice Try.prog 96 = false) ∧ (isBool Try.prog 96 = false) ∧ (intOf' Try.prog 96 = none) ∧ (elemOf Try.prog 96 = none) ∧ (zeroOf Try.prog 96 = some (.agg #[.string ⟨#[]⟩, .int .i64 0])) ∧ (fldOf Try.prog 96 0 = some (0, 9)) ∧ (fldOf Try.prog 96 1 = some (1, 3)) ∧ (placesOf Try.prog 96 = some [(0, 1), (1, 1)]) ∧ (eqKs Try.prog 96 = some [.str, .int]) ∧ (szOf Try.prog 111 = some 4) ∧ (aggOf Try.prog 111 = some true) := ⟨ty240, ty241, ty242, ty243, ty244, ty245, ty246, ty247, ty248, ty249, ty250, ty251, ty252, ty253, ty254, ty255, ty256, ty257, ty258, ty259, ty260, ty261, ty262, ty263, ty264, ty265, ty266, ty267, ty268, ty269, ty270, ty271, ty272, ty273, ty274, ty275, ty276, ty277, ty278, ty279⟩
theorem tys7 : (strOf Try.prog 111 = false) ∧ (isSlice Try.prog 111 = false) ∧ (isBool Try.prog 111 = false) ∧ (intOf' Try.prog 111 = none) ∧ (elemOf Try.prog 111 = none) ∧ (zeroOf Try.prog 111 = some (.agg #[.string ⟨#[]⟩, .int .i64 0, .string ⟨#[]⟩, .int .i64 0])) ∧ (fldOf Try.prog 111 0 = some (0, 9)) ∧ (fldOf Try.prog 111 1 = some (1, 3)) ∧ (fldOf Try.prog 111 2 = some (2, 9)) ∧ (fldOf Try.prog 111 3 = some (3, 3)) ∧ (placesOf Try.prog 111 = some [(0, 1), (1, 1), (2, 1), (3, 1)]) ∧ (eqKs Try.prog 111 = some [.str, .int, .str, .int]) ∧ (szOf Try.prog 122 = some 3) ∧ (aggOf Try.prog 122 = some true) ∧ (strOf Try.prog 122 = false) ∧ (isSlice Try.prog 122 = false) ∧ (isBool Try.prog 122 = false) ∧ (intOf' Try.prog 122 = none) ∧ (elemOf Try.prog 122 = none) ∧ (zeroOf Try.prog 122 = some (.agg #[.int .i64 0, .slice none 0 0, .slice none 0 0])) ∧ (fldOf Try.prog 122 0 = some (0, 3)) ∧ (fldOf Try.prog 122 1 = some (1, 77)) ∧ (placesOf Try.prog 122 = some [(0, 1), (1, 2)]) ∧ (szOf Try.prog 129 = some 1) ∧ (aggOf Try.prog 129 = some false) ∧ (szOf Try.prog 135 = some 1) ∧ (aggOf Try.prog 135 = some false) ∧ (strOf Try.prog 135 = false) ∧ (isSlice Try.prog 135 = true) ∧ (isBool Try.prog 135 = false) ∧ (intOf' Try.prog 135 = none) ∧ (elemOf Try.prog 135 = some 3) ∧ (zeroOf Try.prog 135 = some (.slice none 0 0)) ∧ (elOf Try.prog 135 = some (3, 1, 8, [.int .i64 0])) ∧ (szOf Try.prog 151 = some 5) ∧ (aggOf Try.prog 151 = some true) ∧ (strOf Try.prog 151 = false) ∧ (isSlice Try.prog 151 = false) ∧ (isBool Try.prog 151 = false) ∧ (intOf' Try.prog 151 = none) := ⟨ty280, ty281, ty282, ty283, ty284, ty285, ty286, ty287, ty288, ty289, ty290, ty291, ty292, ty293, ty294, ty295, ty296, ty297, ty298, ty299, ty300, ty301, ty302, ty303, ty304, ty305, ty306, ty307, ty308, ty309, ty310, ty311, ty312, ty313, ty314, ty315, ty316, ty317, ty318, ty319⟩
theorem tys8 : (elemOf Try.prog 151 = none) ∧ (zeroOf Try.prog 151 = some (.agg #[.int .i64 0, .int .i64 0, .int .i64 0, .int .i64 0, .slice none 0 0])) ∧ (fldOf Try.prog 151 0 = some (0, 3)) ∧ (fldOf Try.prog 151 1 = some (1, 3)) ∧ (fldOf Try.prog 151 2 = some (2, 3)) ∧ (fldOf Try.prog 151 3 = some (3, 3)) ∧ (fldOf Try.prog 151 4 = some (4, 135)) ∧ (placesOf Try.prog 151 = some [(0, 1), (1, 1), (2, 1), (3, 1), (4, 1)]) ∧ (szOf Try.prog 160 = some 1) ∧ (aggOf Try.prog 160 = some false) ∧ (szOf Try.prog 163 = some 4) ∧ (aggOf Try.prog 163 = some true) ∧ (strOf Try.prog 163 = false) ∧ (isSlice Try.prog 163 = false) ∧ (isBool Try.prog 163 = false) ∧ (intOf' Try.prog 163 = none) ∧ (elemOf Try.prog 163 = none) ∧ (zeroOf Try.prog 163 = some (.agg #[.string ⟨#[]⟩, .int .i64 0, .string ⟨#[]⟩, .int .i64 0])) ∧ (fldOf Try.prog 163 0 = some (0, 9)) ∧ (fldOf Try.prog 163 1 = some (1, 3)) ∧ (fldOf Try.prog 163 2 = some (2, 9)) ∧ (fldOf Try.prog 163 3 = some (3, 3)) ∧ (placesOf Try.prog 163 = some [(0, 1), (1, 1), (2, 1), (3, 1)]) ∧ (eqKs Try.prog 163 = some [.str, .int, .str, .int]) ∧ (szOf Try.prog 174 = some 3) ∧ (aggOf Try.prog 174 = some true) ∧ (strOf Try.prog 174 = false) ∧ (isSlice Try.prog 174 = false) ∧ (isBool Try.prog 174 = false) ∧ (intOf' Try.prog 174 = none) ∧ (elemOf Try.prog 174 = none) ∧ (zeroOf Try.prog 174 = some (.agg #[.int .i64 0, .slice none 0 0, .slice none 0 0])) ∧ (fldOf Try.prog 174 0 = some (0, 3)) ∧ (fldOf Try.prog 174 1 = some (1, 71)) ∧ (placesOf Try.prog 174 = some [(0, 1), (1, 2)]) ∧ (szOf Try.prog 179 = some 3) ∧ (aggOf Try.prog 179 = some true) ∧ (strOf Try.prog 179 = false) ∧ (isSlice Try.prog 179 = false) ∧ (isBool Try.prog 179 = false) := ⟨ty320, ty321, ty322, ty323, ty324, ty325, ty326, ty327, ty328, ty329, ty330, ty331, ty332, ty333, ty334, ty335, ty336, ty337, ty338, ty339, ty340, ty341, ty342, ty343, ty344, ty345, ty346, ty347, ty348, ty349, ty350, ty351, ty352, ty353, ty354, ty355, ty356, ty357, ty358, ty359⟩
theorem tys9 : (intOf' Try.prog 179 = none) ∧ (elemOf Try.prog 179 = none) ∧ (zeroOf Try.prog 179 = some (.agg #[.slice none 0 0, .int .i64 0, .int .i64 0])) ∧ (fldOf Try.prog 179 0 = some (0, 59)) ∧ (fldOf Try.prog 179 1 = some (1, 3)) ∧ (fldOf Try.prog 179 2 = some (2, 3)) ∧ (placesOf Try.prog 179 = some [(0, 1), (1, 1), (2, 1)]) ∧ (szOf Try.prog 181 = some 1) ∧ (aggOf Try.prog 181 = some false) ∧ (strOf Try.prog 181 = false) ∧ (isSlice Try.prog 181 = false) ∧ (isBool Try.prog 181 = false) ∧ (intOf' Try.prog 181 = some .u64) ∧ (elemOf Try.prog 181 = none) ∧ (zeroOf Try.prog 181 = some (.int .u64 0)) ∧ (szOf Try.prog 183 = some 5) ∧ (aggOf Try.prog 183 = some true) ∧ (strOf Try.prog 183 = false) ∧ (isSlice Try.prog 183 = false) ∧ (isBool Try.prog 183 = false) ∧ (intOf' Try.prog 183 = none) ∧ (elemOf Try.prog 183 = none) ∧ (zeroOf Try.prog 183 = some (.agg #[.int .i64 0, .int .i64 0, .int .i64 0, .int .i64 0, .slice none 0 0])) ∧ (fldOf Try.prog 183 0 = some (0, 3)) ∧ (fldOf Try.prog 183 1 = some (1, 3)) ∧ (fldOf Try.prog 183 2 = some (2, 3)) ∧ (fldOf Try.prog 183 3 = some (3, 3)) ∧ (fldOf Try.prog 183 4 = some (4, 135)) ∧ (placesOf Try.prog 183 = some [(0, 1), (1, 1), (2, 1), (3, 1), (4, 1)]) ∧ (szOf Try.prog 199 = some 1) ∧ (aggOf Try.prog 199 = some false) ∧ (szOf Try.prog 208 = some 1) ∧ (aggOf Try.prog 208 = some false) ∧ (strOf Try.prog 208 = false) ∧ (isSlice Try.prog 208 = false) ∧ (isBool Try.prog 208 = false) ∧ (intOf' Try.prog 208 = some .u32) ∧ (elemOf Try.prog 208 = none) ∧ (zeroOf Try.prog 208 = some (.int .u32 0)) ∧ (szOf Try.prog 211 = some 1) := ⟨ty360, ty361, ty362, ty363, ty364, ty365, ty366, ty367, ty368, ty369, ty370, ty371, ty372, ty373, ty374, ty375, ty376, ty377, ty378, ty379, ty380, ty381, ty382, ty383, ty384, ty385, ty386, ty387, ty388, ty389, ty390, ty391, ty392, ty393, ty394, ty395, ty396, ty397, ty398, ty399⟩
theorem tys10 : (aggOf Try.prog 211 = some false) ∧ (strOf Try.prog 211 = false) ∧ (isSlice Try.prog 211 = false) ∧ (isBool Try.prog 211 = false) ∧ (intOf' Try.prog 211 = some .u64) ∧ (elemOf Try.prog 211 = none) ∧ (zeroOf Try.prog 211 = some (.int .u64 0)) ∧ (szOf Try.prog 214 = some 1) ∧ (aggOf Try.prog 214 = some false) := ⟨ty400, ty401, ty402, ty403, ty404, ty405, ty406, ty407, ty408⟩
theorem TY : ((szOf Try.prog 2 = some 1) ∧ (aggOf Try.prog 2 = some false) ∧ (strOf Try.prog 2 = false) ∧ (isSlice Try.prog 2 = false) ∧ (isBool Try.prog 2 = false) ∧ (intOf' Try.prog 2 = some .i64) ∧ (elemOf Try.prog 2 = none) ∧ (zeroOf Try.prog 2 = some (.int .i64 0)) ∧ (szOf Try.prog 3 = some 1) ∧ (aggOf Try.prog 3 = some false) ∧ (strOf Try.prog 3 = false) ∧ (isSlice Try.prog 3 = false) ∧ (isBool Try.prog 3 = false) ∧ (intOf' Try.prog 3 = some .i64) ∧ (elemOf Try.prog 3 = none) ∧ (zeroOf Try.prog 3 = some (.int .i64 0)) ∧ (szOf Try.prog 4 = some 1) ∧ (aggOf Try.prog 4 = some false) ∧ (strOf Try.prog 4 = false) ∧ (isSlice Try.prog 4 = false) ∧ (isBool Try.prog 4 = true) ∧ (intOf' Try.prog 4 = none) ∧ (elemOf Try.prog 4 = none) ∧ (zeroOf Try.prog 4 = some (.bool false)) ∧ (szOf Try.prog 5 = some 1) ∧ (aggOf Try.prog 5 = some false) ∧ (strOf Try.prog 5 = false) ∧ (isSlice Try.prog 5 = false) ∧ (isBool Try.prog 5 = false) ∧ (intOf' Try.prog 5 = some .u8) ∧ (elemOf Try.prog 5 = none) ∧ (zeroOf Try.prog 5 = some (.int .u8 0)) ∧ (szOf Try.prog 9 = some 1) ∧ (aggOf Try.prog 9 = some false) ∧ (strOf Try.prog 9 = true) ∧ (isSlice Try.prog 9 = false) ∧ (isBool Try.prog 9 = false) ∧ (intOf' Try.prog 9 = none) ∧ (elemOf Try.prog 9 = none) ∧ (zeroOf Try.prog 9 = some (.string ⟨#[]⟩))) ∧ ((szOf Try.prog 12 = some 1) ∧ (aggOf Try.prog 12 = some false) ∧ (strOf Try.prog 12 = false) ∧ (isSlice Try.prog 12 = false) ∧ (isBool Try.prog 12 = false) ∧ (intOf' Try.prog 12 = some .u64) ∧ (elemOf Try.prog 12 = none) ∧ (zeroOf Try.prog 12 = some (.int .u64 0)) ∧ (szOf Try.prog 15 = some 1) ∧ (aggOf Try.prog 15 = some false) ∧ (szOf Try.prog 16 = some 1) ∧ (aggOf Try.prog 16 = some false) ∧ (szOf Try.prog 17 = some 1) ∧ (aggOf Try.prog 17 = some false) ∧ (szOf Try.prog 21 = some 1) ∧ (aggOf Try.prog 21 = some false) ∧ (strOf Try.prog 21 = false) ∧ (isSlice Try.prog 21 = false) ∧ (isBool Try.prog 21 = false) ∧ (intOf' Try.prog 21 = some .i32) ∧ (elemOf Try.prog 21 = none) ∧ (zeroOf Try.prog 21 = some (.int .i32 0)) ∧ (szOf Try.prog 22 = some 1) ∧ (aggOf Try.prog 22 = some false) ∧ (strOf Try.prog 22 = false) ∧ (isSlice Try.prog 22 = true) ∧ (isBool Try.prog 22 = false) ∧ (intOf' Try.prog 22 = none) ∧ (elemOf Try.prog 22 = some 96) ∧ (zeroOf Try.prog 22 = some (.slice none 0 0)) ∧ (elOf Try.prog 22 = some (96, 2, 24, [.string ⟨#[]⟩, .int .i64 0])) ∧ (szOf Try.prog 24 = some 1) ∧ (aggOf Try.prog 24 = some false) ∧ (strOf Try.prog 24 = false) ∧ (isSlice Try.prog 24 = true) ∧ (isBool Try.prog 24 = false) ∧ (intOf' Try.prog 24 = none) ∧ (elemOf Try.prog 24 = some 66) ∧ (zeroOf Try.prog 24 = some (.slice none 0 0)) ∧ (elOf Try.prog 24 = some (66, 2, 24, [.string ⟨#[]⟩, .int .i64 0]))) ∧ ((szOf Try.prog 35 = some 1) ∧ (aggOf Try.prog 35 = some false) ∧ (strOf Try.prog 35 = false) ∧ (isSlice Try.prog 35 = true) ∧ (isBool Try.prog 35 = false) ∧ (intOf' Try.prog 35 = none) ∧ (elemOf Try.prog 35 = some 163) ∧ (zeroOf Try.prog 35 = some (.slice none 0 0)) ∧ (elOf Try.prog 35 = some (163, 4, 48, [.string ⟨#[]⟩, .int .i64 0, .string ⟨#[]⟩, .int .i64 0])) ∧ (szOf Try.prog 37 = some 1) ∧ (aggOf Try.prog 37 = some true) ∧ (strOf Try.prog 37 = false) ∧ (isSlice Try.prog 37 = false) ∧ (isBool Try.prog 37 = false) ∧ (intOf' Try.prog 37 = none) ∧ (elemOf Try.prog 37 = none) ∧ (zeroOf Try.prog 37 = some (.agg #[.slice none 0 0])) ∧ (fldOf Try.prog 37 0 = some (0, 35)) ∧ (placesOf Try.prog 37 = some [(0, 1)]) ∧ (szOf Try.prog 40 = some 1) ∧ (aggOf Try.prog 40 = some false) ∧ (strOf Try.prog 40 = false) ∧ (isSlice Try.prog 40 = true) ∧ (isBool Try.prog 40 = false) ∧ (intOf' Try.prog 40 = none) ∧ (elemOf Try.prog 40 = some 111) ∧ (zeroOf Try.prog 40 = some (.slice none 0 0)) ∧ (elOf Try.prog 40 = some (111, 4, 48, [.string ⟨#[]⟩, .int .i64 0, .string ⟨#[]⟩, .int .i64 0])) ∧ (szOf Try.prog 42 = some 1) ∧ (aggOf Try.prog 42 = some true) ∧ (strOf Try.prog 42 = false) ∧ (isSlice Try.prog 42 = false) ∧ (isBool Try.prog 42 = false) ∧ (intOf' Try.prog 42 = none) ∧ (elemOf Try.prog 42 = none) ∧ (zeroOf Try.prog 42 = some (.agg #[.slice none 0 0])) ∧ (fldOf Try.prog 42 0 = some (0, 40)) ∧ (placesOf Try.prog 42 = some [(0, 1)]) ∧ (szOf Try.prog 46 = some 1) ∧ (aggOf Try.prog 46 = some false)) ∧ ((strOf Try.prog 46 = false) ∧ (isSlice Try.prog 46 = true) ∧ (isBool Try.prog 46 = false) ∧ (intOf' Try.prog 46 = none) ∧ (elemOf Try.prog 46 = some 174) ∧ (zeroOf Try.prog 46 = some (.slice none 0 0)) ∧ (elOf Try.prog 46 = some (174, 3, 56, [.int .i64 0, .slice none 0 0, .slice none 0 0])) ∧ (szOf Try.prog 48 = some 7) ∧ (aggOf Try.prog 48 = some true) ∧ (strOf Try.prog 48 = false) ∧ (isSlice Try.prog 48 = false) ∧ (isBool Try.prog 48 = false) ∧ (intOf' Try.prog 48 = none) ∧ (elemOf Try.prog 48 = none) ∧ (zeroOf Try.prog 48 = some (.agg #[.bool false, .bool false, .int .i64 0, .int .i64 0, .string ⟨#[]⟩, .int .i64 0, .int .i64 0])) ∧ (fldOf Try.prog 48 0 = some (0, 4)) ∧ (fldOf Try.prog 48 1 = some (1, 4)) ∧ (fldOf Try.prog 48 2 = some (2, 3)) ∧ (fldOf Try.prog 48 3 = some (3, 3)) ∧ (fldOf Try.prog 48 4 = some (4, 9)) ∧ (fldOf Try.prog 48 5 = some (5, 3)) ∧ (fldOf Try.prog 48 6 = some (6, 3)) ∧ (placesOf Try.prog 48 = some [(0, 1), (1, 1), (2, 1), (3, 1), (4, 1), (5, 1), (6, 1)]) ∧ (eqKs Try.prog 48 = some [.bool, .bool, .int, .int, .str, .int, .int]) ∧ (szOf Try.prog 50 = some 10) ∧ (aggOf Try.prog 50 = some true) ∧ (strOf Try.prog 50 = false) ∧ (isSlice Try.prog 50 = false) ∧ (isBool Try.prog 50 = false) ∧ (intOf' Try.prog 50 = none) ∧ (elemOf Try.prog 50 = none) ∧ (zeroOf Try.prog 50 = some (.agg #[.int .i64 0, .int .i64 0, .slice none 0 0, .bool false, .bool false, .int .i64 0, .int .i64 0, .string ⟨#[]⟩, .int .i64 0, .int .i64 0])) ∧ (fldOf Try.prog 50 0 = some (0, 3)) ∧ (fldOf Try.prog 50 1 = some (1, 3)) ∧ (fldOf Try.prog 50 2 = some (2, 46)) ∧ (fldOf Try.prog 50 3 = some (3, 48)) ∧ (placesOf Try.prog 50 = some [(0, 1), (1, 1), (2, 1), (3, 7)]) ∧ (szOf Try.prog 53 = some 1) ∧ (aggOf Try.prog 53 = some false) ∧ (strOf Try.prog 53 = false)) ∧ ((isSlice Try.prog 53 = true) ∧ (isBool Try.prog 53 = false) ∧ (intOf' Try.prog 53 = none) ∧ (elemOf Try.prog 53 = some 122) ∧ (zeroOf Try.prog 53 = some (.slice none 0 0)) ∧ (elOf Try.prog 53 = some (122, 3, 56, [.int .i64 0, .slice none 0 0, .slice none 0 0])) ∧ (szOf Try.prog 54 = some 7) ∧ (aggOf Try.prog 54 = some true) ∧ (strOf Try.prog 54 = false) ∧ (isSlice Try.prog 54 = false) ∧ (isBool Try.prog 54 = false) ∧ (intOf' Try.prog 54 = none) ∧ (elemOf Try.prog 54 = none) ∧ (zeroOf Try.prog 54 = some (.agg #[.bool false, .bool false, .int .i64 0, .int .i64 0, .string ⟨#[]⟩, .int .i64 0, .int .i64 0])) ∧ (fldOf Try.prog 54 0 = some (0, 4)) ∧ (fldOf Try.prog 54 1 = some (1, 4)) ∧ (fldOf Try.prog 54 2 = some (2, 3)) ∧ (fldOf Try.prog 54 3 = some (3, 3)) ∧ (fldOf Try.prog 54 4 = some (4, 9)) ∧ (fldOf Try.prog 54 5 = some (5, 3)) ∧ (fldOf Try.prog 54 6 = some (6, 3)) ∧ (placesOf Try.prog 54 = some [(0, 1), (1, 1), (2, 1), (3, 1), (4, 1), (5, 1), (6, 1)]) ∧ (eqKs Try.prog 54 = some [.bool, .bool, .int, .int, .str, .int, .int]) ∧ (szOf Try.prog 56 = some 10) ∧ (aggOf Try.prog 56 = some true) ∧ (strOf Try.prog 56 = false) ∧ (isSlice Try.prog 56 = false) ∧ (isBool Try.prog 56 = false) ∧ (intOf' Try.prog 56 = none) ∧ (elemOf Try.prog 56 = none) ∧ (zeroOf Try.prog 56 = some (.agg #[.int .i64 0, .int .i64 0, .slice none 0 0, .bool false, .bool false, .int .i64 0, .int .i64 0, .string ⟨#[]⟩, .int .i64 0, .int .i64 0])) ∧ (fldOf Try.prog 56 0 = some (0, 3)) ∧ (fldOf Try.prog 56 1 = some (1, 3)) ∧ (fldOf Try.prog 56 2 = some (2, 53)) ∧ (fldOf Try.prog 56 3 = some (3, 54)) ∧ (placesOf Try.prog 56 = some [(0, 1), (1, 1), (2, 1), (3, 7)]) ∧ (szOf Try.prog 59 = some 1) ∧ (aggOf Try.prog 59 = some false) ∧ (strOf Try.prog 59 = false) ∧ (isSlice Try.prog 59 = true)) ∧ ((isBool Try.prog 59 = false) ∧ (intOf' Try.prog 59 = none) ∧ (elemOf Try.prog 59 = some 5) ∧ (zeroOf Try.prog 59 = some (.slice none 0 0)) ∧ (elOf Try.prog 59 = some (5, 1, 1, [.int .u8 0])) ∧ (szOf Try.prog 66 = some 2) ∧ (aggOf Try.prog 66 = some true) ∧ (strOf Try.prog 66 = false) ∧ (isSlice Try.prog 66 = false) ∧ (isBool Try.prog 66 = false) ∧ (intOf' Try.prog 66 = none) ∧ (elemOf Try.prog 66 = none) ∧ (zeroOf Try.prog 66 = some (.agg #[.string ⟨#[]⟩, .int .i64 0])) ∧ (fldOf Try.prog 66 0 = some (0, 9)) ∧ (fldOf Try.prog 66 1 = some (1, 3)) ∧ (placesOf Try.prog 66 = some [(0, 1), (1, 1)]) ∧ (eqKs Try.prog 66 = some [.str, .int]) ∧ (szOf Try.prog 68 = some 1) ∧ (aggOf Try.prog 68 = some false) ∧ (strOf Try.prog 68 = false) ∧ (isSlice Try.prog 68 = true) ∧ (isBool Try.prog 68 = false) ∧ (intOf' Try.prog 68 = none) ∧ (elemOf Try.prog 68 = some 183) ∧ (zeroOf Try.prog 68 = some (.slice none 0 0)) ∧ (elOf Try.prog 68 = some (183, 5, 56, [.int .i64 0, .int .i64 0, .int .i64 0, .int .i64 0, .slice none 0 0])) ∧ (szOf Try.prog 69 = some 1) ∧ (aggOf Try.prog 69 = some false) ∧ (strOf Try.prog 69 = false) ∧ (isSlice Try.prog 69 = true) ∧ (isBool Try.prog 69 = false) ∧ (intOf' Try.prog 69 = none) ∧ (elemOf Try.prog 69 = some 9) ∧ (zeroOf Try.prog 69 = some (.slice none 0 0)) ∧ (elOf Try.prog 69 = some (9, 1, 16, [.string ⟨#[]⟩])) ∧ (szOf Try.prog 71 = some 2) ∧ (aggOf Try.prog 71 = some true) ∧ (strOf Try.prog 71 = false) ∧ (isSlice Try.prog 71 = false) ∧ (isBool Try.prog 71 = false)) ∧ ((intOf' Try.prog 71 = none) ∧ (elemOf Try.prog 71 = none) ∧ (zeroOf Try.prog 71 = some (.agg #[.slice none 0 0, .slice none 0 0])) ∧ (fldOf Try.prog 71 0 = some (0, 68)) ∧ (fldOf Try.prog 71 1 = some (1, 69)) ∧ (placesOf Try.prog 71 = some [(0, 1), (1, 1)]) ∧ (szOf Try.prog 75 = some 1) ∧ (aggOf Try.prog 75 = some false) ∧ (strOf Try.prog 75 = false) ∧ (isSlice Try.prog 75 = true) ∧ (isBool Try.prog 75 = false) ∧ (intOf' Try.prog 75 = none) ∧ (elemOf Try.prog 75 = some 151) ∧ (zeroOf Try.prog 75 = some (.slice none 0 0)) ∧ (elOf Try.prog 75 = some (151, 5, 56, [.int .i64 0, .int .i64 0, .int .i64 0, .int .i64 0, .slice none 0 0])) ∧ (szOf Try.prog 77 = some 2) ∧ (aggOf Try.prog 77 = some true) ∧ (strOf Try.prog 77 = false) ∧ (isSlice Try.prog 77 = false) ∧ (isBool Try.prog 77 = false) ∧ (intOf' Try.prog 77 = none) ∧ (elemOf Try.prog 77 = none) ∧ (zeroOf Try.prog 77 = some (.agg #[.slice none 0 0, .slice none 0 0])) ∧ (fldOf Try.prog 77 0 = some (0, 75)) ∧ (fldOf Try.prog 77 1 = some (1, 69)) ∧ (placesOf Try.prog 77 = some [(0, 1), (1, 1)]) ∧ (szOf Try.prog 96 = some 2) ∧ (aggOf Try.prog 96 = some true) ∧ (strOf Try.prog 96 = false) ∧ (isSlice Try.prog 96 = false) ∧ (isBool Try.prog 96 = false) ∧ (intOf' Try.prog 96 = none) ∧ (elemOf Try.prog 96 = none) ∧ (zeroOf Try.prog 96 = some (.agg #[.string ⟨#[]⟩, .int .i64 0])) ∧ (fldOf Try.prog 96 0 = some (0, 9)) ∧ (fldOf Try.prog 96 1 = some (1, 3)) ∧ (placesOf Try.prog 96 = some [(0, 1), (1, 1)]) ∧ (eqKs Try.prog 96 = some [.str, .int]) ∧ (szOf Try.prog 111 = some 4) ∧ (aggOf Try.prog 111 = some true)) ∧ ((strOf Try.prog 111 = false) ∧ (isSlice Try.prog 111 = false) ∧ (isBool Try.prog 111 = false) ∧ (intOf' Try.prog 111 = none) ∧ (elemOf Try.prog 111 = none) ∧ (zeroOf Try.prog 111 = some (.agg #[.string ⟨#[]⟩, .int .i64 0, .string ⟨#[]⟩, .int .i64 0])) ∧ (fldOf Try.prog 111 0 = some (0, 9)) ∧ (fldOf Try.prog 111 1 = some (1, 3)) ∧ (fldOf Try.prog 111 2 = some (2, 9)) ∧ (fldOf Try.prog 111 3 = some (3, 3)) ∧ (placesOf Try.prog 111 = some [(0, 1), (1, 1), (2, 1), (3, 1)]) ∧ (eqKs Try.prog 111 = some [.str, .int, .str, .int]) ∧ (szOf Try.prog 122 = some 3) ∧ (aggOf Try.prog 122 = some true) ∧ (strOf Try.prog 122 = false) ∧ (isSlice Try.prog 122 = false) ∧ (isBool Try.prog 122 = false) ∧ (intOf' Try.prog 122 = none) ∧ (elemOf Try.prog 122 = none) ∧ (zeroOf Try.prog 122 = some (.agg #[.int .i64 0, .slice none 0 0, .slice none 0 0])) ∧ (fldOf Try.prog 122 0 = some (0, 3)) ∧ (fldOf Try.prog 122 1 = some (1, 77)) ∧ (placesOf Try.prog 122 = some [(0, 1), (1, 2)]) ∧ (szOf Try.prog 129 = some 1) ∧ (aggOf Try.prog 129 = some false) ∧ (szOf Try.prog 135 = some 1) ∧ (aggOf Try.prog 135 = some false) ∧ (strOf Try.prog 135 = false) ∧ (isSlice Try.prog 135 = true) ∧ (isBool Try.prog 135 = false) ∧ (intOf' Try.prog 135 = none) ∧ (elemOf Try.prog 135 = some 3) ∧ (zeroOf Try.prog 135 = some (.slice none 0 0)) ∧ (elOf Try.prog 135 = some (3, 1, 8, [.int .i64 0])) ∧ (szOf Try.prog 151 = some 5) ∧ (aggOf Try.prog 151 = some true) ∧ (strOf Try.prog 151 = false) ∧ (isSlice Try.prog 151 = false) ∧ (isBool Try.prog 151 = false) ∧ (intOf' Try.prog 151 = none)) ∧ ((elemOf Try.prog 151 = none) ∧ (zeroOf Try.prog 151 = some (.agg #[.int .i64 0, .int .i64 0, .int .i64 0, .int .i64 0, .slice none 0 0])) ∧ (fldOf Try.prog 151 0 = some (0, 3)) ∧ (fldOf Try.prog 151 1 = some (1, 3)) ∧ (fldOf Try.prog 151 2 = some (2, 3)) ∧ (fldOf Try.prog 151 3 = some (3, 3)) ∧ (fldOf Try.prog 151 4 = some (4, 135)) ∧ (placesOf Try.prog 151 = some [(0, 1), (1, 1), (2, 1), (3, 1), (4, 1)]) ∧ (szOf Try.prog 160 = some 1) ∧ (aggOf Try.prog 160 = some false) ∧ (szOf Try.prog 163 = some 4) ∧ (aggOf Try.prog 163 = some true) ∧ (strOf Try.prog 163 = false) ∧ (isSlice Try.prog 163 = false) ∧ (isBool Try.prog 163 = false) ∧ (intOf' Try.prog 163 = none) ∧ (elemOf Try.prog 163 = none) ∧ (zeroOf Try.prog 163 = some (.agg #[.string ⟨#[]⟩, .int .i64 0, .string ⟨#[]⟩, .int .i64 0])) ∧ (fldOf Try.prog 163 0 = some (0, 9)) ∧ (fldOf Try.prog 163 1 = some (1, 3)) ∧ (fldOf Try.prog 163 2 = some (2, 9)) ∧ (fldOf Try.prog 163 3 = some (3, 3)) ∧ (placesOf Try.prog 163 = some [(0, 1), (1, 1), (2, 1), (3, 1)]) ∧ (eqKs Try.prog 163 = some [.str, .int, .str, .int]) ∧ (szOf Try.prog 174 = some 3) ∧ (aggOf Try.prog 174 = some true) ∧ (strOf Try.prog 174 = false) ∧ (isSlice Try.prog 174 = false) ∧ (isBool Try.prog 174 = false) ∧ (intOf' Try.prog 174 = none) ∧ (elemOf Try.prog 174 = none) ∧ (zeroOf Try.prog 174 = some (.agg #[.int .i64 0, .slice none 0 0, .slice none 0 0])) ∧ (fldOf Try.prog 174 0 = some (0, 3)) ∧ (fldOf Try.prog 174 1 = some (1, 71)) ∧ (placesOf Try.prog 174 = some [(0, 1), (1, 2)]) ∧ (szOf Try.prog 179 = some 3) ∧ (aggOf Try.prog 179 = some true) ∧ (strOf Try.prog 179 = false) ∧ (isSlice Try.prog 179 = false) ∧ (isBool Try.prog 179 = false)) ∧ ((intOf' Try.prog 179 = none) ∧ (elemOf Try.prog 179 = none) ∧ (zeroOf Try.prog 179 = some (.agg #[.slice none 0 0, .int .i64 0, .int .i64 0])) ∧ (fldOf Try.prog 179 0 = some (0, 59)) ∧ (fldOf Try.prog 179 1 = some (1, 3)) ∧ (fldOf Try.prog 179 2 = some (2, 3)) ∧ (placesOf Try.prog 179 = some [(0, 1), (1, 1), (2, 1)]) ∧ (szOf Try.prog 181 = some 1) ∧ (aggOf Try.prog 181 = some false) ∧ (strOf Try.prog 181 = false) ∧ (isSlice Try.prog 181 = false) ∧ (isBool Try.prog 181 = false) ∧ (intOf' Try.prog 181 = some .u64) ∧ (elemOf Try.prog 181 = none) ∧ (zeroOf Try.prog 181 = some (.int .u64 0)) ∧ (szOf Try.prog 183 = some 5) ∧ (aggOf Try.prog 183 = some true) ∧ (strOf Try.prog 183 = false) ∧ (isSlice Try.prog 183 = false) ∧ (isBool Try.prog 183 = false) ∧ (intOf' Try.prog 183 = none) ∧ (elemOf Try.prog 183 = none) ∧ (zeroOf Try.prog 183 = some (.agg #[.int .i64 0, .int .i64 0, .int .i64 0, .int .i64 0, .slice none 0 0])) ∧ (fldOf Try.prog 183 0 = some (0, 3)) ∧ (fldOf Try.prog 183 1 = some (1, 3)) ∧ (fldOf Try.prog 183 2 = some (2, 3)) ∧ (fldOf Try.prog 183 3 = some (3, 3)) ∧ (fldOf Try.prog 183 4 = some (4, 135)) ∧ (placesOf Try.prog 183 = some [(0, 1), (1, 1), (2, 1), (3, 1), (4, 1)]) ∧ (szOf Try.prog 199 = some 1) ∧ (aggOf Try.prog 199 = some false) ∧ (szOf Try.prog 208 = some 1) ∧ (aggOf Try.prog 208 = some false) ∧ (strOf Try.prog 208 = false) ∧ (isSlice Try.prog 208 = false) ∧ (isBool Try.prog 208 = false) ∧ (intOf' Try.prog 208 = some .u32) ∧ (elemOf Try.prog 208 = none) ∧ (zeroOf Try.prog 208 = some (.int .u32 0)) ∧ (szOf Try.prog 211 = some 1)) ∧ ((aggOf Try.prog 211 = some false) ∧ (strOf Try.prog 211 = false) ∧ (isSlice Try.prog 211 = false) ∧ (isBool Try.prog 211 = false) ∧ (intOf' Try.prog 211 = some .u64) ∧ (elemOf Try.prog 211 = none) ∧ (zeroOf Try.prog 211 = some (.int .u64 0)) ∧ (szOf Try.prog 214 = some 1) ∧ (aggOf Try.prog 214 = some false)) := ⟨tys0, tys1, tys2, tys3, tys4, tys5, tys6, tys7, tys8, tys9, tys10⟩
theorem mixed : Try.prog.follows .mixedOrders = true := by kernel_rfl
attribute [simp] TY
end Go.Proofs.Ytidkkmkihifeoaa.Hz
