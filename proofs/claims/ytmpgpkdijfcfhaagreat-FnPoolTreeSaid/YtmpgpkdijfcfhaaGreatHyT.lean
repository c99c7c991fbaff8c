/- What the calculus asks of the types, each fact by the kernel. Written by facts.py. -/
import Derived.Test.YtmpgpkdijfcfhaaGreatHyGBb
import Derived.Test.YtmpgpkdijfcfhaaGreatProg
namespace Go.Proofs.YtmpgpkdijfcfhaaGreat.Hz
theorem ty0 : szOf Tryz.prog 2 = some 1 := by kernel_rfl
theorem ty1 : aggOf Tryz.prog 2 = some false := by kernel_rfl
theorem ty2 : strOf Tryz.prog 2 = false := by kernel_rfl
theorem ty3 : isSlice Tryz.prog 2 = false := by kernel_rfl
theorem ty4 : isBool Tryz.prog 2 = false := by kernel_rfl
theorem ty5 : intOf' Tryz.prog 2 = some .i64 := by kernel_rfl
theorem ty6 : elemOf Tryz.prog 2 = none := by kernel_rfl
theorem ty7 : zeroOf Tryz.prog 2 = some (.int .i64 0) := by kernel_rfl
theorem ty8 : szOf Tryz.prog 3 = some 1 := by kernel_rfl
theorem ty9 : aggOf Tryz.prog 3 = some false := by kernel_rfl
theorem ty10 : strOf Tryz.prog 3 = false := by kernel_rfl
theorem ty11 : isSlice Tryz.prog 3 = false := by kernel_rfl
theorem ty12 : isBool Tryz.prog 3 = false := by kernel_rfl
theorem ty13 : intOf' Tryz.prog 3 = some .i64 := by kernel_rfl
theorem ty14 : elemOf Tryz.prog 3 = none := by kernel_rfl
theorem ty15 : zeroOf Tryz.prog 3 = some (.int .i64 0) := by kernel_rfl
theorem ty16 : szOf Tryz.prog 4 = some 1 := by kernel_rfl
theorem ty17 : aggOf Tryz.prog 4 = some false := by kernel_rfl
theorem ty18 : strOf Tryz.prog 4 = false := by kernel_rfl
theorem ty19 : isSlice Tryz.prog 4 = false := by kernel_rfl
theorem ty20 : isBool Tryz.prog 4 = true := by kernel_rfl
theorem ty21 : intOf' Tryz.prog 4 = none := by kernel_rfl
theorem ty22 : elemOf Tryz.prog 4 = none := by kernel_rfl
theorem ty23 : zeroOf Tryz.prog 4 = some (.bool false) := by kernel_rfl
theorem ty24 : szOf Tryz.prog 5 = some 1 := by kernel_rfl
theorem ty25 : aggOf Tryz.prog 5 = some false := by kernel_rfl
theorem ty26 : strOf Tryz.prog 5 = false := by kernel_rfl
theorem ty27 : isSlice Tryz.prog 5 = false := by kernel_rfl
theorem ty28 : isBool Tryz.prog 5 = false := by kernel_rfl
theorem ty29 : intOf' Tryz.prog 5 = some .u8 := by kernel_rfl
theorem ty30 : elemOf Tryz.prog 5 = none := by kernel_rfl
theorem ty31 : zeroOf Tryz.prog 5 = some (.int .u8 0) := by kernel_rfl
theorem ty32 : szOf Tryz.prog 9 = some 1 := by kernel_rfl
theorem ty33 : aggOf Tryz.prog 9 = some false := by kernel_rfl
theorem ty34 : strOf Tryz.prog 9 = true := by kernel_rfl
theorem ty35 : isSlice Tryz.prog 9 = false := by kernel_rfl
theorem ty36 : isBool Tryz.prog 9 = false := by kernel_rfl
theorem ty37 : intOf' Tryz.prog 9 = none := by kernel_rfl
theorem ty38 : elemOf Tryz.prog 9 = none := by kernel_rfl
theorem ty39 : zeroOf Tryz.prog 9 = some (.string ⟨#[]⟩) := by kernel_rfl
theorem ty40 : szOf Tryz.prog 12 = some 1 := by kernel_rfl
theorem ty41 : aggOf Tryz.prog 12 = some false := by kernel_rfl
theorem ty42 : strOf Tryz.prog 12 = false := by kernel_rfl
theorem ty43 : isSlice Tryz.prog 12 = false := by kernel_rfl
theorem ty44 : isBool Tryz.prog 12 = false := by kernel_rfl
theorem ty45 : intOf' Tryz.prog 12 = some .u64 := by kernel_rfl
theorem ty46 : elemOf Tryz.prog 12 = none := by kernel_rfl
theorem ty47 : zeroOf Tryz.prog 12 = some (.int .u64 0) := by kernel_rfl
theorem ty48 : szOf Tryz.prog 15 = some 1 := by kernel_rfl
theorem ty49 : aggOf Tryz.prog 15 = some false := by kernel_rfl
theorem ty50 : szOf Tryz.prog 16 = some 1 := by kernel_rfl
theorem ty51 : aggOf Tryz.prog 16 = some false := by kernel_rfl
theorem ty52 : szOf Tryz.prog 17 = some 1 := by kernel_rfl
theorem ty53 : aggOf Tryz.prog 17 = some false := by kernel_rfl
theorem ty54 : szOf Tryz.prog 21 = some 1 := by kernel_rfl
theorem ty55 : aggOf Tryz.prog 21 = some false := by kernel_rfl
theorem ty56 : strOf Tryz.prog 21 = false := by kernel_rfl
theorem ty57 : isSlice Tryz.prog 21 = false := by kernel_rfl
theorem ty58 : isBool Tryz.prog 21 = false := by kernel_rfl
theorem ty59 : intOf' Tryz.prog 21 = some .i32 := by kernel_rfl
theorem ty60 : elemOf Tryz.prog 21 = none := by kernel_rfl
theorem ty61 : zeroOf Tryz.prog 21 = some (.int .i32 0) := by kernel_rfl
theorem ty62 : szOf Tryz.prog 22 = some 1 := by kernel_rfl
theorem ty63 : aggOf Tryz.prog 22 = some false := by kernel_rfl
theorem ty64 : strOf Tryz.prog 22 = false := by kernel_rfl
theorem ty65 : isSlice Tryz.prog 22 = true := by kernel_rfl
theorem ty66 : isBool Tryz.prog 22 = false := by kernel_rfl
theorem ty67 : intOf' Tryz.prog 22 = none := by kernel_rfl
theorem ty68 : elemOf Tryz.prog 22 = some 5 := by kernel_rfl
theorem ty69 : zeroOf Tryz.prog 22 = some (.slice none 0 0) := by kernel_rfl
theorem ty70 : elOf Tryz.prog 22 = some (5, 1, 1, [.int .u8 0]) := by kernel_rfl
theorem ty71 : szOf Tryz.prog 24 = some 1 := by kernel_rfl
theorem ty72 : aggOf Tryz.prog 24 = some false := by kernel_rfl
theorem ty73 : strOf Tryz.prog 24 = false := by kernel_rfl
theorem ty74 : isSlice Tryz.prog 24 = true := by kernel_rfl
theorem ty75 : isBool Tryz.prog 24 = false := by kernel_rfl
theorem ty76 : intOf' Tryz.prog 24 = none := by kernel_rfl
theorem ty77 : elemOf Tryz.prog 24 = some 47 := by kernel_rfl
theorem ty78 : zeroOf Tryz.prog 24 = some (.slice none 0 0) := by kernel_rfl
theorem ty79 : elOf Tryz.prog 24 = some (47, 3, 56, [.int .i64 0, .slice none 0 0, .slice none 0 0]) := by kernel_rfl
theorem ty80 : szOf Tryz.prog 26 = some 7 := by kernel_rfl
theorem ty81 : aggOf Tryz.prog 26 = some true := by kernel_rfl
theorem ty82 : strOf Tryz.prog 26 = false := by kernel_rfl
theorem ty83 : isSlice Tryz.prog 26 = false := by kernel_rfl
theorem ty84 : isBool Tryz.prog 26 = false := by kernel_rfl
theorem ty85 : intOf' Tryz.prog 26 = none := by kernel_rfl
theorem ty86 : elemOf Tryz.prog 26 = none := by kernel_rfl
theorem ty87 : zeroOf Tryz.prog 26 = some (.agg #[.bool false, .bool false, .int .i64 0, .int .i64 0, .string ⟨#[]⟩, .int .i64 0, .int .i64 0]) := by kernel_rfl
theorem ty88 : fldOf Tryz.prog 26 0 = some (0, 4) := by kernel_rfl
theorem ty89 : fldOf Tryz.prog 26 1 = some (1, 4) := by kernel_rfl
theorem ty90 : fldOf Tryz.prog 26 2 = some (2, 3) := by kernel_rfl
theorem ty91 : fldOf Tryz.prog 26 3 = some (3, 3) := by kernel_rfl
theorem ty92 : fldOf Tryz.prog 26 4 = some (4, 9) := by kernel_rfl
theorem ty93 : fldOf Tryz.prog 26 5 = some (5, 3) := by kernel_rfl
theorem ty94 : fldOf Tryz.prog 26 6 = some (6, 3) := by kernel_rfl
theorem ty95 : placesOf Tryz.prog 26 = some [(0, 1), (1, 1), (2, 1), (3, 1), (4, 1), (5, 1), (6, 1)] := by kernel_rfl
theorem ty96 : eqKs Tryz.prog 26 = some [.bool, .bool, .int, .int, .str, .int, .int] := by kernel_rfl
theorem ty97 : szOf Tryz.prog 28 = some 10 := by kernel_rfl
theorem ty98 : aggOf Tryz.prog 28 = some true := by kernel_rfl
theorem ty99 : strOf Tryz.prog 28 = false := by kernel_rfl
theorem ty100 : isSlice Tryz.prog 28 = false := by kernel_rfl
theorem ty101 : isBool Tryz.prog 28 = false := by kernel_rfl
theorem ty102 : intOf' Tryz.prog 28 = none := by kernel_rfl
theorem ty103 : elemOf Tryz.prog 28 = none := by kernel_rfl
theorem ty104 : zeroOf Tryz.prog 28 = some (.agg #[.int .i64 0, .int .i64 0, .slice none 0 0, .bool false, .bool false, .int .i64 0, .int .i64 0, .string ⟨#[]⟩, .int .i64 0, .int .i64 0]) := by kernel_rfl
theorem ty105 : fldOf Tryz.prog 28 0 = some (0, 3) := by kernel_rfl
theorem ty106 : fldOf Tryz.prog 28 1 = some (1, 3) := by kernel_rfl
theorem ty107 : fldOf Tryz.prog 28 2 = some (2, 24) := by kernel_rfl
theorem ty108 : fldOf Tryz.prog 28 3 = some (3, 26) := by kernel_rfl
theorem ty109 : placesOf Tryz.prog 28 = some [(0, 1), (1, 1), (2, 1), (3, 7)] := by kernel_rfl
theorem ty110 : szOf Tryz.prog 30 = some 1 := by kernel_rfl
theorem ty111 : aggOf Tryz.prog 30 = some false := by kernel_rfl
theorem ty112 : strOf Tryz.prog 30 = false := by kernel_rfl
theorem ty113 : isSlice Tryz.prog 30 = true := by kernel_rfl
theorem ty114 : isBool Tryz.prog 30 = false := by kernel_rfl
theorem ty115 : intOf' Tryz.prog 30 = none := by kernel_rfl
theorem ty116 : elemOf Tryz.prog 30 = some 38 := by kernel_rfl
theorem ty117 : zeroOf Tryz.prog 30 = some (.slice none 0 0) := by kernel_rfl
theorem ty118 : elOf Tryz.prog 30 = some (38, 4, 48, [.string ⟨#[]⟩, .int .i64 0, .string ⟨#[]⟩, .int .i64 0]) := by kernel_rfl
theorem ty119 : szOf Tryz.prog 32 = some 1 := by kernel_rfl
theorem ty120 : aggOf Tryz.prog 32 = some true := by kernel_rfl
theorem ty121 : strOf Tryz.prog 32 = false := by kernel_rfl
theorem ty122 : isSlice Tryz.prog 32 = false := by kernel_rfl
theorem ty123 : isBool Tryz.prog 32 = false := by kernel_rfl
theorem ty124 : intOf' Tryz.prog 32 = none := by kernel_rfl
theorem ty125 : elemOf Tryz.prog 32 = none := by kernel_rfl
theorem ty126 : zeroOf Tryz.prog 32 = some (.agg #[.slice none 0 0]) := by kernel_rfl
theorem ty127 : fldOf Tryz.prog 32 0 = some (0, 30) := by kernel_rfl
theorem ty128 : placesOf Tryz.prog 32 = some [(0, 1)] := by kernel_rfl
theorem ty129 : szOf Tryz.prog 38 = some 4 := by kernel_rfl
theorem ty130 : aggOf Tryz.prog 38 = some true := by kernel_rfl
theorem ty131 : strOf Tryz.prog 38 = false := by kernel_rfl
theorem ty132 : isSlice Tryz.prog 38 = false := by kernel_rfl
theorem ty133 : isBool Tryz.prog 38 = false := by kernel_rfl
theorem ty134 : intOf' Tryz.prog 38 = none := by kernel_rfl
theorem ty135 : elemOf Tryz.prog 38 = none := by kernel_rfl
theorem ty136 : zeroOf Tryz.prog 38 = some (.agg #[.string ⟨#[]⟩, .int .i64 0, .string ⟨#[]⟩, .int .i64 0]) := by kernel_rfl
theorem ty137 : fldOf Tryz.prog 38 0 = some (0, 9) := by kernel_rfl
theorem ty138 : fldOf Tryz.prog 38 1 = some (1, 3) := by kernel_rfl
theorem ty139 : fldOf Tryz.prog 38 2 = some (2, 9) := by kernel_rfl
theorem ty140 : fldOf Tryz.prog 38 3 = some (3, 3) := by kernel_rfl
theorem ty141 : placesOf Tryz.prog 38 = some [(0, 1), (1, 1), (2, 1), (3, 1)] := by kernel_rfl
theorem ty142 : eqKs Tryz.prog 38 = some [.str, .int, .str, .int] := by kernel_rfl
theorem ty143 : szOf Tryz.prog 42 = some 1 := by kernel_rfl
theorem ty144 : aggOf Tryz.prog 42 = some false := by kernel_rfl
theorem ty145 : strOf Tryz.prog 42 = false := by kernel_rfl
theorem ty146 : isSlice Tryz.prog 42 = true := by kernel_rfl
theorem ty147 : isBool Tryz.prog 42 = false := by kernel_rfl
theorem ty148 : intOf' Tryz.prog 42 = none := by kernel_rfl
theorem ty149 : elemOf Tryz.prog 42 = some 60 := by kernel_rfl
theorem ty150 : zeroOf Tryz.prog 42 = some (.slice none 0 0) := by kernel_rfl
theorem ty151 : elOf Tryz.prog 42 = some (60, 5, 56, [.int .i64 0, .int .i64 0, .int .i64 0, .int .i64 0, .slice none 0 0]) := by kernel_rfl
theorem ty152 : szOf Tryz.prog 43 = some 1 := by kernel_rfl
theorem ty153 : aggOf Tryz.prog 43 = some false := by kernel_rfl
theorem ty154 : strOf Tryz.prog 43 = false := by kernel_rfl
theorem ty155 : isSlice Tryz.prog 43 = true := by kernel_rfl
theorem ty156 : isBool Tryz.prog 43 = false := by kernel_rfl
theorem ty157 : intOf' Tryz.prog 43 = none := by kernel_rfl
theorem ty158 : elemOf Tryz.prog 43 = some 9 := by kernel_rfl
theorem ty159 : zeroOf Tryz.prog 43 = some (.slice none 0 0) := by kernel_rfl
theorem ty160 : elOf Tryz.prog 43 = some (9, 1, 16, [.string ⟨#[]⟩]) := by kernel_rfl
theorem ty161 : szOf Tryz.prog 45 = some 2 := by kernel_rfl
theorem ty162 : aggOf Tryz.prog 45 = some true := by kernel_rfl
theorem ty163 : strOf Tryz.prog 45 = false := by kernel_rfl
theorem ty164 : isSlice Tryz.prog 45 = false := by kernel_rfl
theorem ty165 : isBool Tryz.prog 45 = false := by kernel_rfl
theorem ty166 : intOf' Tryz.prog 45 = none := by kernel_rfl
theorem ty167 : elemOf Tryz.prog 45 = none := by kernel_rfl
theorem ty168 : zeroOf Tryz.prog 45 = some (.agg #[.slice none 0 0, .slice none 0 0]) := by kernel_rfl
theorem ty169 : fldOf Tryz.prog 45 0 = some (0, 42) := by kernel_rfl
theorem ty170 : fldOf Tryz.prog 45 1 = some (1, 43) := by kernel_rfl
theorem ty171 : placesOf Tryz.prog 45 = some [(0, 1), (1, 1)] := by kernel_rfl
theorem ty172 : szOf Tryz.prog 47 = some 3 := by kernel_rfl
theorem ty173 : aggOf Tryz.prog 47 = some true := by kernel_rfl
theorem ty174 : strOf Tryz.prog 47 = false := by kernel_rfl
theorem ty175 : isSlice Tryz.prog 47 = false := by kernel_rfl
theorem ty176 : isBool Tryz.prog 47 = false := by kernel_rfl
theorem ty177 : intOf' Tryz.prog 47 = none := by kernel_rfl
theorem ty178 : elemOf Tryz.prog 47 = none := by kernel_rfl
theorem ty179 : zeroOf Tryz.prog 47 = some (.agg #[.int .i64 0, .slice none 0 0, .slice none 0 0]) := by kernel_rfl
theorem ty180 : fldOf Tryz.prog 47 0 = some (0, 3) := by kernel_rfl
theorem ty181 : fldOf Tryz.prog 47 1 = some (1, 45) := by kernel_rfl
theorem ty182 : placesOf Tryz.prog 47 = some [(0, 1), (1, 2)] := by kernel_rfl
theorem ty183 : szOf Tryz.prog 58 = some 1 := by kernel_rfl
theorem ty184 : aggOf Tryz.prog 58 = some false := by kernel_rfl
theorem ty185 : strOf Tryz.prog 58 = false := by kernel_rfl
theorem ty186 : isSlice Tryz.prog 58 = true := by kernel_rfl
theorem ty187 : isBool Tryz.prog 58 = false := by kernel_rfl
theorem ty188 : intOf' Tryz.prog 58 = none := by kernel_rfl
theorem ty189 : elemOf Tryz.prog 58 = some 3 := by kernel_rfl
theorem ty190 : zeroOf Tryz.prog 58 = some (.slice none 0 0) := by kernel_rfl
theorem ty191 : elOf Tryz.prog 58 = some (3, 1, 8, [.int .i64 0]) := by kernel_rfl
theorem ty192 : szOf Tryz.prog 60 = some 5 := by kernel_rfl
theorem ty193 : aggOf Tryz.prog 60 = some true := by kernel_rfl
theorem ty194 : strOf Tryz.prog 60 = false := by kernel_rfl
theorem ty195 : isSlice Tryz.prog 60 = false := by kernel_rfl
theorem ty196 : isBool Tryz.prog 60 = false := by kernel_rfl
theorem ty197 : intOf' Tryz.prog 60 = none := by kernel_rfl
theorem ty198 : elemOf Tryz.prog 60 = none := by kernel_rfl
theorem ty199 : zeroOf Tryz.prog 60 = some (.agg #[.int .i64 0, .int .i64 0, .int .i64 0, .int .i64 0, .slice none 0 0]) := by kernel_rfl
theorem ty200 : fldOf Tryz.prog 60 0 = some (0, 3) := by kernel_rfl
theorem ty201 : fldOf Tryz.prog 60 1 = some (1, 3) := by kernel_rfl
theorem ty202 : fldOf Tryz.prog 60 2 = some (2, 3) := by kernel_rfl
theorem ty203 : fldOf Tryz.prog 60 3 = some (3, 3) := by kernel_rfl
theorem ty204 : fldOf Tryz.prog 60 4 = some (4, 58) := by kernel_rfl
theorem ty205 : placesOf Tryz.prog 60 = some [(0, 1), (1, 1), (2, 1), (3, 1), (4, 1)] := by kernel_rfl
theorem ty206 : szOf Tryz.prog 66 = some 1 := by kernel_rfl
theorem ty207 : aggOf Tryz.prog 66 = some false := by kernel_rfl
theorem ty208 : szOf Tryz.prog 103 = some 3 := by kernel_rfl
theorem ty209 : aggOf Tryz.prog 103 = some true := by kernel_rfl
theorem ty210 : strOf Tryz.prog 103 = false := by kernel_rfl
theorem ty211 : isSlice Tryz.prog 103 = false := by kernel_rfl
theorem ty212 : isBool Tryz.prog 103 = false := by kernel_rfl
theorem ty213 : intOf' Tryz.prog 103 = none := by kernel_rfl
theorem ty214 : elemOf Tryz.prog 103 = none := by kernel_rfl
theorem ty215 : zeroOf Tryz.prog 103 = some (.agg #[.slice none 0 0, .int .i64 0, .int .i64 0]) := by kernel_rfl
theorem ty216 : fldOf Tryz.prog 103 0 = some (0, 22) := by kernel_rfl
theorem ty217 : fldOf Tryz.prog 103 1 = some (1, 3) := by kernel_rfl
theorem ty218 : fldOf Tryz.prog 103 2 = some (2, 3) := by kernel_rfl
theorem ty219 : placesOf Tryz.prog 103 = some [(0, 1), (1, 1), (2, 1)] := by kernel_rfl
theorem ty220 : szOf Tryz.prog 107 = some 1 := by kernel_rfl
theorem ty221 : aggOf Tryz.prog 107 = some false := by kernel_rfl
theorem ty222 : strOf Tryz.prog 107 = false := by kernel_rfl
theorem ty223 : isSlice Tryz.prog 107 = false := by kernel_rfl
theorem ty224 : isBool Tryz.prog 107 = false := by kernel_rfl
theorem ty225 : intOf' Tryz.prog 107 = some .u64 := by kernel_rfl
theorem ty226 : elemOf Tryz.prog 107 = none := by kernel_rfl
theorem ty227 : zeroOf Tryz.prog 107 = some (.int .u64 0) := by kernel_rfl
theorem ty228 : szOf Tryz.prog 113 = some 1 := by kernel_rfl
theorem ty229 : aggOf Tryz.prog 113 = some false := by kernel_rfl
theorem ty230 : strOf Tryz.prog 113 = false := by kernel_rfl
theorem ty231 : isSlice Tryz.prog 113 = true := by kernel_rfl
theorem ty232 : isBool Tryz.prog 113 = false := by kernel_rfl
theorem ty233 : intOf' Tryz.prog 113 = none := by kernel_rfl
theorem ty234 : elemOf Tryz.prog 113 = some 117 := by kernel_rfl
theorem ty235 : zeroOf Tryz.prog 113 = some (.slice none 0 0) := by kernel_rfl
theorem ty236 : elOf Tryz.prog 113 = some (117, 2, 24, [.string ⟨#[]⟩, .int .i64 0]) := by kernel_rfl
theorem ty237 : szOf Tryz.prog 117 = some 2 := by kernel_rfl
theorem ty238 : aggOf Tryz.prog 117 = some true := by kernel_rfl
theorem ty239 : strOf Tryz.prog 117 = false := by kernel_rfl
theorem ty240 : isSlice Tryz.prog 117 = false := by kernel_rfl
theorem ty241 : isBool Tryz.prog 117 = false := by kernel_rfl
theorem ty242 : intOf' Tryz.prog 117 = none := by kernel_rfl
theorem ty243 : elemOf Tryz.prog 117 = none := by kernel_rfl
theorem ty244 : zeroOf Tryz.prog 117 = some (.agg #[.string ⟨#[]⟩, .int .i64 0]) := by kernel_rfl
theorem ty245 : fldOf Tryz.prog 117 0 = some (0, 9) := by kernel_rfl
theorem ty246 : fldOf Tryz.prog 117 1 = some (1, 3) := by kernel_rfl
theorem ty247 : placesOf Tryz.prog 117 = some [(0, 1), (1, 1)] := by kernel_rfl
theorem ty248 : eqKs Tryz.prog 117 = some [.str, .int] := by kernel_rfl
theorem ty249 : szOf Tryz.prog 150 = some 1 := by kernel_rfl
theorem ty250 : aggOf Tryz.prog 150 = some false := by kernel_rfl
theorem ty251 : strOf Tryz.prog 150 = false := by kernel_rfl
theorem ty252 : isSlice Tryz.prog 150 = false := by kernel_rfl
theorem ty253 : isBool Tryz.prog 150 = false := by kernel_rfl
theorem ty254 : intOf' Tryz.prog 150 = some .u32 := by kernel_rfl
theorem ty255 : elemOf Tryz.prog 150 = none := by kernel_rfl
theorem ty256 : zeroOf Tryz.prog 150 = some (.int .u32 0) := by kernel_rfl
theorem ty257 : szOf Tryz.prog 152 = some 1 := by kernel_rfl
theorem ty258 : aggOf Tryz.prog 152 = some false := by kernel_rfl
theorem ty259 : strOf Tryz.prog 152 = false := by kernel_rfl
theorem ty260 : isSlice Tryz.prog 152 = false := by kernel_rfl
theorem ty261 : isBool Tryz.prog 152 = false := by kernel_rfl
theorem ty262 : intOf' Tryz.prog 152 = some .u64 := by kernel_rfl
theorem ty263 : elemOf Tryz.prog 152 = none := by kernel_rfl
theorem ty264 : zeroOf Tryz.prog 152 = some (.int .u64 0) := by kernel_rfl
theorem ty265 : szOf Tryz.prog 163 = some 1 := by kernel_rfl
theorem ty266 : aggOf Tryz.prog 163 = some false := by kernel_rfl
theorem ty267 : szOf Tryz.prog 179 = some 1 := by kernel_rfl
theorem ty268 : aggOf Tryz.prog 179 = some false := by kernel_rfl
theorem ty269 : szOf Tryz.prog 181 = some 1 := by kernel_rfl
theorem ty270 : aggOf Tryz.prog 181 = some false := by kernel_rfl
theorem ty271 : szOf Tryz.prog 202 = some 1 := by kernel_rfl
theorem ty272 : aggOf Tryz.prog 202 = some false := by kernel_rfl
theorem ty273 : szOf Tryz.prog 205 = some 1 := by kernel_rfl
theorem ty274 : aggOf Tryz.prog 205 = some false := by kernel_rfl
theorem tys0 : (szOf Tryz.prog 2 = some 1) ∧ (aggOf Tryz.prog 2 = some false) ∧ (strOf Tryz.prog 2 = false) ∧ (isSlice Tryz.prog 2 = false) ∧ (isBool Tryz.prog 2 = false) ∧ (intOf' Tryz.prog 2 = some .i64) ∧ (elemOf Tryz.prog 2 = none) ∧ (zeroOf Tryz.prog 2 = some (.int .i64 0)) ∧ (szOf Tryz.prog 3 = some 1) ∧ (aggOf Tryz.prog 3 = some false) ∧ (strOf Tryz.prog 3 = false) ∧ (isSlice Tryz.prog 3 = false) ∧ (isBool Tryz.prog 3 = false) ∧ (intOf' Tryz.prog 3 = some .i64) ∧ (elemOf Tryz.prog 3 = none) ∧ (zeroOf Tryz.prog 3 = some (.int .i64 0)) ∧ (szOf Tryz.prog 4 = some 1) ∧ (aggOf Tryz.prog 4 = some false) ∧ (strOf Tryz.prog 4 = false) ∧ (isSlice Tryz.prog 4 = false) ∧ (isBool Tryz.prog 4 = true) ∧ (intOf' Tryz.prog 4 = none) ∧ (elemOf Tryz.prog 4 = none) ∧ (zeroOf Tryz.prog 4 = some (.bool false)) ∧ (szOf Tryz.prog 5 = some 1) ∧ (aggOf Tryz.prog 5 = some false) ∧ (strOf Tryz.prog 5 = false) ∧ (isSlice Tryz.prog 5 = false) ∧ (isBool Tryz.prog 5 = false) ∧ (intOf' Tryz.prog 5 = some .u8) ∧ (elemOf Tryz.prog 5 = none) ∧ (zeroOf Tryz.prog 5 = some (.int .u8 0)) ∧ (szOf Tryz.prog 9 = some 1) ∧ (aggOf Tryz.prog 9 = some false) ∧ (strOf Tryz.prog 9 = true) ∧ (isSlice Tryz.prog 9 = false) ∧ (isBool Tryz.prog 9 = false) ∧ (intOf' Tryz.prog 9 = none) ∧ (elemOf Tryz.prog 9 = none) ∧ (zeroOf Tryz.prog 9 = some (.string ⟨#[]⟩)) := ⟨ty0, ty1, ty2, ty3, ty4, ty5, ty6, ty7, ty8, ty9, ty10, ty11, ty12, ty13, ty14, ty15, ty16, ty17, ty18, ty19, ty20, ty21, ty22, ty23, ty24, ty25, ty26, ty27, ty28, ty29, ty30, ty31, ty32, ty33, ty34, ty35, ty36, ty37, ty38, ty39⟩
theorem tys1 : (szOf Tryz.prog 12 = some 1) ∧ (aggOf Tryz.prog 12 = some false) ∧ (strOf Tryz.prog 12 = false) ∧ (isSlice Tryz.prog 12 = false) ∧ (isBool Tryz.prog 12 = false) ∧ (intOf' Tryz.prog 12 = some .u64) ∧ (elemOf Tryz.prog 12 = none) ∧ (zeroOf Tryz.prog 12 = some (.int .u64 0)) ∧ (szOf Tryz.prog 15 = some 1) ∧ (aggOf Tryz.prog 15 = some false) ∧ (szOf Tryz.prog 16 = some 1) ∧ (aggOf Tryz.prog 16 = some false) ∧ (szOf Tryz.prog 17 = some 1) ∧ (aggOf Tryz.prog 17 = some false) ∧ (szOf Tryz.prog 21 = some 1) ∧ (aggOf Tryz.prog 21 = some false) ∧ (strOf Tryz.prog 21 = false) ∧ (isSlice Tryz.prog 21 = false) ∧ (isBool Tryz.prog 21 = false) ∧ (intOf' Tryz.prog 21 = some .i32) ∧ (elemOf Tryz.prog 21 = none) ∧ (zeroOf Tryz.prog 21 = some (.int .i32 0)) ∧ (szOf Tryz.prog 22 = some 1) ∧ (aggOf Tryz.prog 22 = some false) ∧ (strOf Tryz.prog 22 = false) ∧ (isSlice Tryz.prog 22 = true) ∧ (isBool Tryz.prog 22 = false) ∧ (intOf' Tryz.prog 22 = none) ∧ (elemOf Tryz.prog 22 = some 5) ∧ (zeroOf Tryz.prog 22 = some (.slice none 0 0)) ∧ (elOf Tryz.prog 22 = some (5, 1, 1, [.int .u8 0])) ∧ (szOf Tryz.prog 24 = some 1) ∧ (aggOf Tryz.prog 24 = some false) ∧ (strOf Tryz.prog 24 = false) ∧ (isSlice Tryz.prog 24 = true) ∧ (isBool Tryz.prog 24 = false) ∧ (intOf' Tryz.prog 24 = none) ∧ (elemOf Tryz.prog 24 = some 47) ∧ (zeroOf Tryz.prog 24 = some (.slice none 0 0)) ∧ (elOf Tryz.prog 24 = some (47, 3, 56, [.int .i64 0, .slice none 0 0, .slice none 0 0])) := ⟨ty40, ty41, ty42, ty43, ty44, ty45, ty46, ty47, ty48, ty49, ty50, ty51, ty52, ty53, ty54, ty55, ty56, ty57, ty58, ty59, ty60, ty61, ty62, ty63, ty64, ty65, ty66, ty67, ty68, ty69, ty70, ty71, ty72, ty73, ty74, ty75, ty76, ty77, ty78, ty79⟩
theorem tys2 : (szOf Tryz.prog 26 = some 7) ∧ (aggOf Tryz.prog 26 = some true) ∧ (strOf Tryz.prog 26 = false) ∧ (isSlice Tryz.prog 26 = false) ∧ (isBool Tryz.prog 26 = false) ∧ (intOf' Tryz.prog 26 = none) ∧ (elemOf Tryz.prog 26 = none) ∧ (zeroOf Tryz.prog 26 = some (.agg #[.bool false, .bool false, .int .i64 0, .int .i64 0, .string ⟨#[]⟩, .int .i64 0, .int .i64 0])) ∧ (fldOf Tryz.prog 26 0 = some (0, 4)) ∧ (fldOf Tryz.prog 26 1 = some (1, 4)) ∧ (fldOf Tryz.prog 26 2 = some (2, 3)) ∧ (fldOf Tryz.prog 26 3 = some (3, 3)) ∧ (fldOf Tryz.prog 26 4 = some (4, 9)) ∧ (fldOf Tryz.prog 26 5 = some (5, 3)) ∧ (fldOf Tryz.prog 26 6 = some (6, 3)) ∧ (placesOf Tryz.prog 26 = some [(0, 1), (1, 1), (2, 1), (3, 1), (4, 1), (5, 1), (6, 1)]) ∧ (eqKs Tryz.prog 26 = some [.bool, .bool, .int, .int, .str, .int, .int]) ∧ (szOf Tryz.prog 28 = some 10) ∧ (aggOf Tryz.prog 28 = some true) ∧ (strOf Tryz.prog 28 = false) ∧ (isSlice Tryz.prog 28 = false) ∧ (isBool Tryz.prog 28 = false) ∧ (intOf' Tryz.prog 28 = none) ∧ (elemOf Tryz.prog 28 = none) ∧ (zeroOf Tryz.prog 28 = some (.agg #[.int .i64 0, .int .i64 0, .slice none 0 0, .bool false, .bool false, .int .i64 0, .int .i64 0, .string ⟨#[]⟩, .int .i64 0, .int .i64 0])) ∧ (fldOf Tryz.prog 28 0 = some (0, 3)) ∧ (fldOf Tryz.prog 28 1 = some (1, 3)) ∧ (fldOf Tryz.prog 28 2 = some (2, 24)) ∧ (fldOf Tryz.prog 28 3 = some (3, 26)) ∧ (placesOf Tryz.prog 28 = some [(0, 1), (1, 1), (2, 1), (3, 7)]) ∧ (szOf Tryz.prog 30 = some 1) ∧ (aggOf Tryz.prog 30 = some false) ∧ (strOf Tryz.prog 30 = false) ∧ (isSlice Tryz.prog 30 = true) ∧ (isBool Tryz.prog 30 = false) ∧ (intOf' Tryz.prog 30 = none) ∧ (elemOf Tryz.prog 30 = some 38) ∧ (zeroOf Tryz.prog 30 = some (.slice none 0 0)) ∧ (elOf Tryz.prog 30 = some (38, 4, 48, [.string ⟨#[]⟩, .int .i64 0, .string ⟨#[]⟩, .int .i64 0])) ∧ (szOf Tryz.prog 32 = some 1) := ⟨ty80, ty81, ty82, ty83, ty84, ty85, ty86, ty87, ty88, ty89, ty90, ty91, ty92, ty93, ty94, ty95, ty96, ty97, ty98, ty99, ty100, ty101, ty102, ty103, ty104, ty105, ty106, ty107, ty108, ty109, ty110, ty111, ty112, ty113, ty114, ty115, ty116, ty117, ty118, ty119⟩
theorem tys3 : (aggOf Tryz.prog 32 = some true) ∧ (strOf Tryz.prog 32 = false) ∧ (isSlice Tryz.prog 32 = false) ∧ (isBool Tryz.prog 32 = false) ∧ (intOf' Tryz.prog 32 = none) ∧ (elemOf Tryz.prog 32 = none) ∧ (zeroOf Tryz.prog 32 = some (.agg #[.slice none 0 0])) ∧ (fldOf Tryz.prog 32 0 = some (0, 30)) ∧ (placesOf Tryz.prog 32 = some [(0, 1)]) ∧ (szOf Tryz.prog 38 = some 4) ∧ (aggOf Tryz.prog 38 = some true) ∧ (strOf Tryz.prog 38 = false) ∧ (isSlice Tryz.prog 38 = false) ∧ (isBool Tryz.prog 38 = false) ∧ (intOf' Tryz.prog 38 = none) ∧ (elemOf Tryz.prog 38 = none) ∧ (zeroOf Tryz.prog 38 = some (.agg #[.string ⟨#[]⟩, .int .i64 0, .string ⟨#[]⟩, .int .i64 0])) ∧ (fldOf Tryz.prog 38 0 = some (0, 9)) ∧ (fldOf Tryz.prog 38 1 = some (1, 3)) ∧ (fldOf Tryz.prog 38 2 = some (2, 9)) ∧ (fldOf Tryz.prog 38 3 = some (3, 3)) ∧ (placesOf Tryz.prog 38 = some [(0, 1), (1, 1), (2, 1), (3, 1)]) ∧ (eqKs Tryz.prog 38 = some [.str, .int, .str, .int]) ∧ (szOf Tryz.prog 42 = some 1) ∧ (aggOf Tryz.prog 42 = some false) ∧ (strOf Tryz.prog 42 = false) ∧ (isSlice Tryz.prog 42 = true) ∧ (isBool Tryz.prog 42 = false) ∧ (intOf' Tryz.prog 42 = none) ∧ (elemOf Tryz.prog 42 = some 60) ∧ (zeroOf Tryz.prog 42 = some (.slice none 0 0)) ∧ (elOf Tryz.prog 42 = some (60, 5, 56, [.int .i64 0, .int .i64 0, .int .i64 0, .int .i64 0, .slice none 0 0])) ∧ (szOf Tryz.prog 43 = some 1) ∧ (aggOf Tryz.prog 43 = some false) ∧ (strOf Tryz.prog 43 = false) ∧ (isSlice Tryz.prog 43 = true) ∧ (isBool Tryz.prog 43 = false) ∧ (intOf' Tryz.prog 43 = none) ∧ (elemOf Tryz.prog 43 = some 9) ∧ (zeroOf Tryz.prog 43 = some (.slice none 0 0)) := ⟨ty120, ty121, ty122, ty123, ty124, ty125, ty126, ty127, ty128, ty129, ty130, ty131, ty132, ty133, ty134, ty135, ty136, ty137, ty138, ty139, ty140, ty141, ty142, ty143, ty144, ty145, ty146, ty147, ty148, ty149, ty150, ty151, ty152, ty153, ty154, ty155, ty156, ty157, ty158, ty159⟩
theorem tys4 : (elOf Tryz.prog 43 = some (9, 1, 16, [.string ⟨#[]⟩])) ∧ (szOf Tryz.prog 45 = some 2) ∧ (aggOf Tryz.prog 45 = some true) ∧ (strOf Tryz.prog 45 = false) ∧ (isSlice Tryz.prog 45 = false) ∧ (isBool Tryz.prog 45 = false) ∧ (intOf' Tryz.prog 45 = none) ∧ (elemOf Tryz.prog 45 = none) ∧ (zeroOf Tryz.prog 45 = some (.agg #[.slice none 0 0, .slice none 0 0])) ∧ (fldOf Tryz.prog 45 0 = some (0, 42)) ∧ (fldOf Tryz.prog 45 1 = some (1, 43)) ∧ (placesOf Tryz.prog 45 = some [(0, 1), (1, 1)]) ∧ (szOf Tryz.prog 47 = some 3) ∧ (aggOf Tryz.prog 47 = some true) ∧ (strOf Tryz.prog 47 = false) ∧ (isSlice Tryz.prog 47 = false) ∧ (isBool Tryz.prog 47 = false) ∧ (intOf' Tryz.prog 47 = none) ∧ (elemOf Tryz.prog 47 = none) ∧ (zeroOf Tryz.prog 47 = some (.agg #[.int .i64 0, .slice none 0 0, .slice none 0 0])) ∧ (fldOf Tryz.prog 47 0 = some (0, 3)) ∧ (fldOf Tryz.prog 47 1 = some (1, 45)) ∧ (placesOf Tryz.prog 47 = some [(0, 1), (1, 2)]) ∧ (szOf Tryz.prog 58 = some 1) ∧ (aggOf Tryz.prog 58 = some false) ∧ (strOf Tryz.prog 58 = false) ∧ (isSlice Tryz.prog 58 = true) ∧ (isBool Tryz.prog 58 = false) ∧ (intOf' Tryz.prog 58 = none) ∧ (elemOf Tryz.prog 58 = some 3) ∧ (zeroOf Tryz.prog 58 = some (.slice none 0 0)) ∧ (elOf Tryz.prog 58 = some (3, 1, 8, [.int .i64 0])) ∧ (szOf Tryz.prog 60 = some 5) ∧ (aggOf Tryz.prog 60 = some true) ∧ (strOf Tryz.prog 60 = false) ∧ (isSlice Tryz.prog 60 = false) ∧ (isBool Tryz.prog 60 = false) ∧ (intOf' Tryz.prog 60 = none) ∧ (elemOf Tryz.prog 60 = none) ∧ (zeroOf Tryz.prog 60 = some (.agg #[.int .i64 0, .int .i64 0, .int .i64 0, .int .i64 0, .slice none 0 0])) := ⟨ty160, ty161, ty162, ty163, ty164, ty165, ty166, ty167, ty168, ty169, ty170, ty171, ty172, ty173, ty174, ty175, ty176, ty177, ty178, ty179, ty180, ty181, ty182, ty183, ty184, ty185, ty186, ty187, ty188, ty189, ty190, ty191, ty192, ty193, ty194, ty195, ty196, ty197, ty198, ty199⟩
theorem tys5 : (fldOf Tryz.prog 60 0 = some (0, 3)) ∧ (fldOf Tryz.prog 60 1 = some (1, 3)) ∧ (fldOf Tryz.prog 60 2 = some (2, 3)) ∧ (fldOf Tryz.prog 60 3 = some (3, 3)) ∧ (fldOf Tryz.prog 60 4 = some (4, 58)) ∧ (placesOf Tryz.prog 60 = some [(0, 1), (1, 1), (2, 1), (3, 1), (4, 1)]) ∧ (szOf Tryz.prog 66 = some 1) ∧ (aggOf Tryz.prog 66 = some false) ∧ (szOf Tryz.prog 103 = some 3) ∧ (aggOf Tryz.prog 103 = some true) ∧ (strOf Tryz.prog 103 = false) ∧ (isSlice Tryz.prog 103 = false) ∧ (isBool Tryz.prog 103 = false) ∧ (intOf' Tryz.prog 103 = none) ∧ (elemOf Tryz.prog 103 = none) ∧ (zeroOf Tryz.prog 103 = some (.agg #[.slice none 0 0, .int .i64 0, .int .i64 0])) ∧ (fldOf Tryz.prog 103 0 = some (0, 22)) ∧ (fldOf Tryz.prog 103 1 = some (1, 3)) ∧ (fldOf Tryz.prog 103 2 = some (2, 3)) ∧ (placesOf Tryz.prog 103 = some [(0, 1), (1, 1), (2, 1)]) ∧ (szOf Tryz.prog 107 = some 1) ∧ (aggOf Tryz.prog 107 = some false) ∧ (strOf Tryz.prog 107 = false) ∧ (isSlice Tryz.prog 107 = false) ∧ (isBool Tryz.prog 107 = false) ∧ (intOf' Tryz.prog 107 = some .u64) ∧ (elemOf Tryz.prog 107 = none) ∧ (zeroOf Tryz.prog 107 = some (.int .u64 0)) ∧ (szOf Tryz.prog 113 = some 1) ∧ (aggOf Tryz.prog 113 = some false) ∧ (strOf Tryz.prog 113 = false) ∧ (isSlice Tryz.prog 113 = true) ∧ (isBool Tryz.prog 113 = false) ∧ (intOf' Tryz.prog 113 = none) ∧ (elemOf Tryz.prog 113 = some 117) ∧ (zeroOf Tryz.prog 113 = some (.slice none 0 0)) ∧ (elOf Tryz.prog 113 = some (117, 2, 24, [.string ⟨#[]⟩, .int .i64 0])) ∧ (szOf Tryz.prog 117 = some 2) ∧ (aggOf Tryz.prog 117 = some true) ∧ (strOf Tryz.prog 117 = false) := ⟨ty200, ty201, ty202, ty203, ty204, ty205, ty206, ty207, ty208, ty209, ty210, ty211, ty212, ty213, ty214, ty215, ty216, ty217, ty218, ty219, ty220, ty221, ty222, ty223, ty224, ty225, ty226, ty227, ty228, ty229, ty230, ty231, ty232, ty233, ty234, ty235, ty236, ty237, ty238, ty239⟩
theorem tys6 : (isSlice Tryz.prog 117 = false) ∧ (isBool Tryz.prog 117 = false) ∧ (intOf' Tryz.prog 117 = none) ∧ (elemOf Tryz.prog 117 = none) ∧ (zeroOf Tryz.prog 117 = some (.agg #[.string ⟨#[]⟩, .int .i64 0])) ∧ (fldOf Tryz.prog 117 0 = some (0, 9)) ∧ (fldOf Tryz.prog 117 1 = some (1, 3)) ∧ (placesOf Tryz.prog 117 = some [(0, 1), (1, 1)]) ∧ (eqKs Tryz.prog 117 = some [.str, .int]) ∧ (szOf Tryz.prog 150 = some 1) ∧ (aggOf Tryz.prog 150 = some false) ∧ (strOf Tryz.prog 150 = false) ∧ (isSlice Tryz.prog 150 = false) ∧ (isBool Tryz.prog 150 = false) ∧ (intOf' Tryz.prog 150 = some .u32) ∧ (elemOf Tryz.prog 150 = none) ∧ (zeroOf Tryz.prog 150 = some (.int .u32 0)) ∧ (szOf Tryz.prog 152 = some 1) ∧ (aggOf Tryz.prog 152 = some false) ∧ (strOf Tryz.prog 152 = false) ∧ (isSlice Tryz.prog 152 = false) ∧ (isBool Tryz.prog 152 = false) ∧ (intOf' Tryz.prog 152 = some .u64) ∧ (elemOf Tryz.prog 152 = none) ∧ (zeroOf Tryz.prog 152 = some (.int .u64 0)) ∧ (szOf Tryz.prog 163 = some 1) ∧ (aggOf Tryz.prog 163 = some false) ∧ (szOf Tryz.prog 179 = some 1) ∧ (aggOf Tryz.prog 179 = some false) ∧ (szOf Tryz.prog 181 = some 1) ∧ (aggOf Tryz.prog 181 = some false) ∧ (szOf Tryz.prog 202 = some 1) ∧ (aggOf Tryz.prog 202 = some false) ∧ (szOf Tryz.prog 205 = some 1) ∧ (aggOf Tryz.prog 205 = some false) := ⟨ty240, ty241, ty242, ty243, ty244, ty245, ty246, ty247, ty248, ty249, ty250, ty251, ty252, ty253, ty254, ty255, ty256, ty257, ty258, ty259, ty260, ty261, ty262, ty263, ty264, ty265, ty266, ty267, ty268, ty269, ty270, ty271, ty272, ty273, ty274⟩
theorem TY : ((szOf Tryz.prog 2 = some 1) ∧ (aggOf Tryz.prog 2 = some false) ∧ (strOf Tryz.prog 2 = false) ∧ (isSlice Tryz.prog 2 = false) ∧ (isBool Tryz.prog 2 = false) ∧ (intOf' Tryz.prog 2 = some .i64) ∧ (elemOf Tryz.prog 2 = none) ∧ (zeroOf Tryz.prog 2 = some (.int .i64 0)) ∧ (szOf Tryz.prog 3 = some 1) ∧ (aggOf Tryz.prog 3 = some false) ∧ (strOf Tryz.prog 3 = false) ∧ (isSlice Tryz.prog 3 = false) ∧ (isBool Tryz.prog 3 = false) ∧ (intOf' Tryz.prog 3 = some .i64) ∧ (elemOf Tryz.prog 3 = none) ∧ (zeroOf Tryz.prog 3 = some (.int .i64 0)) ∧ (szOf Tryz.prog 4 = some 1) ∧ (aggOf Tryz.prog 4 = some false) ∧ (strOf Tryz.prog 4 = false) ∧ (isSlice Tryz.prog 4 = false) ∧ (isBool Tryz.prog 4 = true) ∧ (intOf' Tryz.prog 4 = none) ∧ (elemOf Tryz.prog 4 = none) ∧ (zeroOf Tryz.prog 4 = some (.bool false)) ∧ (szOf Tryz.prog 5 = some 1) ∧ (aggOf Tryz.prog 5 = some false) ∧ (strOf Tryz.prog 5 = false) ∧ (isSlice Tryz.prog 5 = false) ∧ (isBool Tryz.prog 5 = false) ∧ (intOf' Tryz.prog 5 = some .u8) ∧ (elemOf Tryz.prog 5 = none) ∧ (zeroOf Tryz.prog 5 = some (.int .u8 0)) ∧ (szOf Tryz.prog 9 = some 1) ∧ (aggOf Tryz.prog 9 = some false) ∧ (strOf Tryz.prog 9 = true) ∧ (isSlice Tryz.prog 9 = false) ∧ (isBool Tryz.prog 9 = false) ∧ (intOf' Tryz.prog 9 = none) ∧ (elemOf Tryz.prog 9 = none) ∧ (zeroOf Tryz.prog 9 = some (.string ⟨#[]⟩))) ∧ ((szOf Tryz.prog 12 = some 1) ∧ (aggOf Tryz.prog 12 = some false) ∧ (strOf Tryz.prog 12 = false) ∧ (isSlice Tryz.prog 12 = false) ∧ (isBool Tryz.prog 12 = false) ∧ (intOf' Tryz.prog 12 = some .u64) ∧ (elemOf Tryz.prog 12 = none) ∧ (zeroOf Tryz.prog 12 = some (.int .u64 0)) ∧ (szOf Tryz.prog 15 = some 1) ∧ (aggOf Tryz.prog 15 = some false) ∧ (szOf Tryz.prog 16 = some 1) ∧ (aggOf Tryz.prog 16 = some false) ∧ (szOf Tryz.prog 17 = some 1) ∧ (aggOf Tryz.prog 17 = some false) ∧ (szOf Tryz.prog 21 = some 1) ∧ (aggOf Tryz.prog 21 = some false) ∧ (strOf Tryz.prog 21 = false) ∧ (isSlice Tryz.prog 21 = false) ∧ (isBool Tryz.prog 21 = false) ∧ (intOf' Tryz.prog 21 = some .i32) ∧ (elemOf Tryz.prog 21 = none) ∧ (zeroOf Tryz.prog 21 = some (.int .i32 0)) ∧ (szOf Tryz.prog 22 = some 1) ∧ (aggOf Tryz.prog 22 = some false) ∧ (strOf Tryz.prog 22 = false) ∧ (isSlice Tryz.prog 22 = true) ∧ (isBool Tryz.prog 22 = false) ∧ (intOf' Tryz.prog 22 = none) ∧ (elemOf Tryz.prog 22 = some 5) ∧ (zeroOf Tryz.prog 22 = some (.slice none 0 0)) ∧ (elOf Tryz.prog 22 = some (5, 1, 1, [.int .u8 0])) ∧ (szOf Tryz.prog 24 = some 1) ∧ (aggOf Tryz.prog 24 = some false) ∧ (strOf Tryz.prog 24 = false) ∧ (isSlice Tryz.prog 24 = true) ∧ (isBool Tryz.prog 24 = false) ∧ (intOf' Tryz.prog 24 = none) ∧ (elemOf Tryz.prog 24 = some 47) ∧ (zeroOf Tryz.prog 24 = some (.slice none 0 0)) ∧ (elOf Tryz.prog 24 = some (47, 3, 56, [.int .i64 0, .slice none 0 0, .slice none 0 0]))) ∧ ((szOf Tryz.prog 26 = some 7) ∧ (aggOf Tryz.prog 26 = some true) ∧ (strOf Tryz.prog 26 = false) ∧ (isSlice Tryz.prog 26 = false) ∧ (isBool Tryz.prog 26 = false) ∧ (intOf' Tryz.prog 26 = none) ∧ (elemOf Tryz.prog 26 = none) ∧ (zeroOf Tryz.prog 26 = some (.agg #[.bool false, .bool false, .int .i64 0, .int .i64 0, .string ⟨#[]⟩, .int .i64 0, .int .i64 0])) ∧ (fldOf Tryz.prog 26 0 = some (0, 4)) ∧ (fldOf Tryz.prog 26 1 = some (1, 4)) ∧ (fldOf Tryz.prog 26 2 = some (2, 3)) ∧ (fldOf Tryz.prog 26 3 = some (3, 3)) ∧ (fldOf Tryz.prog 26 4 = some (4, 9)) ∧ (fldOf Tryz.prog 26 5 = some (5, 3)) ∧ (fldOf Tryz.prog 26 6 = some (6, 3)) ∧ (placesOf Tryz.prog 26 = some [(0, 1), (1, 1), (2, 1), (3, 1), (4, 1), (5, 1), (6, 1)]) ∧ (eqKs Tryz.prog 26 = some [.bool, .bool, .int, .int, .str, .int, .int]) ∧ (szOf Tryz.prog 28 = some 10) ∧ (aggOf Tryz.prog 28 = some true) ∧ (strOf Tryz.prog 28 = false) ∧ (isSlice Tryz.prog 28 = false) ∧ (isBool Tryz.prog 28 = false) ∧ (intOf' Tryz.prog 28 = none) ∧ (elemOf Tryz.prog 28 = none) ∧ (zeroOf Tryz.prog 28 = some (.agg #[.int .i64 0, .int .i64 0, .slice none 0 0, .bool false, .bool false, .int .i64 0, .int .i64 0, .string ⟨#[]⟩, .int .i64 0, .int .i64 0])) ∧ (fldOf Tryz.prog 28 0 = some (0, 3)) ∧ (fldOf Tryz.prog 28 1 = some (1, 3)) ∧ (fldOf Tryz.prog 28 2 = some (2, 24)) ∧ (fldOf Tryz.prog 28 3 = some (3, 26)) ∧ (placesOf Tryz.prog 28 = some [(0, 1), (1, 1), (2, 1), (3, 7)]) ∧ (szOf Tryz.prog 30 = some 1) ∧ (aggOf Tryz.prog 30 = some false) ∧ (strOf Tryz.prog 30 = false) ∧ (isSlice Tryz.prog 30 = true) ∧ (isBool Tryz.prog 30 = false) ∧ (intOf' Tryz.prog 30 = none) ∧ (elemOf Tryz.prog 30 = some 38) ∧ (zeroOf Tryz.prog 30 = some (.slice none 0 0)) ∧ (elOf Tryz.prog 30 = some (38, 4, 48, [.string ⟨#[]⟩, .int .i64 0, .string ⟨#[]⟩, .int .i64 0])) ∧ (szOf Tryz.prog 32 = some 1)) ∧ ((aggOf Tryz.prog 32 = some true) ∧ (strOf Tryz.prog 32 = false) ∧ (isSlice Tryz.prog 32 = false) ∧ (isBool Tryz.prog 32 = false) ∧ (intOf' Tryz.prog 32 = none) ∧ (elemOf Tryz.prog 32 = none) ∧ (zeroOf Tryz.prog 32 = some (.agg #[.slice none 0 0])) ∧ (fldOf Tryz.prog 32 0 = some (0, 30)) ∧ (placesOf Tryz.prog 32 = some [(0, 1)]) ∧ (szOf Tryz.prog 38 = some 4) ∧ (aggOf Tryz.prog 38 = some true) ∧ (strOf Tryz.prog 38 = false) ∧ (isSlice Tryz.prog 38 = false) ∧ (isBool Tryz.prog 38 = false) ∧ (intOf' Tryz.prog 38 = none) ∧ (elemOf Tryz.prog 38 = none) ∧ (zeroOf Tryz.prog 38 = some (.agg #[.string ⟨#[]⟩, .int .i64 0, .string ⟨#[]⟩, .int .i64 0])) ∧ (fldOf Tryz.prog 38 0 = some (0, 9)) ∧ (fldOf Tryz.prog 38 1 = some (1, 3)) ∧ (fldOf Tryz.prog 38 2 = some (2, 9)) ∧ (fldOf Tryz.prog 38 3 = some (3, 3)) ∧ (placesOf Tryz.prog 38 = some [(0, 1), (1, 1), (2, 1), (3, 1)]) ∧ (eqKs Tryz.prog 38 = some [.str, .int, .str, .int]) ∧ (szOf Tryz.prog 42 = some 1) ∧ (aggOf Tryz.prog 42 = some false) ∧ (strOf Tryz.prog 42 = false) ∧ (isSlice Tryz.prog 42 = true) ∧ (isBool Tryz.prog 42 = false) ∧ (intOf' Tryz.prog 42 = none) ∧ (elemOf Tryz.prog 42 = some 60) ∧ (zeroOf Tryz.prog 42 = some (.slice none 0 0)) ∧ (elOf Tryz.prog 42 = some (60, 5, 56, [.int .i64 0, .int .i64 0, .int .i64 0, .int .i64 0, .slice none 0 0])) ∧ (szOf Tryz.prog 43 = some 1) ∧ (aggOf Tryz.prog 43 = some false) ∧ (strOf Tryz.prog 43 = false) ∧ (isSlice Tryz.prog 43 = true) ∧ (isBool Tryz.prog 43 = false) ∧ (intOf' Tryz.prog 43 = none) ∧ (elemOf Tryz.prog 43 = some 9) ∧ (zeroOf Tryz.prog 43 = some (.slice none 0 0))) ∧ ((elOf Tryz.prog 43 = some (9, 1, 16, [.string ⟨#[]⟩])) ∧ (szOf Tryz.prog 45 = some 2) ∧ (aggOf Tryz.prog 45 = some true) ∧ (strOf Tryz.prog 45 = false) ∧ (isSlice Tryz.prog 45 = false) ∧ (isBool Tryz.prog 45 = false) ∧ (intOf' Tryz.prog 45 = none) ∧ (elemOf Tryz.prog 45 = none) ∧ (zeroOf Tryz.prog 45 = some (.agg #[.slice none 0 0, .slice none 0 0])) ∧ (fldOf Tryz.prog 45 0 = some (0, 42)) ∧ (fldOf Tryz.prog 45 1 = some (1, 43)) ∧ (placesOf Tryz.prog 45 = some [(0, 1), (1, 1)]) ∧ (szOf Tryz.prog 47 = some 3) ∧ (aggOf Tryz.prog 47 = some true) ∧ (strOf Tryz.prog 47 = false) ∧ (isSlice Tryz.prog 47 = false) ∧ (isBool Tryz.prog 47 = false) ∧ (intOf' Tryz.prog 47 = none) ∧ (elemOf Tryz.prog 47 = none) ∧ (zeroOf Tryz.prog 47 = some (.agg #[.int .i64 0, .slice none 0 0, .slice none 0 0])) ∧ (fldOf Tryz.prog 47 0 = some (0, 3)) ∧ (fldOf Tryz.prog 47 1 = some (1, 45)) ∧ (placesOf Tryz.prog 47 = some [(0, 1), (1, 2)]) ∧ (szOf Tryz.prog 58 = some 1) ∧ (aggOf Tryz.prog 58 = some false) ∧ (strOf Tryz.prog 58 = false) ∧ (isSlice Tryz.prog 58 = true) ∧ (isBool Tryz.prog 58 = false) ∧ (intOf' Tryz.prog 58 = none) ∧ (elemOf Tryz.prog 58 = some 3) ∧ (zeroOf Tryz.prog 58 = some (.slice none 0 0)) ∧ (elOf Tryz.prog 58 = some (3, 1, 8, [.int .i64 0])) ∧ (szOf Tryz.prog 60 = some 5) ∧ (aggOf Tryz.prog 60 = some true) ∧ (strOf Tryz.prog 60 = false) ∧ (isSlice Tryz.prog 60 = false) ∧ (isBool Tryz.prog 60 = false) ∧ (intOf' Tryz.prog 60 = none) ∧ (elemOf Tryz.prog 60 = none) ∧ (zeroOf Tryz.prog 60 = some (.agg #[.int .i64 0, .int .i64 0, .int .i64 0, .int .i64 0, .slice none 0 0]))) ∧ ((fldOf Tryz.prog 60 0 = some (0, 3)) ∧ (fldOf Tryz.prog 60 1 = some (1, 3)) ∧ (fldOf Tryz.prog 60 2 = some (2, 3)) ∧ (fldOf Tryz.prog 60 3 = some (3, 3)) ∧ (fldOf Tryz.prog 60 4 = some (4, 58)) ∧ (placesOf Tryz.prog 60 = some [(0, 1), (1, 1), (2, 1), (3, 1), (4, 1)]) ∧ (szOf Tryz.prog 66 = some 1) ∧ (aggOf Tryz.prog 66 = some false) ∧ (szOf Tryz.prog 103 = some 3) ∧ (aggOf Tryz.prog 103 = some true) ∧ (strOf Tryz.prog 103 = false) ∧ (isSlice Tryz.prog 103 = false) ∧ (isBool Tryz.prog 103 = false) ∧ (intOf' Tryz.prog 103 = none) ∧ (elemOf Tryz.prog 103 = none) ∧ (zeroOf Tryz.prog 103 = some (.agg #[.slice none 0 0, .int .i64 0, .int .i64 0])) ∧ (fldOf Tryz.prog 103 0 = some (0, 22)) ∧ (fldOf Tryz.prog 103 1 = some (1, 3)) ∧ (fldOf Tryz.prog 103 2 = some (2, 3)) ∧ (placesOf Tryz.prog 103 = some [(0, 1), (1, 1), (2, 1)]) ∧ (szOf Tryz.prog 107 = some 1) ∧ (aggOf Tryz.prog 107 = some false) ∧ (strOf Tryz.prog 107 = false) ∧ (isSlice Tryz.prog 107 = false) ∧ (isBool Tryz.prog 107 = false) ∧ (intOf' Tryz.prog 107 = some .u64) ∧ (elemOf Tryz.prog 107 = none) ∧ (zeroOf Tryz.prog 107 = some (.int .u64 0)) ∧ (szOf Tryz.prog 113 = some 1) ∧ (aggOf Tryz.prog 113 = some false) ∧ (strOf Tryz.prog 113 = false) ∧ (isSlice Tryz.prog 113 = true) ∧ (isBool Tryz.prog 113 = false) ∧ (intOf' Tryz.prog 113 = none) ∧ (elemOf Tryz.prog 113 = some 117) ∧ (zeroOf Tryz.prog 113 = some (.slice none 0 0)) ∧ (elOf Tryz.prog 113 = some (117, 2, 24, [.string ⟨#[]⟩, .int .i64 0])) ∧ (szOf Tryz.prog 117 = some 2) ∧ (aggOf Tryz.prog 117 = some true) ∧ (strOf Tryz.prog 117 = false)) ∧ ((isSlice Tryz.prog 117 = false) ∧ (isBool Tryz.prog 117 = false) ∧ (intOf' Tryz.prog 117 = none) ∧ (elemOf Tryz.prog 117 = none) ∧ (zeroOf Tryz.prog 117 = some (.agg #[.string ⟨#[]⟩, .int .i64 0])) ∧ (fldOf Tryz.prog 117 0 = some (0, 9)) ∧ (fldOf Tryz.prog 117 1 = some (1, 3)) ∧ (placesOf Tryz.prog 117 = some [(0, 1), (1, 1)]) ∧ (eqKs Tryz.prog 117 = some [.str, .int]) ∧ (szOf Tryz.prog 150 = some 1) ∧ (aggOf Tryz.prog 150 = some false) ∧ (strOf Tryz.prog 150 = false) ∧ (isSlice Tryz.prog 150 = false) ∧ (isBool Tryz.prog 150 = false) ∧ (intOf' Tryz.prog 150 = some .u32) ∧ (elemOf Tryz.prog 150 = none) ∧ (zeroOf Tryz.prog 150 = some (.int .u32 0)) ∧ (szOf Tryz.prog 152 = some 1) ∧ (aggOf Tryz.prog 152 = some false) ∧ (strOf Tryz.prog 152 = false) ∧ (isSlice Tryz.prog 152 = false) ∧ (isBool Tryz.prog 152 = false) ∧ (intOf' Tryz.prog 152 = some .u64) ∧ (elemOf Tryz.prog 152 = none) ∧ (zeroOf Tryz.prog 152 = some (.int .u64 0)) ∧ (szOf Tryz.prog 163 = some 1) ∧ (aggOf Tryz.prog 163 = some false) ∧ (szOf Tryz.prog 179 = some 1) ∧ (aggOf Tryz.prog 179 = some false) ∧ (szOf Tryz.prog 181 = some 1) ∧ (aggOf Tryz.prog 181 = some false) ∧ (szOf Tryz.prog 202 = some 1) ∧ (aggOf Tryz.prog 202 = some false) ∧ (szOf Tryz.prog 205 = some 1) ∧ (aggOf Tryz.prog 205 = some false)) := ⟨tys0, tys1, tys2, tys3, tys4, tys5, tys6⟩
theorem mixed : Tryz.prog.follows .mixedOrders = true := by kernel_rfl
attribute [simp] TY
end Go.Proofs.YtmpgpkdijfcfhaaGreat.Hz
