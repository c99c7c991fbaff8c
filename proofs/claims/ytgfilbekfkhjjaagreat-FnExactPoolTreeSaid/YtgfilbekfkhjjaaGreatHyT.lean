/- What the calculus asks of the types, each fact by the kernel. Written by facts.py. -/
import Derived.Test.YtgfilbekfkhjjaaGreatHyGBb
import Derived.Test.YtgfilbekfkhjjaaGreatProg
namespace Go.Proofs.YtgfilbekfkhjjaaGreat.Hz
theorem ty0 : szOf Tryz.prog 2 = some 1 := by kernel_rfl
theorem ty1 : aggOf Tryz.prog 2 = some false := by kernel_rfl
theorem ty2 : strOf Tryz.prog 2 = false := by kernel_rfl
theorem ty3 : isSlice Tryz.prog 2 = false := by kernel_rfl
theorem ty4 : isBool Tryz.prog 2 = false := by kernel_rfl
theorem ty5 : intOf' Tryz.prog 2 = some .i64 := by kernel_rfl
theorem ty6 : elemOf Tryz.prog 2 = none := by kernel_rfl
theorem ty7 : zeroOf Tryz.prog 2 = some (.int .i64 0) := by kernel_rfl
theorem ty8 : szOf Tryz.prog 3 = some 1 := by kernel_rfl
theorem ty9 : aggOf Tryz.prog 3 = some false := by kernel_rfl
theorem ty10 : strOf Tryz.prog 3 = false := by kernel_rfl
theorem ty11 : isSlice Tryz.prog 3 = false := by kernel_rfl
theorem ty12 : isBool Tryz.prog 3 = false := by kernel_rfl
theorem ty13 : intOf' Tryz.prog 3 = some .i64 := by kernel_rfl
theorem ty14 : elemOf Tryz.prog 3 = none := by kernel_rfl
theorem ty15 : zeroOf Tryz.prog 3 = some (.int .i64 0) := by kernel_rfl
theorem ty16 : szOf Tryz.prog 4 = some 1 := by kernel_rfl
theorem ty17 : aggOf Tryz.prog 4 = some false := by kernel_rfl
theorem ty18 : strOf Tryz.prog 4 = false := by kernel_rfl
theorem ty19 : isSlice Tryz.prog 4 = false := by kernel_rfl
theorem ty20 : isBool Tryz.prog 4 = true := by kernel_rfl
theorem ty21 : intOf' Tryz.prog 4 = none := by kernel_rfl
theorem ty22 : elemOf Tryz.prog 4 = none := by kernel_rfl
theorem ty23 : zeroOf Tryz.prog 4 = some (.bool false) := by kernel_rfl
theorem ty24 : szOf Tryz.prog 5 = some 1 := by kernel_rfl
theorem ty25 : aggOf Tryz.prog 5 = some false := by kernel_rfl
theorem ty26 : strOf Tryz.prog 5 = false := by kernel_rfl
theorem ty27 : isSlice Tryz.prog 5 = false := by kernel_rfl
theorem ty28 : isBool Tryz.prog 5 = false := by kernel_rfl
theorem ty29 : intOf' Tryz.prog 5 = some .u8 := by kernel_rfl
theorem ty30 : elemOf Tryz.prog 5 = none := by kernel_rfl
theorem ty31 : zeroOf Tryz.prog 5 = some (.int .u8 0) := by kernel_rfl
theorem ty32 : szOf Tryz.prog 9 = some 1 := by kernel_rfl
theorem ty33 : aggOf Tryz.prog 9 = some false := by kernel_rfl
theorem ty34 : strOf Tryz.prog 9 = true := by kernel_rfl
theorem ty35 : isSlice Tryz.prog 9 = false := by kernel_rfl
theorem ty36 : isBool Tryz.prog 9 = false := by kernel_rfl
theorem ty37 : intOf' Tryz.prog 9 = none := by kernel_rfl
theorem ty38 : elemOf Tryz.prog 9 = none := by kernel_rfl
theorem ty39 : zeroOf Tryz.prog 9 = some (.string ⟨#[]⟩) := by kernel_rfl
theorem ty40 : szOf Tryz.prog 12 = some 1 := by kernel_rfl
theorem ty41 : aggOf Tryz.prog 12 = some false := by kernel_rfl
theorem ty42 : strOf Tryz.prog 12 = false := by kernel_rfl
theorem ty43 : isSlice Tryz.prog 12 = false := by kernel_rfl
theorem ty44 : isBool Tryz.prog 12 = false := by kernel_rfl
theorem ty45 : intOf' Tryz.prog 12 = some .u64 := by kernel_rfl
theorem ty46 : elemOf Tryz.prog 12 = none := by kernel_rfl
theorem ty47 : zeroOf Tryz.prog 12 = some (.int .u64 0) := by kernel_rfl
theorem ty48 : szOf Tryz.prog 15 = some 1 := by kernel_rfl
theorem ty49 : aggOf Tryz.prog 15 = some false := by kernel_rfl
theorem ty50 : szOf Tryz.prog 16 = some 1 := by kernel_rfl
theorem ty51 : aggOf Tryz.prog 16 = some false := by kernel_rfl
theorem ty52 : szOf Tryz.prog 17 = some 1 := by kernel_rfl
theorem ty53 : aggOf Tryz.prog 17 = some false := by kernel_rfl
theorem ty54 : szOf Tryz.prog 21 = some 1 := by kernel_rfl
theorem ty55 : aggOf Tryz.prog 21 = some false := by kernel_rfl
theorem ty56 : strOf Tryz.prog 21 = false := by kernel_rfl
theorem ty57 : isSlice Tryz.prog 21 = false := by kernel_rfl
theorem ty58 : isBool Tryz.prog 21 = false := by kernel_rfl
theorem ty59 : intOf' Tryz.prog 21 = some .i32 := by kernel_rfl
theorem ty60 : elemOf Tryz.prog 21 = none := by kernel_rfl
theorem ty61 : zeroOf Tryz.prog 21 = some (.int .i32 0) := by kernel_rfl
theorem ty62 : szOf Tryz.prog 22 = some 1 := by kernel_rfl
theorem ty63 : aggOf Tryz.prog 22 = some false := by kernel_rfl
theorem ty64 : strOf Tryz.prog 22 = false := by kernel_rfl
theorem ty65 : isSlice Tryz.prog 22 = true := by kernel_rfl
theorem ty66 : isBool Tryz.prog 22 = false := by kernel_rfl
theorem ty67 : intOf' Tryz.prog 22 = none := by kernel_rfl
theorem ty68 : elemOf Tryz.prog 22 = some 98 := by kernel_rfl
theorem ty69 : zeroOf Tryz.prog 22 = some (.slice none 0 0) := by kernel_rfl
theorem ty70 : elOf Tryz.prog 22 = some (98, 5, 56, [.int .i64 0, .int .i64 0, .int .i64 0, .int .i64 0, .slice none 0 0]) := by kernel_rfl
theorem ty71 : szOf Tryz.prog 23 = some 1 := by kernel_rfl
theorem ty72 : aggOf Tryz.prog 23 = some false := by kernel_rfl
theorem ty73 : strOf Tryz.prog 23 = false := by kernel_rfl
theorem ty74 : isSlice Tryz.prog 23 = true := by kernel_rfl
theorem ty75 : isBool Tryz.prog 23 = false := by kernel_rfl
theorem ty76 : intOf' Tryz.prog 23 = none := by kernel_rfl
theorem ty77 : elemOf Tryz.prog 23 = some 9 := by kernel_rfl
theorem ty78 : zeroOf Tryz.prog 23 = some (.slice none 0 0) := by kernel_rfl
theorem ty79 : elOf Tryz.prog 23 = some (9, 1, 16, [.string ⟨#[]⟩]) := by kernel_rfl
theorem ty80 : szOf Tryz.prog 25 = some 2 := by kernel_rfl
theorem ty81 : aggOf Tryz.prog 25 = some true := by kernel_rfl
theorem ty82 : strOf Tryz.prog 25 = false := by kernel_rfl
theorem ty83 : isSlice Tryz.prog 25 = false := by kernel_rfl
theorem ty84 : isBool Tryz.prog 25 = false := by kernel_rfl
theorem ty85 : intOf' Tryz.prog 25 = none := by kernel_rfl
theorem ty86 : elemOf Tryz.prog 25 = none := by kernel_rfl
theorem ty87 : zeroOf Tryz.prog 25 = some (.agg #[.slice none 0 0, .slice none 0 0]) := by kernel_rfl
theorem ty88 : fldOf Tryz.prog 25 0 = some (0, 22) := by kernel_rfl
theorem ty89 : fldOf Tryz.prog 25 1 = some (1, 23) := by kernel_rfl
theorem ty90 : placesOf Tryz.prog 25 = some [(0, 1), (1, 1)] := by kernel_rfl
theorem ty91 : szOf Tryz.prog 27 = some 1 := by kernel_rfl
theorem ty92 : aggOf Tryz.prog 27 = some false := by kernel_rfl
theorem ty93 : strOf Tryz.prog 27 = false := by kernel_rfl
theorem ty94 : isSlice Tryz.prog 27 = true := by kernel_rfl
theorem ty95 : isBool Tryz.prog 27 = false := by kernel_rfl
theorem ty96 : intOf' Tryz.prog 27 = none := by kernel_rfl
theorem ty97 : elemOf Tryz.prog 27 = some 72 := by kernel_rfl
theorem ty98 : zeroOf Tryz.prog 27 = some (.slice none 0 0) := by kernel_rfl
theorem ty99 : elOf Tryz.prog 27 = some (72, 4, 48, [.string ⟨#[]⟩, .int .i64 0, .string ⟨#[]⟩, .int .i64 0]) := by kernel_rfl
theorem ty100 : szOf Tryz.prog 29 = some 1 := by kernel_rfl
theorem ty101 : aggOf Tryz.prog 29 = some true := by kernel_rfl
theorem ty102 : strOf Tryz.prog 29 = false := by kernel_rfl
theorem ty103 : isSlice Tryz.prog 29 = false := by kernel_rfl
theorem ty104 : isBool Tryz.prog 29 = false := by kernel_rfl
theorem ty105 : intOf' Tryz.prog 29 = none := by kernel_rfl
theorem ty106 : elemOf Tryz.prog 29 = none := by kernel_rfl
theorem ty107 : zeroOf Tryz.prog 29 = some (.agg #[.slice none 0 0]) := by kernel_rfl
theorem ty108 : fldOf Tryz.prog 29 0 = some (0, 27) := by kernel_rfl
theorem ty109 : placesOf Tryz.prog 29 = some [(0, 1)] := by kernel_rfl
theorem ty110 : szOf Tryz.prog 31 = some 1 := by kernel_rfl
theorem ty111 : aggOf Tryz.prog 31 = some false := by kernel_rfl
theorem ty112 : strOf Tryz.prog 31 = false := by kernel_rfl
theorem ty113 : isSlice Tryz.prog 31 = true := by kernel_rfl
theorem ty114 : isBool Tryz.prog 31 = false := by kernel_rfl
theorem ty115 : intOf' Tryz.prog 31 = none := by kernel_rfl
theorem ty116 : elemOf Tryz.prog 31 = some 101 := by kernel_rfl
theorem ty117 : zeroOf Tryz.prog 31 = some (.slice none 0 0) := by kernel_rfl
theorem ty118 : elOf Tryz.prog 31 = some (101, 5, 56, [.int .i64 0, .int .i64 0, .int .i64 0, .int .i64 0, .slice none 0 0]) := by kernel_rfl
theorem ty119 : szOf Tryz.prog 33 = some 2 := by kernel_rfl
theorem ty120 : aggOf Tryz.prog 33 = some true := by kernel_rfl
theorem ty121 : strOf Tryz.prog 33 = false := by kernel_rfl
theorem ty122 : isSlice Tryz.prog 33 = false := by kernel_rfl
theorem ty123 : isBool Tryz.prog 33 = false := by kernel_rfl
theorem ty124 : intOf' Tryz.prog 33 = none := by kernel_rfl
theorem ty125 : elemOf Tryz.prog 33 = none := by kernel_rfl
theorem ty126 : zeroOf Tryz.prog 33 = some (.agg #[.slice none 0 0, .slice none 0 0]) := by kernel_rfl
theorem ty127 : fldOf Tryz.prog 33 0 = some (0, 31) := by kernel_rfl
theorem ty128 : fldOf Tryz.prog 33 1 = some (1, 23) := by kernel_rfl
theorem ty129 : placesOf Tryz.prog 33 = some [(0, 1), (1, 1)] := by kernel_rfl
theorem ty130 : szOf Tryz.prog 40 = some 1 := by kernel_rfl
theorem ty131 : aggOf Tryz.prog 40 = some false := by kernel_rfl
theorem ty132 : strOf Tryz.prog 40 = false := by kernel_rfl
theorem ty133 : isSlice Tryz.prog 40 = true := by kernel_rfl
theorem ty134 : isBool Tryz.prog 40 = false := by kernel_rfl
theorem ty135 : intOf' Tryz.prog 40 = none := by kernel_rfl
theorem ty136 : elemOf Tryz.prog 40 = some 122 := by kernel_rfl
theorem ty137 : zeroOf Tryz.prog 40 = some (.slice none 0 0) := by kernel_rfl
theorem ty138 : elOf Tryz.prog 40 = some (122, 3, 56, [.int .i64 0, .slice none 0 0, .slice none 0 0]) := by kernel_rfl
theorem ty139 : szOf Tryz.prog 42 = some 7 := by kernel_rfl
theorem ty140 : aggOf Tryz.prog 42 = some true := by kernel_rfl
theorem ty141 : strOf Tryz.prog 42 = false := by kernel_rfl
theorem ty142 : isSlice Tryz.prog 42 = false := by kernel_rfl
theorem ty143 : isBool Tryz.prog 42 = false := by kernel_rfl
theorem ty144 : intOf' Tryz.prog 42 = none := by kernel_rfl
theorem ty145 : elemOf Tryz.prog 42 = none := by kernel_rfl
theorem ty146 : zeroOf Tryz.prog 42 = some (.agg #[.bool false, .bool false, .int .i64 0, .int .i64 0, .string ⟨#[]⟩, .int .i64 0, .int .i64 0]) := by kernel_rfl
theorem ty147 : fldOf Tryz.prog 42 0 = some (0, 4) := by kernel_rfl
theorem ty148 : fldOf Tryz.prog 42 1 = some (1, 4) := by kernel_rfl
theorem ty149 : fldOf Tryz.prog 42 2 = some (2, 3) := by kernel_rfl
theorem ty150 : fldOf Tryz.prog 42 3 = some (3, 3) := by kernel_rfl
theorem ty151 : fldOf Tryz.prog 42 4 = some (4, 9) := by kernel_rfl
theorem ty152 : fldOf Tryz.prog 42 5 = some (5, 3) := by kernel_rfl
theorem ty153 : fldOf Tryz.prog 42 6 = some (6, 3) := by kernel_rfl
theorem ty154 : placesOf Tryz.prog 42 = some [(0, 1), (1, 1), (2, 1), (3, 1), (4, 1), (5, 1), (6, 1)] := by kernel_rfl
theorem ty155 : eqKs Tryz.prog 42 = some [.bool, .bool, .int, .int, .str, .int, .int] := by kernel_rfl
theorem ty156 : szOf Tryz.prog 44 = some 10 := by kernel_rfl
theorem ty157 : aggOf Tryz.prog 44 = some true := by kernel_rfl
theorem ty158 : strOf Tryz.prog 44 = false := by kernel_rfl
theorem ty159 : isSlice Tryz.prog 44 = false := by kernel_rfl
theorem ty160 : isBool Tryz.prog 44 = false := by kernel_rfl
theorem ty161 : intOf' Tryz.prog 44 = none := by kernel_rfl
theorem ty162 : elemOf Tryz.prog 44 = none := by kernel_rfl
theorem ty163 : zeroOf Tryz.prog 44 = some (.agg #[.int .i64 0, .int .i64 0, .slice none 0 0, .bool false, .bool false, .int .i64 0, .int .i64 0, .string ⟨#[]⟩, .int .i64 0, .int .i64 0]) := by kernel_rfl
theorem ty164 : fldOf Tryz.prog 44 0 = some (0, 3) := by kernel_rfl
theorem ty165 : fldOf Tryz.prog 44 1 = some (1, 3) := by kernel_rfl
theorem ty166 : fldOf Tryz.prog 44 2 = some (2, 40) := by kernel_rfl
theorem ty167 : fldOf Tryz.prog 44 3 = some (3, 42) := by kernel_rfl
theorem ty168 : placesOf Tryz.prog 44 = some [(0, 1), (1, 1), (2, 1), (3, 7)] := by kernel_rfl
theorem ty169 : szOf Tryz.prog 47 = some 1 := by kernel_rfl
theorem ty170 : aggOf Tryz.prog 47 = some false := by kernel_rfl
theorem ty171 : strOf Tryz.prog 47 = false := by kernel_rfl
theorem ty172 : isSlice Tryz.prog 47 = true := by kernel_rfl
theorem ty173 : isBool Tryz.prog 47 = false := by kernel_rfl
theorem ty174 : intOf' Tryz.prog 47 = none := by kernel_rfl
theorem ty175 : elemOf Tryz.prog 47 = some 84 := by kernel_rfl
theorem ty176 : zeroOf Tryz.prog 47 = some (.slice none 0 0) := by kernel_rfl
theorem ty177 : elOf Tryz.prog 47 = some (84, 3, 56, [.int .i64 0, .slice none 0 0, .slice none 0 0]) := by kernel_rfl
theorem ty178 : szOf Tryz.prog 48 = some 7 := by kernel_rfl
theorem ty179 : aggOf Tryz.prog 48 = some true := by kernel_rfl
theorem ty180 : strOf Tryz.prog 48 = false := by kernel_rfl
theorem ty181 : isSlice Tryz.prog 48 = false := by kernel_rfl
theorem ty182 : isBool Tryz.prog 48 = false := by kernel_rfl
theorem ty183 : intOf' Tryz.prog 48 = none := by kernel_rfl
theorem ty184 : elemOf Tryz.prog 48 = none := by kernel_rfl
theorem ty185 : zeroOf Tryz.prog 48 = some (.agg #[.bool false, .bool false, .int .i64 0, .int .i64 0, .string ⟨#[]⟩, .int .i64 0, .int .i64 0]) := by kernel_rfl
theorem ty186 : fldOf Tryz.prog 48 0 = some (0, 4) := by kernel_rfl
theorem ty187 : fldOf Tryz.prog 48 1 = some (1, 4) := by kernel_rfl
theorem ty188 : fldOf Tryz.prog 48 2 = some (2, 3) := by kernel_rfl
theorem ty189 : fldOf Tryz.prog 48 3 = some (3, 3) := by kernel_rfl
theorem ty190 : fldOf Tryz.prog 48 4 = some (4, 9) := by kernel_rfl
theorem ty191 : fldOf Tryz.prog 48 5 = some (5, 3) := by kernel_rfl
theorem ty192 : fldOf Tryz.prog 48 6 = some (6, 3) := by kernel_rfl
theorem ty193 : placesOf Tryz.prog 48 = some [(0, 1), (1, 1), (2, 1), (3, 1), (4, 1), (5, 1), (6, 1)] := by kernel_rfl
theorem ty194 : eqKs Tryz.prog 48 = some [.bool, .bool, .int, .int, .str, .int, .int] := by kernel_rfl
theorem ty195 : szOf Tryz.prog 50 = some 10 := by kernel_rfl
theorem ty196 : aggOf Tryz.prog 50 = some true := by kernel_rfl
theorem ty197 : strOf Tryz.prog 50 = false := by kernel_rfl
theorem ty198 : isSlice Tryz.prog 50 = false := by kernel_rfl
theorem ty199 : isBool Tryz.prog 50 = false := by kernel_rfl
theorem ty200 : intOf' Tryz.prog 50 = none := by kernel_rfl
theorem ty201 : elemOf Tryz.prog 50 = none := by kernel_rfl
theorem ty202 : zeroOf Tryz.prog 50 = some (.agg #[.int .i64 0, .int .i64 0, .slice none 0 0, .bool false, .bool false, .int .i64 0, .int .i64 0, .string ⟨#[]⟩, .int .i64 0, .int .i64 0]) := by kernel_rfl
theorem ty203 : fldOf Tryz.prog 50 0 = some (0, 3) := by kernel_rfl
theorem ty204 : fldOf Tryz.prog 50 1 = some (1, 3) := by kernel_rfl
theorem ty205 : fldOf Tryz.prog 50 2 = some (2, 47) := by kernel_rfl
theorem ty206 : fldOf Tryz.prog 50 3 = some (3, 48) := by kernel_rfl
theorem ty207 : placesOf Tryz.prog 50 = some [(0, 1), (1, 1), (2, 1), (3, 7)] := by kernel_rfl
theorem ty208 : szOf Tryz.prog 57 = some 1 := by kernel_rfl
theorem ty209 : aggOf Tryz.prog 57 = some false := by kernel_rfl
theorem ty210 : strOf Tryz.prog 57 = false := by kernel_rfl
theorem ty211 : isSlice Tryz.prog 57 = true := by kernel_rfl
theorem ty212 : isBool Tryz.prog 57 = false := by kernel_rfl
theorem ty213 : intOf' Tryz.prog 57 = none := by kernel_rfl
theorem ty214 : elemOf Tryz.prog 57 = some 3 := by kernel_rfl
theorem ty215 : zeroOf Tryz.prog 57 = some (.slice none 0 0) := by kernel_rfl
theorem ty216 : elOf Tryz.prog 57 = some (3, 1, 8, [.int .i64 0]) := by kernel_rfl
theorem ty217 : szOf Tryz.prog 72 = some 4 := by kernel_rfl
theorem ty218 : aggOf Tryz.prog 72 = some true := by kernel_rfl
theorem ty219 : strOf Tryz.prog 72 = false := by kernel_rfl
theorem ty220 : isSlice Tryz.prog 72 = false := by kernel_rfl
theorem ty221 : isBool Tryz.prog 72 = false := by kernel_rfl
theorem ty222 : intOf' Tryz.prog 72 = none := by kernel_rfl
theorem ty223 : elemOf Tryz.prog 72 = none := by kernel_rfl
theorem ty224 : zeroOf Tryz.prog 72 = some (.agg #[.string ⟨#[]⟩, .int .i64 0, .string ⟨#[]⟩, .int .i64 0]) := by kernel_rfl
theorem ty225 : fldOf Tryz.prog 72 0 = some (0, 9) := by kernel_rfl
theorem ty226 : fldOf Tryz.prog 72 1 = some (1, 3) := by kernel_rfl
theorem ty227 : fldOf Tryz.prog 72 2 = some (2, 9) := by kernel_rfl
theorem ty228 : fldOf Tryz.prog 72 3 = some (3, 3) := by kernel_rfl
theorem ty229 : placesOf Tryz.prog 72 = some [(0, 1), (1, 1), (2, 1), (3, 1)] := by kernel_rfl
theorem ty230 : eqKs Tryz.prog 72 = some [.str, .int, .str, .int] := by kernel_rfl
theorem ty231 : szOf Tryz.prog 84 = some 3 := by kernel_rfl
theorem ty232 : aggOf Tryz.prog 84 = some true := by kernel_rfl
theorem ty233 : strOf Tryz.prog 84 = false := by kernel_rfl
theorem ty234 : isSlice Tryz.prog 84 = false := by kernel_rfl
theorem ty235 : isBool Tryz.prog 84 = false := by kernel_rfl
theorem ty236 : intOf' Tryz.prog 84 = none := by kernel_rfl
theorem ty237 : elemOf Tryz.prog 84 = none := by kernel_rfl
theorem ty238 : zeroOf Tryz.prog 84 = some (.agg #[.int .i64 0, .slice none 0 0, .slice none 0 0]) := by kernel_rfl
theorem ty239 : fldOf Tryz.prog 84 0 = some (0, 3) := by kernel_rfl
theorem ty240 : fldOf Tryz.prog 84 1 = some (1, 33) := by kernel_rfl
theorem ty241 : placesOf Tryz.prog 84 = some [(0, 1), (1, 2)] := by kernel_rfl
theorem ty242 : szOf Tryz.prog 98 = some 5 := by kernel_rfl
theorem ty243 : aggOf Tryz.prog 98 = some true := by kernel_rfl
theorem ty244 : strOf Tryz.prog 98 = false := by kernel_rfl
theorem ty245 : isSlice Tryz.prog 98 = false := by kernel_rfl
theorem ty246 : isBool Tryz.prog 98 = false := by kernel_rfl
theorem ty247 : intOf' Tryz.prog 98 = none := by kernel_rfl
theorem ty248 : elemOf Tryz.prog 98 = none := by kernel_rfl
theorem ty249 : zeroOf Tryz.prog 98 = some (.agg #[.int .i64 0, .int .i64 0, .int .i64 0, .int .i64 0, .slice none 0 0]) := by kernel_rfl
theorem ty250 : fldOf Tryz.prog 98 0 = some (0, 3) := by kernel_rfl
theorem ty251 : fldOf Tryz.prog 98 1 = some (1, 3) := by kernel_rfl
theorem ty252 : fldOf Tryz.prog 98 2 = some (2, 3) := by kernel_rfl
theorem ty253 : fldOf Tryz.prog 98 3 = some (3, 3) := by kernel_rfl
theorem ty254 : fldOf Tryz.prog 98 4 = some (4, 57) := by kernel_rfl
theorem ty255 : placesOf Tryz.prog 98 = some [(0, 1), (1, 1), (2, 1), (3, 1), (4, 1)] := by kernel_rfl
theorem ty256 : szOf Tryz.prog 101 = some 5 := by kernel_rfl
theorem ty257 : aggOf Tryz.prog 101 = some true := by kernel_rfl
theorem ty258 : strOf Tryz.prog 101 = false := by kernel_rfl
theorem ty259 : isSlice Tryz.prog 101 = false := by kernel_rfl
theorem ty260 : isBool Tryz.prog 101 = false := by kernel_rfl
theorem ty261 : intOf' Tryz.prog 101 = none := by kernel_rfl
theorem ty262 : elemOf Tryz.prog 101 = none := by kernel_rfl
theorem ty263 : zeroOf Tryz.prog 101 = some (.agg #[.int .i64 0, .int .i64 0, .int .i64 0, .int .i64 0, .slice none 0 0]) := by kernel_rfl
theorem ty264 : fldOf Tryz.prog 101 0 = some (0, 3) := by kernel_rfl
theorem ty265 : fldOf Tryz.prog 101 1 = some (1, 3) := by kernel_rfl
theorem ty266 : fldOf Tryz.prog 101 2 = some (2, 3) := by kernel_rfl
theorem ty267 : fldOf Tryz.prog 101 3 = some (3, 3) := by kernel_rfl
theorem ty268 : fldOf Tryz.prog 101 4 = some (4, 57) := by kernel_rfl
theorem ty269 : placesOf Tryz.prog 101 = some [(0, 1), (1, 1), (2, 1), (3, 1), (4, 1)] := by kernel_rfl
theorem ty270 : szOf Tryz.prog 102 = some 1 := by kernel_rfl
theorem ty271 : aggOf Tryz.prog 102 = some false := by kernel_rfl
theorem ty272 : strOf Tryz.prog 102 = false := by kernel_rfl
theorem ty273 : isSlice Tryz.prog 102 = true := by kernel_rfl
theorem ty274 : isBool Tryz.prog 102 = false := by kernel_rfl
theorem ty275 : intOf' Tryz.prog 102 = none := by kernel_rfl
theorem ty276 : elemOf Tryz.prog 102 = some 106 := by kernel_rfl
theorem ty277 : zeroOf Tryz.prog 102 = some (.slice none 0 0) := by kernel_rfl
theorem ty278 : elOf Tryz.prog 102 = some (106, 2, 24, [.string ⟨#[]⟩, .int .i64 0]) := by kernel_rfl
theorem ty279 : szOf Tryz.prog 106 = some 2 := by kernel_rfl
theorem ty280 : aggOf Tryz.prog 106 = some true := by kernel_rfl
theorem ty281 : strOf Tryz.prog 106 = false := by kernel_rfl
theorem ty282 : isSlice Tryz.prog 106 = false := by kernel_rfl
theorem ty283 : isBool Tryz.prog 106 = false := by kernel_rfl
theorem ty284 : intOf' Tryz.prog 106 = none := by kernel_rfl
theorem ty285 : elemOf Tryz.prog 106 = none := by kernel_rfl
theorem ty286 : zeroOf Tryz.prog 106 = some (.agg #[.string ⟨#[]⟩, .int .i64 0]) := by kernel_rfl
theorem ty287 : fldOf Tryz.prog 106 0 = some (0, 9) := by kernel_rfl
theorem ty288 : fldOf Tryz.prog 106 1 = some (1, 3) := by kernel_rfl
theorem ty289 : placesOf Tryz.prog 106 = some [(0, 1), (1, 1)] := by kernel_rfl
theorem ty290 : eqKs Tryz.prog 106 = some [.str, .int] := by kernel_rfl
theorem ty291 : szOf Tryz.prog 115 = some 1 := by kernel_rfl
theorem ty292 : aggOf Tryz.prog 115 = some false := by kernel_rfl
theorem ty293 : strOf Tryz.prog 115 = false := by kernel_rfl
theorem ty294 : isSlice Tryz.prog 115 = false := by kernel_rfl
theorem ty295 : isBool Tryz.prog 115 = false := by kernel_rfl
theorem ty296 : intOf' Tryz.prog 115 = some .u64 := by kernel_rfl
theorem ty297 : elemOf Tryz.prog 115 = none := by kernel_rfl
theorem ty298 : zeroOf Tryz.prog 115 = some (.int .u64 0) := by kernel_rfl
theorem ty299 : szOf Tryz.prog 122 = some 3 := by kernel_rfl
theorem ty300 : aggOf Tryz.prog 122 = some true := by kernel_rfl
theorem ty301 : strOf Tryz.prog 122 = false := by kernel_rfl
theorem ty302 : isSlice Tryz.prog 122 = false := by kernel_rfl
theorem ty303 : isBool Tryz.prog 122 = false := by kernel_rfl
theorem ty304 : intOf' Tryz.prog 122 = none := by kernel_rfl
theorem ty305 : elemOf Tryz.prog 122 = none := by kernel_rfl
theorem ty306 : zeroOf Tryz.prog 122 = some (.agg #[.int .i64 0, .slice none 0 0, .slice none 0 0]) := by kernel_rfl
theorem ty307 : fldOf Tryz.prog 122 0 = some (0, 3) := by kernel_rfl
theorem ty308 : fldOf Tryz.prog 122 1 = some (1, 25) := by kernel_rfl
theorem ty309 : placesOf Tryz.prog 122 = some [(0, 1), (1, 2)] := by kernel_rfl
theorem ty310 : szOf Tryz.prog 149 = some 1 := by kernel_rfl
theorem ty311 : aggOf Tryz.prog 149 = some false := by kernel_rfl
theorem ty312 : strOf Tryz.prog 149 = false := by kernel_rfl
theorem ty313 : isSlice Tryz.prog 149 = false := by kernel_rfl
theorem ty314 : isBool Tryz.prog 149 = false := by kernel_rfl
theorem ty315 : intOf' Tryz.prog 149 = some .u32 := by kernel_rfl
theorem ty316 : elemOf Tryz.prog 149 = none := by kernel_rfl
theorem ty317 : zeroOf Tryz.prog 149 = some (.int .u32 0) := by kernel_rfl
theorem ty318 : szOf Tryz.prog 151 = some 1 := by kernel_rfl
theorem ty319 : aggOf Tryz.prog 151 = some false := by kernel_rfl
theorem ty320 : strOf Tryz.prog 151 = false := by kernel_rfl
theorem ty321 : isSlice Tryz.prog 151 = false := by kernel_rfl
theorem ty322 : isBool Tryz.prog 151 = false := by kernel_rfl
theorem ty323 : intOf' Tryz.prog 151 = some .u64 := by kernel_rfl
theorem ty324 : elemOf Tryz.prog 151 = none := by kernel_rfl
theorem ty325 : zeroOf Tryz.prog 151 = some (.int .u64 0) := by kernel_rfl
theorem ty326 : szOf Tryz.prog 152 = some 1 := by kernel_rfl
theorem ty327 : aggOf Tryz.prog 152 = some false := by kernel_rfl
theorem ty328 : strOf Tryz.prog 152 = false := by kernel_rfl
theorem ty329 : isSlice Tryz.prog 152 = true := by kernel_rfl
theorem ty330 : isBool Tryz.prog 152 = false := by kernel_rfl
theorem ty331 : intOf' Tryz.prog 152 = none := by kernel_rfl
theorem ty332 : elemOf Tryz.prog 152 = some 5 := by kernel_rfl
theorem ty333 : zeroOf Tryz.prog 152 = some (.slice none 0 0) := by kernel_rfl
theorem ty334 : elOf Tryz.prog 152 = some (5, 1, 1, [.int .u8 0]) := by kernel_rfl
theorem ty335 : szOf Tryz.prog 170 = some 1 := by kernel_rfl
theorem ty336 : aggOf Tryz.prog 170 = some false := by kernel_rfl
theorem ty337 : szOf Tryz.prog 178 = some 1 := by kernel_rfl
theorem ty338 : aggOf Tryz.prog 178 = some false := by kernel_rfl
theorem ty339 : szOf Tryz.prog 187 = some 1 := by kernel_rfl
theorem ty340 : aggOf Tryz.prog 187 = some false := by kernel_rfl
theorem ty341 : szOf Tryz.prog 197 = some 1 := by kernel_rfl
theorem ty342 : aggOf Tryz.prog 197 = some false := by kernel_rfl
theorem tys0 : (szOf Tryz.prog 2 = some 1) ∧ (aggOf Tryz.prog 2 = some false) ∧ (strOf Tryz.prog 2 = false) ∧ (isSlice Tryz.prog 2 = false) ∧ (isBool Tryz.prog 2 = false) ∧ (intOf' Tryz.prog 2 = some .i64) ∧ (elemOf Tryz.prog 2 = none) ∧ (zeroOf Tryz.prog 2 = some (.int .i64 0)) ∧ (szOf Tryz.prog 3 = some 1) ∧ (aggOf Tryz.prog 3 = some false) ∧ (strOf Tryz.prog 3 = false) ∧ (isSlice Tryz.prog 3 = false) ∧ (isBool Tryz.prog 3 = false) ∧ (intOf' Tryz.prog 3 = some .i64) ∧ (elemOf Tryz.prog 3 = none) ∧ (zeroOf Tryz.prog 3 = some (.int .i64 0)) ∧ (szOf Tryz.prog 4 = some 1) ∧ (aggOf Tryz.prog 4 = some false) ∧ (strOf Tryz.prog 4 = false) ∧ (isSlice Tryz.prog 4 = false) ∧ (isBool Tryz.prog 4 = true) ∧ (intOf' Tryz.prog 4 = none) ∧ (elemOf Tryz.prog 4 = none) ∧ (zeroOf Tryz.prog 4 = some (.bool false)) ∧ (szOf Tryz.prog 5 = some 1) ∧ (aggOf Tryz.prog 5 = some false) ∧ (strOf Tryz.prog 5 = false) ∧ (isSlice Tryz.prog 5 = false) ∧ (isBool Tryz.prog 5 = false) ∧ (intOf' Tryz.prog 5 = some .u8) ∧ (elemOf Tryz.prog 5 = none) ∧ (zeroOf Tryz.prog 5 = some (.int .u8 0)) ∧ (szOf Tryz.prog 9 = some 1) ∧ (aggOf Tryz.prog 9 = some false) ∧ (strOf Tryz.prog 9 = true) ∧ (isSlice Tryz.prog 9 = false) ∧ (isBool Tryz.prog 9 = false) ∧ (intOf' Tryz.prog 9 = none) ∧ (elemOf Tryz.prog 9 = none) ∧ (zeroOf Tryz.prog 9 = some (.string ⟨#[]⟩)) := ⟨ty0, ty1, ty2, ty3, ty4, ty5, ty6, ty7, ty8, ty9, ty10, ty11, ty12, ty13, ty14, ty15, ty16, ty17, ty18, ty19, ty20, ty21, ty22, ty23, ty24, ty25, ty26, ty27, ty28, ty29, ty30, ty31, ty32, ty33, ty34, ty35, ty36, ty37, ty38, ty39⟩
theorem tys1 : (szOf Tryz.prog 12 = some 1) ∧ (aggOf Tryz.prog 12 = some false) ∧ (strOf Tryz.prog 12 = false) ∧ (isSlice Tryz.prog 12 = false) ∧ (isBool Tryz.prog 12 = false) ∧ (intOf' Tryz.prog 12 = some .u64) ∧ (elemOf Tryz.prog 12 = none) ∧ (zeroOf Tryz.prog 12 = some (.int .u64 0)) ∧ (szOf Tryz.prog 15 = some 1) ∧ (aggOf Tryz.prog 15 = some false) ∧ (szOf Tryz.prog 16 = some 1) ∧ (aggOf Tryz.prog 16 = some false) ∧ (szOf Tryz.prog 17 = some 1) ∧ (aggOf Tryz.prog 17 = some false) ∧ (szOf Tryz.prog 21 = some 1) ∧ (aggOf Tryz.prog 21 = some false) ∧ (strOf Tryz.prog 21 = false) ∧ (isSlice Tryz.prog 21 = false) ∧ (isBool Tryz.prog 21 = false) ∧ (intOf' Tryz.prog 21 = some .i32) ∧ (elemOf Tryz.prog 21 = none) ∧ (zeroOf Tryz.prog 21 = some (.int .i32 0)) ∧ (szOf Tryz.prog 22 = some 1) ∧ (aggOf Tryz.prog 22 = some false) ∧ (strOf Tryz.prog 22 = false) ∧ (isSlice Tryz.prog 22 = true) ∧ (isBool Tryz.prog 22 = false) ∧ (intOf' Tryz.prog 22 = none) ∧ (elemOf Tryz.prog 22 = some 98) ∧ (zeroOf Tryz.prog 22 = some (.slice none 0 0)) ∧ (elOf Tryz.prog 22 = some (98, 5, 56, [.int .i64 0, .int .i64 0, .int .i64 0, .int .i64 0, .slice none 0 0])) ∧ (szOf Tryz.prog 23 = some 1) ∧ (aggOf Tryz.prog 23 = some false) ∧ (strOf Tryz.prog 23 = false) ∧ (isSlice Tryz.prog 23 = true) ∧ (isBool Tryz.prog 23 = false) ∧ (intOf' Tryz.prog 23 = none) ∧ (elemOf Tryz.prog 23 = some 9) ∧ (zeroOf Tryz.prog 23 = some (.slice none 0 0)) ∧ (elOf Tryz.prog 23 = some (9, 1, 16, [.string ⟨#[]⟩])) := ⟨ty40, ty41, ty42, ty43, ty44, ty45, ty46, ty47, ty48, ty49, ty50, ty51, ty52, ty53, ty54, ty55, ty56, ty57, ty58, ty59, ty60, ty61, ty62, ty63, ty64, ty65, ty66, ty67, ty68, ty69, ty70, ty71, ty72, ty73, ty74, ty75, ty76, ty77, ty78, ty79⟩
theorem tys2 : (szOf Tryz.prog 25 = some 2) ∧ (aggOf Tryz.prog 25 = some true) ∧ (strOf Tryz.prog 25 = false) ∧ (isSlice Tryz.prog 25 = false) ∧ (isBool Tryz.prog 25 = false) ∧ (intOf' Tryz.prog 25 = none) ∧ (elemOf Tryz.prog 25 = none) ∧ (zeroOf Tryz.prog 25 = some (.agg #[.slice none 0 0, .slice none 0 0])) ∧ (fldOf Tryz.prog 25 0 = some (0, 22)) ∧ (fldOf Tryz.prog 25 1 = some (1, 23)) ∧ (placesOf Tryz.prog 25 = some [(0, 1), (1, 1)]) ∧ (szOf Tryz.prog 27 = some 1) ∧ (aggOf Tryz.prog 27 = some false) ∧ (strOf Tryz.prog 27 = false) ∧ (isSlice Tryz.prog 27 = true) ∧ (isBool Tryz.prog 27 = false) ∧ (intOf' Tryz.prog 27 = none) ∧ (elemOf Tryz.prog 27 = some 72) ∧ (zeroOf Tryz.prog 27 = some (.slice none 0 0)) ∧ (elOf Tryz.prog 27 = some (72, 4, 48, [.string ⟨#[]⟩, .int .i64 0, .string ⟨#[]⟩, .int .i64 0])) ∧ (szOf Tryz.prog 29 = some 1) ∧ (aggOf Tryz.prog 29 = some true) ∧ (strOf Tryz.prog 29 = false) ∧ (isSlice Tryz.prog 29 = false) ∧ (isBool Tryz.prog 29 = false) ∧ (intOf' Tryz.prog 29 = none) ∧ (elemOf Tryz.prog 29 = none) ∧ (zeroOf Tryz.prog 29 = some (.agg #[.slice none 0 0])) ∧ (fldOf Tryz.prog 29 0 = some (0, 27)) ∧ (placesOf Tryz.prog 29 = some [(0, 1)]) ∧ (szOf Tryz.prog 31 = some 1) ∧ (aggOf Tryz.prog 31 = some false) ∧ (strOf Tryz.prog 31 = false) ∧ (isSlice Tryz.prog 31 = true) ∧ (isBool Tryz.prog 31 = false) ∧ (intOf' Tryz.prog 31 = none) ∧ (elemOf Tryz.prog 31 = some 101) ∧ (zeroOf Tryz.prog 31 = some (.slice none 0 0)) ∧ (elOf Tryz.prog 31 = some (101, 5, 56, [.int .i64 0, .int .i64 0, .int .i64 0, .int .i64 0, .slice none 0 0])) ∧ (szOf Tryz.prog 33 = some 2) := ⟨ty80, ty81, ty82, ty83, ty84, ty85, ty86, ty87, ty88, ty89, ty90, ty91, ty92, ty93, ty94, ty95, ty96, ty97, ty98, ty99, ty100, ty101, ty102, ty103, ty104, ty105, ty106, ty107, ty108, ty109, ty110, ty111, ty112, ty113, ty114, ty115, ty116, ty117, ty118, ty119⟩
theorem tys3 : (aggOf Tryz.prog 33 = some true) ∧ (strOf Tryz.prog 33 = false) ∧ (isSlice Tryz.prog 33 = false) ∧ (isBool Tryz.prog 33 = false) ∧ (intOf' Tryz.prog 33 = none) ∧ (elemOf Tryz.prog 33 = none) ∧ (zeroOf Tryz.prog 33 = some (.agg #[.slice none 0 0, .slice none 0 0])) ∧ (fldOf Tryz.prog 33 0 = some (0, 31)) ∧ (fldOf Tryz.prog 33 1 = some (1, 23)) ∧ (placesOf Tryz.prog 33 = some [(0, 1), (1, 1)]) ∧ (szOf Tryz.prog 40 = some 1) ∧ (aggOf Tryz.prog 40 = some false) ∧ (strOf Tryz.prog 40 = false) ∧ (isSlice Tryz.prog 40 = true) ∧ (isBool Tryz.prog 40 = false) ∧ (intOf' Tryz.prog 40 = none) ∧ (elemOf Tryz.prog 40 = some 122) ∧ (zeroOf Tryz.prog 40 = some (.slice none 0 0)) ∧ (elOf Tryz.prog 40 = some (122, 3, 56, [.int .i64 0, .slice none 0 0, .slice none 0 0])) ∧ (szOf Tryz.prog 42 = some 7) ∧ (aggOf Tryz.prog 42 = some true) ∧ (strOf Tryz.prog 42 = false) ∧ (isSlice Tryz.prog 42 = false) ∧ (isBool Tryz.prog 42 = false) ∧ (intOf' Tryz.prog 42 = none) ∧ (elemOf Tryz.prog 42 = none) ∧ (zeroOf Tryz.prog 42 = some (.agg #[.bool false, .bool false, .int .i64 0, .int .i64 0, .string ⟨#[]⟩, .int .i64 0, .int .i64 0])) ∧ (fldOf Tryz.prog 42 0 = some (0, 4)) ∧ (fldOf Tryz.prog 42 1 = some (1, 4)) ∧ (fldOf Tryz.prog 42 2 = some (2, 3)) ∧ (fldOf Tryz.prog 42 3 = some (3, 3)) ∧ (fldOf Tryz.prog 42 4 = some (4, 9)) ∧ (fldOf Tryz.prog 42 5 = some (5, 3)) ∧ (fldOf Tryz.prog 42 6 = some (6, 3)) ∧ (placesOf Tryz.prog 42 = some [(0, 1), (1, 1), (2, 1), (3, 1), (4, 1), (5, 1), (6, 1)]) ∧ (eqKs Tryz.prog 42 = some [.bool, .bool, .int, .int, .str, .int, .int]) ∧ (szOf Tryz.prog 44 = some 10) ∧ (aggOf Tryz.prog 44 = some true) ∧ (strOf Tryz.prog 44 = false) ∧ (isSlice Tryz.prog 44 = false) := ⟨ty120, ty121, ty122, ty123, ty124, ty125, ty126, ty127, ty128, ty129, ty130, ty131, ty132, ty133, ty134, ty135, ty136, ty137, ty138, ty139, ty140, ty141, ty142, ty143, ty144, ty145, ty146, ty147, ty148, ty149, ty150, ty151, ty152, ty153, ty154, ty155, ty156, ty157, ty158, ty159⟩
theorem tys4 : (isBool Tryz.prog 44 = false) ∧ (intOf' Tryz.prog 44 = none) ∧ (elemOf Tryz.prog 44 = none) ∧ (zeroOf Tryz.prog 44 = some (.agg #[.int .i64 0, .int .i64 0, .slice none 0 0, .bool false, .bool false, .int .i64 0, .int .i64 0, .string ⟨#[]⟩, .int .i64 0, .int .i64 0])) ∧ (fldOf Tryz.prog 44 0 = some (0, 3)) ∧ (fldOf Tryz.prog 44 1 = some (1, 3)) ∧ (fldOf Tryz.prog 44 2 = some (2, 40)) ∧ (fldOf Tryz.prog 44 3 = some (3, 42)) ∧ (placesOf Tryz.prog 44 = some [(0, 1), (1, 1), (2, 1), (3, 7)]) ∧ (szOf Tryz.prog 47 = some 1) ∧ (aggOf Tryz.prog 47 = some false) ∧ (strOf Tryz.prog 47 = false) ∧ (isSlice Tryz.prog 47 = true) ∧ (isBool Tryz.prog 47 = false) ∧ (intOf' Tryz.prog 47 = none) ∧ (elemOf Tryz.prog 47 = some 84) ∧ (zeroOf Tryz.prog 47 = some (.slice none 0 0)) ∧ (elOf Tryz.prog 47 = some (84, 3, 56, [.int .i64 0, .slice none 0 0, .slice none 0 0])) ∧ (szOf Tryz.prog 48 = some 7) ∧ (aggOf Tryz.prog 48 = some true) ∧ (strOf Tryz.prog 48 = false) ∧ (isSlice Tryz.prog 48 = false) ∧ (isBool Tryz.prog 48 = false) ∧ (intOf' Tryz.prog 48 = none) ∧ (elemOf Tryz.prog 48 = none) ∧ (zeroOf Tryz.prog 48 = some (.agg #[.bool false, .bool false, .int .i64 0, .int .i64 0, .string ⟨#[]⟩, .int .i64 0, .int .i64 0])) ∧ (fldOf Tryz.prog 48 0 = some (0, 4)) ∧ (fldOf Tryz.prog 48 1 = some (1, 4)) ∧ (fldOf Tryz.prog 48 2 = some (2, 3)) ∧ (fldOf Tryz.prog 48 3 = some (3, 3)) ∧ (fldOf Tryz.prog 48 4 = some (4, 9)) ∧ (fldOf Tryz.prog 48 5 = some (5, 3)) ∧ (fldOf Tryz.prog 48 6 = some (6, 3)) ∧ (placesOf Tryz.prog 48 = some [(0, 1), (1, 1), (2, 1), (3, 1), (4, 1), (5, 1), (6, 1)]) ∧ (eqKs Tryz.prog 48 = some [.bool, .bool, .int, .int, .str, .int, .int]) ∧ (szOf Tryz.prog 50 = some 10) ∧ (aggOf Tryz.prog 50 = some true) ∧ (strOf Tryz.prog 50 = false) ∧ (isSlice Tryz.prog 50 = false) ∧ (isBool Tryz.prog 50 = false) := ⟨ty160, ty161, ty162, ty163, ty164, ty165, ty166, ty167, ty168, ty169, ty170, ty171, ty172, ty173, ty174, ty175, ty176, ty177, ty178, ty179, ty180, ty181, ty182, ty183, ty184, ty185, ty186, ty187, ty188, ty189, ty190, ty191, ty192, ty193, ty194, ty195, ty196, ty197, ty198, ty199⟩
theorem tys5 : (intOf' Tryz.prog 50 = none) ∧ (elemOf Tryz.prog 50 = none) ∧ (zeroOf Tryz.prog 50 = some (.agg #[.int .i64 0, .int .i64 0, .slice none 0 0, .bool false, .bool false, .int .i64 0, .int .i64 0, .string ⟨#[]⟩, .int .i64 0, .int .i64 0])) ∧ (fldOf Tryz.prog 50 0 = some (0, 3)) ∧ (fldOf Tryz.prog 50 1 = some (1, 3)) ∧ (fldOf Tryz.prog 50 2 = some (2, 47)) ∧ (fldOf Tryz.prog 50 3 = some (3, 48)) ∧ (placesOf Tryz.prog 50 = some [(0, 1), (1, 1), (2, 1), (3, 7)]) ∧ (szOf Tryz.prog 57 = some 1) ∧ (aggOf Tryz.prog 57 = some false) ∧ (strOf Tryz.prog 57 = false) ∧ (isSlice Tryz.prog 57 = true) ∧ (isBool Tryz.prog 57 = false) ∧ (intOf' Tryz.prog 57 = none) ∧ (elemOf Tryz.prog 57 = some 3) ∧ (zeroOf Tryz.prog 57 = some (.slice none 0 0)) ∧ (elOf Tryz.prog 57 = some (3, 1, 8, [.int .i64 0])) ∧ (szOf Tryz.prog 72 = some 4) ∧ (aggOf Tryz.prog 72 = some true) ∧ (strOf Tryz.prog 72 = false) ∧ (isSlice Tryz.prog 72 = false) ∧ (isBool Tryz.prog 72 = false) ∧ (intOf' Tryz.prog 72 = none) ∧ (elemOf Tryz.prog 72 = none) ∧ (zeroOf Tryz.prog 72 = some (.agg #[.string ⟨#[]⟩, .int .i64 0, .string ⟨#[]⟩, .int .i64 0])) ∧ (fldOf Tryz.prog 72 0 = some (0, 9)) ∧ (fldOf Tryz.prog 72 1 = some (1, 3)) ∧ (fldOf Tryz.prog 72 2 = some (2, 9)) ∧ (fldOf Tryz.prog 72 3 = some (3, 3)) ∧ (placesOf Tryz.prog 72 = some [(0, 1), (1, 1), (2, 1), (3, 1)]) ∧ (eqKs Tryz.prog 72 = some [.str, .int, .str, .int]) ∧ (szOf Tryz.prog 84 = some 3) ∧ (aggOf Tryz.prog 84 = some true) ∧ (strOf Tryz.prog 84 = false) ∧ (isSlice Tryz.prog 84 = false) ∧ (isBool Tryz.prog 84 = false) ∧ (intOf' Tryz.prog 84 = none) ∧ (elemOf Tryz.prog 84 = none) ∧ (zeroOf Tryz.prog 84 = some (.agg #[.int .i64 0, .slice none 0 0, .slice none 0 0])) ∧ (fldOf Tryz.prog 84 0 = some (0, 3)) := ⟨ty200, ty201, ty202, ty203, ty204, ty205, ty206, ty207, ty208, ty209, ty210, ty211, ty212, ty213, ty214, ty215, ty216, ty217, ty218, ty219, ty220, ty221, ty222, ty223, ty224, ty225, ty226, ty227, ty228, ty229, ty230, ty231, ty232, ty233, ty234, ty235, ty236, ty237, ty238, ty239⟩
theorem tys6 : (fldOf Tryz.prog 84 1 = some (1, 33)) ∧ (placesOf Tryz.prog 84 = some [(0, 1), (1, 2)]) ∧ (szOf Tryz.prog 98 = some 5) ∧ (aggOf Tryz.prog 98 = some true) ∧ (strOf Tryz.prog 98 = false) ∧ (isSlice Tryz.prog 98 = false) ∧ (isBool Tryz.prog 98 = false) ∧ (intOf' Tryz.prog 98 = none) ∧ (elemOf Tryz.prog 98 = none) ∧ (zeroOf Tryz.prog 98 = some (.agg #[.int .i64 0, .int .i64 0, .int .i64 0, .int .i64 0, .slice none 0 0])) ∧ (fldOf Tryz.prog 98 0 = some (0, 3)) ∧ (fldOf Tryz.prog 98 1 = some (1, 3)) ∧ (fldOf Tryz.prog 98 2 = some (2, 3)) ∧ (fldOf Tryz.prog 98 3 = some (3, 3)) ∧ (fldOf Tryz.prog 98 4 = some (4, 57)) ∧ (placesOf Tryz.prog 98 = some [(0, 1), (1, 1), (2, 1), (3, 1), (4, 1)]) ∧ (szOf Tryz.prog 101 = some 5) ∧ (aggOf Tryz.prog 101 = some true) ∧ (strOf Tryz.prog 101 = false) ∧ (isSlice Tryz.prog 101 = false) ∧ (isBool Tryz.prog 101 = false) ∧ (intOf' Tryz.prog 101 = none) ∧ (elemOf Tryz.prog 101 = none) ∧ (zeroOf Tryz.prog 101 = some (.agg #[.int .i64 0, .int .i64 0, .int .i64 0, .int .i64 0, .slice none 0 0])) ∧ (fldOf Tryz.prog 101 0 = some (0, 3)) ∧ (fldOf Tryz.prog 101 1 = some (1, 3)) ∧ (fldOf Tryz.prog 101 2 = some (2, 3)) ∧ (fldOf Tryz.prog 101 3 = some (3, 3)) ∧ (fldOf Tryz.prog 101 4 = some (4, 57)) ∧ (placesOf Tryz.prog 101 = some [(0, 1), (1, 1), (2, 1), (3, 1), (4, 1)]) ∧ (szOf Tryz.prog 102 = some 1) ∧ (aggOf Tryz.prog 102 = some false) ∧ (strOf Tryz.prog 102 = false) ∧ (isSlice Tryz.prog 102 = true) ∧ (isBool Tryz.prog 102 = false) ∧ (intOf' Tryz.prog 102 = none) ∧ (elemOf Tryz.prog 102 = some 106) ∧ (zeroOf Tryz.prog 102 = some (.slice none 0 0)) ∧ (elOf Tryz.prog 102 = some (106, 2, 24, [.string ⟨#[]⟩, .int .i64 0])) ∧ (szOf Tryz.prog 106 = some 2) := ⟨ty240, ty241, ty242, ty243, ty244, ty245, ty246, ty247, ty248, ty249, ty250, ty251, ty252, ty253, ty254, ty255, ty256, ty257, ty258, ty259, ty260, ty261, ty262, ty263, ty264, ty265, ty266, ty267, ty268, ty269, ty270, ty271, ty272, ty273, ty274, ty275, ty276, ty277, ty278, ty279⟩
theorem tys7 : (aggOf Tryz.prog 106 = some true) ∧ (strOf Tryz.prog 106 = false) ∧ (isSlice Tryz.prog 106 = false) ∧ (isBool Tryz.prog 106 = false) ∧ (intOf' Tryz.prog 106 = none) ∧ (elemOf Tryz.prog 106 = none) ∧ (zeroOf Tryz.prog 106 = some (.agg #[.string ⟨#[]⟩, .int .i64 0])) ∧ (fldOf Tryz.prog 106 0 = some (0, 9)) ∧ (fldOf Tryz.prog 106 1 = some (1, 3)) ∧ (placesOf Tryz.prog 106 = some [(0, 1), (1, 1)]) ∧ (eqKs Tryz.prog 106 = some [.str, .int]) ∧ (szOf Tryz.prog 115 = some 1) ∧ (aggOf Tryz.prog 115 = some false) ∧ (strOf Tryz.prog 115 = false) ∧ (isSlice Tryz.prog 115 = false) ∧ (isBool Tryz.prog 115 = false) ∧ (intOf' Tryz.prog 115 = some .u64) ∧ (elemOf Tryz.prog 115 = none) ∧ (zeroOf Tryz.prog 115 = some (.int .u64 0)) ∧ (szOf Tryz.prog 122 = some 3) ∧ (aggOf Tryz.prog 122 = some true) ∧ (strOf Tryz.prog 122 = false) ∧ (isSlice Tryz.prog 122 = false) ∧ (isBool Tryz.prog 122 = false) ∧ (intOf' Tryz.prog 122 = none) ∧ (elemOf Tryz.prog 122 = none) ∧ (zeroOf Tryz.prog 122 = some (.agg #[.int .i64 0, .slice none 0 0, .slice none 0 0])) ∧ (fldOf Tryz.prog 122 0 = some (0, 3)) ∧ (fldOf Tryz.prog 122 1 = some (1, 25)) ∧ (placesOf Tryz.prog 122 = some [(0, 1), (1, 2)]) ∧ (szOf Tryz.prog 149 = some 1) ∧ (aggOf Tryz.prog 149 = some false) ∧ (strOf Tryz.prog 149 = false) ∧ (isSlice Tryz.prog 149 = false) ∧ (isBool Tryz.prog 149 = false) ∧ (intOf' Tryz.prog 149 = some .u32) ∧ (elemOf Tryz.prog 149 = none) ∧ (zeroOf Tryz.prog 149 = some (.int .u32 0)) ∧ (szOf Tryz.prog 151 = some 1) ∧ (aggOf Tryz.prog 151 = some false) := ⟨ty280, ty281, ty282, ty283, ty284, ty285, ty286, ty287, ty288, ty289, ty290, ty291, ty292, ty293, ty294, ty295, ty296, ty297, ty298, ty299, ty300, ty301, ty302, ty303, ty304, ty305, ty306, ty307, ty308, ty309, ty310, ty311, ty312, ty313, ty314, ty315, ty316, ty317, ty318, ty319⟩
theorem tys8 : (strOf Tryz.prog 151 = false) ∧ (isSlice Tryz.prog 151 = false) ∧ (isBool Tryz.prog 151 = false) ∧ (intOf' Tryz.prog 151 = some .u64) ∧ (elemOf Tryz.prog 151 = none) ∧ (zeroOf Tryz.prog 151 = some (.int .u64 0)) ∧ (szOf Tryz.prog 152 = some 1) ∧ (aggOf Tryz.prog 152 = some false) ∧ (strOf Tryz.prog 152 = false) ∧ (isSlice Tryz.prog 152 = true) ∧ (isBool Tryz.prog 152 = false) ∧ (intOf' Tryz.prog 152 = none) ∧ (elemOf Tryz.prog 152 = some 5) ∧ (zeroOf Tryz.prog 152 = some (.slice none 0 0)) ∧ (elOf Tryz.prog 152 = some (5, 1, 1, [.int .u8 0])) ∧ (szOf Tryz.prog 170 = some 1) ∧ (aggOf Tryz.prog 170 = some false) ∧ (szOf Tryz.prog 178 = some 1) ∧ (aggOf Tryz.prog 178 = some false) ∧ (szOf Tryz.prog 187 = some 1) ∧ (aggOf Tryz.prog 187 = some false) ∧ (szOf Tryz.prog 197 = some 1) ∧ (aggOf Tryz.prog 197 = some false) := ⟨ty320, ty321, ty322, ty323, ty324, ty325, ty326, ty327, ty328, ty329, ty330, ty331, ty332, ty333, ty334, ty335, ty336, ty337, ty338, ty339, ty340, ty341, ty342⟩
theorem TY : ((szOf Tryz.prog 2 = some 1) ∧ (aggOf Tryz.prog 2 = some false) ∧ (strOf Tryz.prog 2 = false) ∧ (isSlice Tryz.prog 2 = false) ∧ (isBool Tryz.prog 2 = false) ∧ (intOf' Tryz.prog 2 = some .i64) ∧ (elemOf Tryz.prog 2 = none) ∧ (zeroOf Tryz.prog 2 = some (.int .i64 0)) ∧ (szOf Tryz.prog 3 = some 1) ∧ (aggOf Tryz.prog 3 = some false) ∧ (strOf Tryz.prog 3 = false) ∧ (isSlice Tryz.prog 3 = false) ∧ (isBool Tryz.prog 3 = false) ∧ (intOf' Tryz.prog 3 = some .i64) ∧ (elemOf Tryz.prog 3 = none) ∧ (zeroOf Tryz.prog 3 = some (.int .i64 0)) ∧ (szOf Tryz.prog 4 = some 1) ∧ (aggOf Tryz.prog 4 = some false) ∧ (strOf Tryz.prog 4 = false) ∧ (isSlice Tryz.prog 4 = false) ∧ (isBool Tryz.prog 4 = true) ∧ (intOf' Tryz.prog 4 = none) ∧ (elemOf Tryz.prog 4 = none) ∧ (zeroOf Tryz.prog 4 = some (.bool false)) ∧ (szOf Tryz.prog 5 = some 1) ∧ (aggOf Tryz.prog 5 = some false) ∧ (strOf Tryz.prog 5 = false) ∧ (isSlice Tryz.prog 5 = false) ∧ (isBool Tryz.prog 5 = false) ∧ (intOf' Tryz.prog 5 = some .u8) ∧ (elemOf Tryz.prog 5 = none) ∧ (zeroOf Tryz.prog 5 = some (.int .u8 0)) ∧ (szOf Tryz.prog 9 = some 1) ∧ (aggOf Tryz.prog 9 = some false) ∧ (strOf Tryz.prog 9 = true) ∧ (isSlice Tryz.prog 9 = false) ∧ (isBool Tryz.prog 9 = false) ∧ (intOf' Tryz.prog 9 = none) ∧ (elemOf Tryz.prog 9 = none) ∧ (zeroOf Tryz.prog 9 = some (.string ⟨#[]⟩))) ∧ ((szOf Tryz.prog 12 = some 1) ∧ (aggOf Tryz.prog 12 = some false) ∧ (strOf Tryz.prog 12 = false) ∧ (isSlice Tryz.prog 12 = false) ∧ (isBool Tryz.prog 12 = false) ∧ (intOf' Tryz.prog 12 = some .u64) ∧ (elemOf Tryz.prog 12 = none) ∧ (zeroOf Tryz.prog 12 = some (.int .u64 0)) ∧ (szOf Tryz.prog 15 = some 1) ∧ (aggOf Tryz.prog 15 = some false) ∧ (szOf Tryz.prog 16 = some 1) ∧ (aggOf Tryz.prog 16 = some false) ∧ (szOf Tryz.prog 17 = some 1) ∧ (aggOf Tryz.prog 17 = some false) ∧ (szOf Tryz.prog 21 = some 1) ∧ (aggOf Tryz.prog 21 = some false) ∧ (strOf Tryz.prog 21 = false) ∧ (isSlice Tryz.prog 21 = false) ∧ (isBool Tryz.prog 21 = false) ∧ (intOf' Tryz.prog 21 = some .i32) ∧ (elemOf Tryz.prog 21 = none) ∧ (zeroOf Tryz.prog 21 = some (.int .i32 0)) ∧ (szOf Tryz.prog 22 = some 1) ∧ (aggOf Tryz.prog 22 = some false) ∧ (strOf Tryz.prog 22 = false) ∧ (isSlice Tryz.prog 22 = true) ∧ (isBool Tryz.prog 22 = false) ∧ (intOf' Tryz.prog 22 = none) ∧ (elemOf Tryz.prog 22 = some 98) ∧ (zeroOf Tryz.prog 22 = some (.slice none 0 0)) ∧ (elOf Tryz.prog 22 = some (98, 5, 56, [.int .i64 0, .int .i64 0, .int .i64 0, .int .i64 0, .slice none 0 0])) ∧ (szOf Tryz.prog 23 = some 1) ∧ (aggOf Tryz.prog 23 = some false) ∧ (strOf Tryz.prog 23 = false) ∧ (isSlice Tryz.prog 23 = true) ∧ (isBool Tryz.prog 23 = false) ∧ (intOf' Tryz.prog 23 = none) ∧ (elemOf Tryz.prog 23 = some 9) ∧ (zeroOf Tryz.prog 23 = some (.slice none 0 0)) ∧ (elOf Tryz.prog 23 = some (9, 1, 16, [.string ⟨#[]⟩]))) ∧ ((szOf Tryz.prog 25 = some 2) ∧ (aggOf Tryz.prog 25 = some true) ∧ (strOf Tryz.prog 25 = false) ∧ (isSlice Tryz.prog 25 = false) ∧ (isBool Tryz.prog 25 = false) ∧ (intOf' Tryz.prog 25 = none) ∧ (elemOf Tryz.prog 25 = none) ∧ (zeroOf Tryz.prog 25 = some (.agg #[.slice none 0 0, .slice none 0 0])) ∧ (fldOf Tryz.prog 25 0 = some (0, 22)) ∧ (fldOf Tryz.prog 25 1 = some (1, 23)) ∧ (placesOf Tryz.prog 25 = some [(0, 1), (1, 1)]) ∧ (szOf Tryz.prog 27 = some 1) ∧ (aggOf Tryz.prog 27 = some false) ∧ (strOf Tryz.prog 27 = false) ∧ (isSlice Tryz.prog 27 = true) ∧ (isBool Tryz.prog 27 = false) ∧ (intOf' Tryz.prog 27 = none) ∧ (elemOf Tryz.prog 27 = some 72) ∧ (zeroOf Tryz.prog 27 = some (.slice none 0 0)) ∧ (elOf Tryz.prog 27 = some (72, 4, 48, [.string ⟨#[]⟩, .int .i64 0, .string ⟨#[]⟩, .int .i64 0])) ∧ (szOf Tryz.prog 29 = some 1) ∧ (aggOf Tryz.prog 29 = some true) ∧ (strOf Tryz.prog 29 = false) ∧ (isSlice Tryz.prog 29 = false) ∧ (isBool Tryz.prog 29 = false) ∧ (intOf' Tryz.prog 29 = none) ∧ (elemOf Tryz.prog 29 = none) ∧ (zeroOf Tryz.prog 29 = some (.agg #[.slice none 0 0])) ∧ (fldOf Tryz.prog 29 0 = some (0, 27)) ∧ (placesOf Tryz.prog 29 = some [(0, 1)]) ∧ (szOf Tryz.prog 31 = some 1) ∧ (aggOf Tryz.prog 31 = some false) ∧ (strOf Tryz.prog 31 = false) ∧ (isSlice Tryz.prog 31 = true) ∧ (isBool Tryz.prog 31 = false) ∧ (intOf' Tryz.prog 31 = none) ∧ (elemOf Tryz.prog 31 = some 101) ∧ (zeroOf Tryz.prog 31 = some (.slice none 0 0)) ∧ (elOf Tryz.prog 31 = some (101, 5, 56, [.int .i64 0, .int .i64 0, .int .i64 0, .int .i64 0, .slice none 0 0])) ∧ (szOf Tryz.prog 33 = some 2)) ∧ ((aggOf Tryz.prog 33 = some true) ∧ (strOf Tryz.prog 33 = false) ∧ (isSlice Tryz.prog 33 = false) ∧ (isBool Tryz.prog 33 = false) ∧ (intOf' Tryz.prog 33 = none) ∧ (elemOf Tryz.prog 33 = none) ∧ (zeroOf Tryz.prog 33 = some (.agg #[.slice none 0 0, .slice none 0 0])) ∧ (fldOf Tryz.prog 33 0 = some (0, 31)) ∧ (fldOf Tryz.prog 33 1 = some (1, 23)) ∧ (placesOf Tryz.prog 33 = some [(0, 1), (1, 1)]) ∧ (szOf Tryz.prog 40 = some 1) ∧ (aggOf Tryz.prog 40 = some false) ∧ (strOf Tryz.prog 40 = false) ∧ (isSlice Tryz.prog 40 = true) ∧ (isBool Tryz.prog 40 = false) ∧ (intOf' Tryz.prog 40 = none) ∧ (elemOf Tryz.prog 40 = some 122) ∧ (zeroOf Tryz.prog 40 = some (.slice none 0 0)) ∧ (elOf Tryz.prog 40 = some (122, 3, 56, [.int .i64 0, .slice none 0 0, .slice none 0 0])) ∧ (szOf Tryz.prog 42 = some 7) ∧ (aggOf Tryz.prog 42 = some true) ∧ (strOf Tryz.prog 42 = false) ∧ (isSlice Tryz.prog 42 = false) ∧ (isBool Tryz.prog 42 = false) ∧ (intOf' Tryz.prog 42 = none) ∧ (elemOf Tryz.prog 42 = none) ∧ (zeroOf Tryz.prog 42 = some (.agg #[.bool false, .bool false, .int .i64 0, .int .i64 0, .string ⟨#[]⟩, .int .i64 0, .int .i64 0])) ∧ (fldOf Tryz.prog 42 0 = some (0, 4)) ∧ (fldOf Tryz.prog 42 1 = some (1, 4)) ∧ (fldOf Tryz.prog 42 2 = some (2, 3)) ∧ (fldOf Tryz.prog 42 3 = some (3, 3)) ∧ (fldOf Tryz.prog 42 4 = some (4, 9)) ∧ (fldOf Tryz.prog 42 5 = some (5, 3)) ∧ (fldOf Tryz.prog 42 6 = some (6, 3)) ∧ (placesOf Tryz.prog 42 = some [(0, 1), (1, 1), (2, 1), (3, 1), (4, 1), (5, 1), (6, 1)]) ∧ (eqKs Tryz.prog 42 = some [.bool, .bool, .int, .int, .str, .int, .int]) ∧ (szOf Tryz.prog 44 = some 10) ∧ (aggOf Tryz.prog 44 = some true) ∧ (strOf Tryz.prog 44 = false) ∧ (isSlice Tryz.prog 44 = false)) ∧ ((isBool Tryz.prog 44 = false) ∧ (intOf' Tryz.prog 44 = none) ∧ (elemOf Tryz.prog 44 = none) ∧ (zeroOf Tryz.prog 44 = some (.agg #[.int .i64 0, .int .i64 0, .slice none 0 0, .bool false, .bool false, .int .i64 0, .int .i64 0, .string ⟨#[]⟩, .int .i64 0, .int .i64 0])) ∧ (fldOf Tryz.prog 44 0 = some (0, 3)) ∧ (fldOf Tryz.prog 44 1 = some (1, 3)) ∧ (fldOf Tryz.prog 44 2 = some (2, 40)) ∧ (fldOf Tryz.prog 44 3 = some (3, 42)) ∧ (placesOf Tryz.prog 44 = some [(0, 1), (1, 1), (2, 1), (3, 7)]) ∧ (szOf Tryz.prog 47 = some 1) ∧ (aggOf Tryz.prog 47 = some false) ∧ (strOf Tryz.prog 47 = false) ∧ (isSlice Tryz.prog 47 = true) ∧ (isBool Tryz.prog 47 = false) ∧ (intOf' Tryz.prog 47 = none) ∧ (elemOf Tryz.prog 47 = some 84) ∧ (zeroOf Tryz.prog 47 = some (.slice none 0 0)) ∧ (elOf Tryz.prog 47 = some (84, 3, 56, [.int .i64 0, .slice none 0 0, .slice none 0 0])) ∧ (szOf Tryz.prog 48 = some 7) ∧ (aggOf Tryz.prog 48 = some true) ∧ (strOf Tryz.prog 48 = false) ∧ (isSlice Tryz.prog 48 = false) ∧ (isBool Tryz.prog 48 = false) ∧ (intOf' Tryz.prog 48 = none) ∧ (elemOf Tryz.prog 48 = none) ∧ (zeroOf Tryz.prog 48 = some (.agg #[.bool false, .bool false, .int .i64 0, .int .i64 0, .string ⟨#[]⟩, .int .i64 0, .int .i64 0])) ∧ (fldOf Tryz.prog 48 0 = some (0, 4)) ∧ (fldOf Tryz.prog 48 1 = some (1, 4)) ∧ (fldOf Tryz.prog 48 2 = some (2, 3)) ∧ (fldOf Tryz.prog 48 3 = some (3, 3)) ∧ (fldOf Tryz.prog 48 4 = some (4, 9)) ∧ (fldOf Tryz.prog 48 5 = some (5, 3)) ∧ (fldOf Tryz.prog 48 6 = some (6, 3)) ∧ (placesOf Tryz.prog 48 = some [(0, 1), (1, 1), (2, 1), (3, 1), (4, 1), (5, 1), (6, 1)]) ∧ (eqKs Tryz.prog 48 = some [.bool, .bool, .int, .int, .str, .int, .int]) ∧ (szOf Tryz.prog 50 = some 10) ∧ (aggOf Tryz.prog 50 = some true) ∧ (strOf Tryz.prog 50 = false) ∧ (isSlice Tryz.prog 50 = false) ∧ (isBool Tryz.prog 50 = false)) ∧ ((intOf' Tryz.prog 50 = none) ∧ (elemOf Tryz.prog 50 = none) ∧ (zeroOf Tryz.prog 50 = some (.agg #[.int .i64 0, .int .i64 0, .slice none 0 0, .bool false, .bool false, .int .i64 0, .int .i64 0, .string ⟨#[]⟩, .int .i64 0, .int .i64 0])) ∧ (fldOf Tryz.prog 50 0 = some (0, 3)) ∧ (fldOf Tryz.prog 50 1 = some (1, 3)) ∧ (fldOf Tryz.prog 50 2 = some (2, 47)) ∧ (fldOf Tryz.prog 50 3 = some (3, 48)) ∧ (placesOf Tryz.prog 50 = some [(0, 1), (1, 1), (2, 1), (3, 7)]) ∧ (szOf Tryz.prog 57 = some 1) ∧ (aggOf Tryz.prog 57 = some false) ∧ (strOf Tryz.prog 57 = false) ∧ (isSlice Tryz.prog 57 = true) ∧ (isBool Tryz.prog 57 = false) ∧ (intOf' Tryz.prog 57 = none) ∧ (elemOf Tryz.prog 57 = some 3) ∧ (zeroOf Tryz.prog 57 = some (.slice none 0 0)) ∧ (elOf Tryz.prog 57 = some (3, 1, 8, [.int .i64 0])) ∧ (szOf Tryz.prog 72 = some 4) ∧ (aggOf Tryz.prog 72 = some true) ∧ (strOf Tryz.prog 72 = false) ∧ (isSlice Tryz.prog 72 = false) ∧ (isBool Tryz.prog 72 = false) ∧ (intOf' Tryz.prog 72 = none) ∧ (elemOf Tryz.prog 72 = none) ∧ (zeroOf Tryz.prog 72 = some (.agg #[.string ⟨#[]⟩, .int .i64 0, .string ⟨#[]⟩, .int .i64 0])) ∧ (fldOf Tryz.prog 72 0 = some (0, 9)) ∧ (fldOf Tryz.prog 72 1 = some (1, 3)) ∧ (fldOf Tryz.prog 72 2 = some (2, 9)) ∧ (fldOf Tryz.prog 72 3 = some (3, 3)) ∧ (placesOf Tryz.prog 72 = some [(0, 1), (1, 1), (2, 1), (3, 1)]) ∧ (eqKs Tryz.prog 72 = some [.str, .int, .str, .int]) ∧ (szOf Tryz.prog 84 = some 3) ∧ (aggOf Tryz.prog 84 = some true) ∧ (strOf Tryz.prog 84 = false) ∧ (isSlice Tryz.prog 84 = false) ∧ (isBool Tryz.prog 84 = false) ∧ (intOf' Tryz.prog 84 = none) ∧ (elemOf Tryz.prog 84 = none) ∧ (zeroOf Tryz.prog 84 = some (.agg #[.int .i64 0, .slice none 0 0, .slice none 0 0])) ∧ (fldOf Tryz.prog 84 0 = some (0, 3))) ∧ ((fldOf Tryz.prog 84 1 = some (1, 33)) ∧ (placesOf Tryz.prog 84 = some [(0, 1), (1, 2)]) ∧ (szOf Tryz.prog 98 = some 5) ∧ (aggOf Tryz.prog 98 = some true) ∧ (strOf Tryz.prog 98 = false) ∧ (isSlice Tryz.prog 98 = false) ∧ (isBool Tryz.prog 98 = false) ∧ (intOf' Tryz.prog 98 = none) ∧ (elemOf Tryz.prog 98 = none) ∧ (zeroOf Tryz.prog 98 = some (.agg #[.int .i64 0, .int .i64 0, .int .i64 0, .int .i64 0, .slice none 0 0])) ∧ (fldOf Tryz.prog 98 0 = some (0, 3)) ∧ (fldOf Tryz.prog 98 1 = some (1, 3)) ∧ (fldOf Tryz.prog 98 2 = some (2, 3)) ∧ (fldOf Tryz.prog 98 3 = some (3, 3)) ∧ (fldOf Tryz.prog 98 4 = some (4, 57)) ∧ (placesOf Tryz.prog 98 = some [(0, 1), (1, 1), (2, 1), (3, 1), (4, 1)]) ∧ (szOf Tryz.prog 101 = some 5) ∧ (aggOf Tryz.prog 101 = some true) ∧ (strOf Tryz.prog 101 = false) ∧ (isSlice Tryz.prog 101 = false) ∧ (isBool Tryz.prog 101 = false) ∧ (intOf' Tryz.prog 101 = none) ∧ (elemOf Tryz.prog 101 = none) ∧ (zeroOf Tryz.prog 101 = some (.agg #[.int .i64 0, .int .i64 0, .int .i64 0, .int .i64 0, .slice none 0 0])) ∧ (fldOf Tryz.prog 101 0 = some (0, 3)) ∧ (fldOf Tryz.prog 101 1 = some (1, 3)) ∧ (fldOf Tryz.prog 101 2 = some (2, 3)) ∧ (fldOf Tryz.prog 101 3 = some (3, 3)) ∧ (fldOf Tryz.prog 101 4 = some (4, 57)) ∧ (placesOf Tryz.prog 101 = some [(0, 1), (1, 1), (2, 1), (3, 1), (4, 1)]) ∧ (szOf Tryz.prog 102 = some 1) ∧ (aggOf Tryz.prog 102 = some false) ∧ (strOf Tryz.prog 102 = false) ∧ (isSlice Tryz.prog 102 = true) ∧ (isBool Tryz.prog 102 = false) ∧ (intOf' Tryz.prog 102 = none) ∧ (elemOf Tryz.prog 102 = some 106) ∧ (zeroOf Tryz.prog 102 = some (.slice none 0 0)) ∧ (elOf Tryz.prog 102 = some (106, 2, 24, [.string ⟨#[]⟩, .int .i64 0])) ∧ (szOf Tryz.prog 106 = some 2)) ∧ ((aggOf Tryz.prog 106 = some true) ∧ (strOf Tryz.prog 106 = false) ∧ (isSlice Tryz.prog 106 = false) ∧ (isBool Tryz.prog 106 = false) ∧ (intOf' Tryz.prog 106 = none) ∧ (elemOf Tryz.prog 106 = none) ∧ (zeroOf Tryz.prog 106 = some (.agg #[.string ⟨#[]⟩, .int .i64 0])) ∧ (fldOf Tryz.prog 106 0 = some (0, 9)) ∧ (fldOf Tryz.prog 106 1 = some (1, 3)) ∧ (placesOf Tryz.prog 106 = some [(0, 1), (1, 1)]) ∧ (eqKs Tryz.prog 106 = some [.str, .int]) ∧ (szOf Tryz.prog 115 = some 1) ∧ (aggOf Tryz.prog 115 = some false) ∧ (strOf Tryz.prog 115 = false) ∧ (isSlice Tryz.prog 115 = false) ∧ (isBool Tryz.prog 115 = false) ∧ (intOf' Tryz.prog 115 = some .u64) ∧ (elemOf Tryz.prog 115 = none) ∧ (zeroOf Tryz.prog 115 = some (.int .u64 0)) ∧ (szOf Tryz.prog 122 = some 3) ∧ (aggOf Tryz.prog 122 = some true) ∧ (strOf Tryz.prog 122 = false) ∧ (isSlice Tryz.prog 122 = false) ∧ (isBool Tryz.prog 122 = false) ∧ (intOf' Tryz.prog 122 = none) ∧ (elemOf Tryz.prog 122 = none) ∧ (zeroOf Tryz.prog 122 = some (.agg #[.int .i64 0, .slice none 0 0, .slice none 0 0])) ∧ (fldOf Tryz.prog 122 0 = some (0, 3)) ∧ (fldOf Tryz.prog 122 1 = some (1, 25)) ∧ (placesOf Tryz.prog 122 = some [(0, 1), (1, 2)]) ∧ (szOf Tryz.prog 149 = some 1) ∧ (aggOf Tryz.prog 149 = some false) ∧ (strOf Tryz.prog 149 = false) ∧ (isSlice Tryz.prog 149 = false) ∧ (isBool Tryz.prog 149 = false) ∧ (intOf' Tryz.prog 149 = some .u32) ∧ (elemOf Tryz.prog 149 = none) ∧ (zeroOf Tryz.prog 149 = some (.int .u32 0)) ∧ (szOf Tryz.prog 151 = some 1) ∧ (aggOf Tryz.prog 151 = some false)) ∧ ((strOf Tryz.prog 151 = false) ∧ (isSlice Tryz.prog 151 = false) ∧ (isBool Tryz.prog 151 = false) ∧ (intOf' Tryz.prog 151 = some .u64) ∧ (elemOf Tryz.prog 151 = none) ∧ (zeroOf Tryz.prog 151 = some (.int .u64 0)) ∧ (szOf Tryz.prog 152 = some 1) ∧ (aggOf Tryz.prog 152 = some false) ∧ (strOf Tryz.prog 152 = false) ∧ (isSlice Tryz.prog 152 = true) ∧ (isBool Tryz.prog 152 = false) ∧ (intOf' Tryz.prog 152 = none) ∧ (elemOf Tryz.prog 152 = some 5) ∧ (zeroOf Tryz.prog 152 = some (.slice none 0 0)) ∧ (elOf Tryz.prog 152 = some (5, 1, 1, [.int .u8 0])) ∧ (szOf Tryz.prog 170 = some 1) ∧ (aggOf Tryz.prog 170 = some false) ∧ (szOf Tryz.prog 178 = some 1) ∧ (aggOf Tryz.prog 178 = some false) ∧ (szOf Tryz.prog 187 = some 1) ∧ (aggOf Tryz.prog 187 = some false) ∧ (szOf Tryz.prog 197 = some 1) ∧ (aggOf Tryz.prog 197 = some false)) := ⟨tys0, tys1, tys2, tys3, tys4, tys5, tys6, tys7, tys8⟩
theorem mixed : Tryz.prog.follows .mixedOrders = true := by kernel_rfl
attribute [simp] TY
end Go.Proofs.YtgfilbekfkhjjaaGreat.Hz
