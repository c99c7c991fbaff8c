/- What the calculus asks of the types, each fact by the kernel. Written by facts.py. -/
import Derived.Test.YtmpgpkdijfcfhaaDoorHyGBb
import Derived.Test.YtmpgpkdijfcfhaaDoorProg
namespace Go.Proofs.YtmpgpkdijfcfhaaDoor.Hz
theorem ty0 : szOf Tryd.prog 2 = some 1 := by kernel_rfl
theorem ty1 : aggOf Tryd.prog 2 = some false := by kernel_rfl
theorem ty2 : strOf Tryd.prog 2 = false := by kernel_rfl
theorem ty3 : isSlice Tryd.prog 2 = false := by kernel_rfl
theorem ty4 : isBool Tryd.prog 2 = false := by kernel_rfl
theorem ty5 : intOf' Tryd.prog 2 = some .i64 := by kernel_rfl
theorem ty6 : elemOf Tryd.prog 2 = none := by kernel_rfl
theorem ty7 : zeroOf Tryd.prog 2 = some (.int .i64 0) := by kernel_rfl
theorem ty8 : szOf Tryd.prog 3 = some 1 := by kernel_rfl
theorem ty9 : aggOf Tryd.prog 3 = some false := by kernel_rfl
theorem ty10 : strOf Tryd.prog 3 = false := by kernel_rfl
theorem ty11 : isSlice Tryd.prog 3 = false := by kernel_rfl
theorem ty12 : isBool Tryd.prog 3 = false := by kernel_rfl
theorem ty13 : intOf' Tryd.prog 3 = some .i64 := by kernel_rfl
theorem ty14 : elemOf Tryd.prog 3 = none := by kernel_rfl
theorem ty15 : zeroOf Tryd.prog 3 = some (.int .i64 0) := by kernel_rfl
theorem ty16 : szOf Tryd.prog 4 = some 1 := by kernel_rfl
theorem ty17 : aggOf Tryd.prog 4 = some false := by kernel_rfl
theorem ty18 : strOf Tryd.prog 4 = false := by kernel_rfl
theorem ty19 : isSlice Tryd.prog 4 = false := by kernel_rfl
theorem ty20 : isBool Tryd.prog 4 = true := by kernel_rfl
theorem ty21 : intOf' Tryd.prog 4 = none := by kernel_rfl
theorem ty22 : elemOf Tryd.prog 4 = none := by kernel_rfl
theorem ty23 : zeroOf Tryd.prog 4 = some (.bool false) := by kernel_rfl
theorem ty24 : szOf Tryd.prog 5 = some 1 := by kernel_rfl
theorem ty25 : aggOf Tryd.prog 5 = some false := by kernel_rfl
theorem ty26 : strOf Tryd.prog 5 = false := by kernel_rfl
theorem ty27 : isSlice Tryd.prog 5 = false := by kernel_rfl
theorem ty28 : isBool Tryd.prog 5 = false := by kernel_rfl
theorem ty29 : intOf' Tryd.prog 5 = some .u8 := by kernel_rfl
theorem ty30 : elemOf Tryd.prog 5 = none := by kernel_rfl
theorem ty31 : zeroOf Tryd.prog 5 = some (.int .u8 0) := by kernel_rfl
theorem ty32 : szOf Tryd.prog 9 = some 1 := by kernel_rfl
theorem ty33 : aggOf Tryd.prog 9 = some false := by kernel_rfl
theorem ty34 : strOf Tryd.prog 9 = true := by kernel_rfl
theorem ty35 : isSlice Tryd.prog 9 = false := by kernel_rfl
theorem ty36 : isBool Tryd.prog 9 = false := by kernel_rfl
theorem ty37 : intOf' Tryd.prog 9 = none := by kernel_rfl
theorem ty38 : elemOf Tryd.prog 9 = none := by kernel_rfl
theorem ty39 : zeroOf Tryd.prog 9 = some (.string ⟨#[]⟩) := by kernel_rfl
theorem ty40 : szOf Tryd.prog 12 = some 1 := by kernel_rfl
theorem ty41 : aggOf Tryd.prog 12 = some false := by kernel_rfl
theorem ty42 : strOf Tryd.prog 12 = false := by kernel_rfl
theorem ty43 : isSlice Tryd.prog 12 = false := by kernel_rfl
theorem ty44 : isBool Tryd.prog 12 = false := by kernel_rfl
theorem ty45 : intOf' Tryd.prog 12 = some .u64 := by kernel_rfl
theorem ty46 : elemOf Tryd.prog 12 = none := by kernel_rfl
theorem ty47 : zeroOf Tryd.prog 12 = some (.int .u64 0) := by kernel_rfl
theorem ty48 : szOf Tryd.prog 15 = some 1 := by kernel_rfl
theorem ty49 : aggOf Tryd.prog 15 = some false := by kernel_rfl
theorem ty50 : szOf Tryd.prog 16 = some 1 := by kernel_rfl
theorem ty51 : aggOf Tryd.prog 16 = some false := by kernel_rfl
theorem ty52 : szOf Tryd.prog 17 = some 1 := by kernel_rfl
theorem ty53 : aggOf Tryd.prog 17 = some false := by kernel_rfl
theorem ty54 : szOf Tryd.prog 21 = some 1 := by kernel_rfl
theorem ty55 : aggOf Tryd.prog 21 = some false := by kernel_rfl
theorem ty56 : strOf Tryd.prog 21 = false := by kernel_rfl
theorem ty57 : isSlice Tryd.prog 21 = false := by kernel_rfl
theorem ty58 : isBool Tryd.prog 21 = false := by kernel_rfl
theorem ty59 : intOf' Tryd.prog 21 = some .i32 := by kernel_rfl
theorem ty60 : elemOf Tryd.prog 21 = none := by kernel_rfl
theorem ty61 : zeroOf Tryd.prog 21 = some (.int .i32 0) := by kernel_rfl
theorem ty62 : szOf Tryd.prog 22 = some 1 := by kernel_rfl
theorem ty63 : aggOf Tryd.prog 22 = some false := by kernel_rfl
theorem ty64 : strOf Tryd.prog 22 = false := by kernel_rfl
theorem ty65 : isSlice Tryd.prog 22 = true := by kernel_rfl
theorem ty66 : isBool Tryd.prog 22 = false := by kernel_rfl
theorem ty67 : intOf' Tryd.prog 22 = none := by kernel_rfl
theorem ty68 : elemOf Tryd.prog 22 = some 40 := by kernel_rfl
theorem ty69 : zeroOf Tryd.prog 22 = some (.slice none 0 0) := by kernel_rfl
theorem ty70 : elOf Tryd.prog 22 = some (40, 4, 48, [.string ⟨#[]⟩, .int .i64 0, .string ⟨#[]⟩, .int .i64 0]) := by kernel_rfl
theorem ty71 : szOf Tryd.prog 24 = some 1 := by kernel_rfl
theorem ty72 : aggOf Tryd.prog 24 = some true := by kernel_rfl
theorem ty73 : strOf Tryd.prog 24 = false := by kernel_rfl
theorem ty74 : isSlice Tryd.prog 24 = false := by kernel_rfl
theorem ty75 : isBool Tryd.prog 24 = false := by kernel_rfl
theorem ty76 : intOf' Tryd.prog 24 = none := by kernel_rfl
theorem ty77 : elemOf Tryd.prog 24 = none := by kernel_rfl
theorem ty78 : zeroOf Tryd.prog 24 = some (.agg #[.slice none 0 0]) := by kernel_rfl
theorem ty79 : fldOf Tryd.prog 24 0 = some (0, 22) := by kernel_rfl
theorem ty80 : placesOf Tryd.prog 24 = some [(0, 1)] := by kernel_rfl
theorem ty81 : szOf Tryd.prog 27 = some 1 := by kernel_rfl
theorem ty82 : aggOf Tryd.prog 27 = some false := by kernel_rfl
theorem ty83 : strOf Tryd.prog 27 = false := by kernel_rfl
theorem ty84 : isSlice Tryd.prog 27 = true := by kernel_rfl
theorem ty85 : isBool Tryd.prog 27 = false := by kernel_rfl
theorem ty86 : intOf' Tryd.prog 27 = none := by kernel_rfl
theorem ty87 : elemOf Tryd.prog 27 = some 35 := by kernel_rfl
theorem ty88 : zeroOf Tryd.prog 27 = some (.slice none 0 0) := by kernel_rfl
theorem ty89 : elOf Tryd.prog 27 = some (35, 4, 48, [.string ⟨#[]⟩, .int .i64 0, .string ⟨#[]⟩, .int .i64 0]) := by kernel_rfl
theorem ty90 : szOf Tryd.prog 29 = some 1 := by kernel_rfl
theorem ty91 : aggOf Tryd.prog 29 = some true := by kernel_rfl
theorem ty92 : strOf Tryd.prog 29 = false := by kernel_rfl
theorem ty93 : isSlice Tryd.prog 29 = false := by kernel_rfl
theorem ty94 : isBool Tryd.prog 29 = false := by kernel_rfl
theorem ty95 : intOf' Tryd.prog 29 = none := by kernel_rfl
theorem ty96 : elemOf Tryd.prog 29 = none := by kernel_rfl
theorem ty97 : zeroOf Tryd.prog 29 = some (.agg #[.slice none 0 0]) := by kernel_rfl
theorem ty98 : fldOf Tryd.prog 29 0 = some (0, 27) := by kernel_rfl
theorem ty99 : placesOf Tryd.prog 29 = some [(0, 1)] := by kernel_rfl
theorem ty100 : szOf Tryd.prog 35 = some 4 := by kernel_rfl
theorem ty101 : aggOf Tryd.prog 35 = some true := by kernel_rfl
theorem ty102 : strOf Tryd.prog 35 = false := by kernel_rfl
theorem ty103 : isSlice Tryd.prog 35 = false := by kernel_rfl
theorem ty104 : isBool Tryd.prog 35 = false := by kernel_rfl
theorem ty105 : intOf' Tryd.prog 35 = none := by kernel_rfl
theorem ty106 : elemOf Tryd.prog 35 = none := by kernel_rfl
theorem ty107 : zeroOf Tryd.prog 35 = some (.agg #[.string ⟨#[]⟩, .int .i64 0, .string ⟨#[]⟩, .int .i64 0]) := by kernel_rfl
theorem ty108 : fldOf Tryd.prog 35 0 = some (0, 9) := by kernel_rfl
theorem ty109 : fldOf Tryd.prog 35 1 = some (1, 3) := by kernel_rfl
theorem ty110 : fldOf Tryd.prog 35 2 = some (2, 9) := by kernel_rfl
theorem ty111 : fldOf Tryd.prog 35 3 = some (3, 3) := by kernel_rfl
theorem ty112 : placesOf Tryd.prog 35 = some [(0, 1), (1, 1), (2, 1), (3, 1)] := by kernel_rfl
theorem ty113 : eqKs Tryd.prog 35 = some [.str, .int, .str, .int] := by kernel_rfl
theorem ty114 : szOf Tryd.prog 40 = some 4 := by kernel_rfl
theorem ty115 : aggOf Tryd.prog 40 = some true := by kernel_rfl
theorem ty116 : strOf Tryd.prog 40 = false := by kernel_rfl
theorem ty117 : isSlice Tryd.prog 40 = false := by kernel_rfl
theorem ty118 : isBool Tryd.prog 40 = false := by kernel_rfl
theorem ty119 : intOf' Tryd.prog 40 = none := by kernel_rfl
theorem ty120 : elemOf Tryd.prog 40 = none := by kernel_rfl
theorem ty121 : zeroOf Tryd.prog 40 = some (.agg #[.string ⟨#[]⟩, .int .i64 0, .string ⟨#[]⟩, .int .i64 0]) := by kernel_rfl
theorem ty122 : fldOf Tryd.prog 40 0 = some (0, 9) := by kernel_rfl
theorem ty123 : fldOf Tryd.prog 40 1 = some (1, 3) := by kernel_rfl
theorem ty124 : fldOf Tryd.prog 40 2 = some (2, 9) := by kernel_rfl
theorem ty125 : fldOf Tryd.prog 40 3 = some (3, 3) := by kernel_rfl
theorem ty126 : placesOf Tryd.prog 40 = some [(0, 1), (1, 1), (2, 1), (3, 1)] := by kernel_rfl
theorem ty127 : eqKs Tryd.prog 40 = some [.str, .int, .str, .int] := by kernel_rfl
theorem ty128 : szOf Tryd.prog 41 = some 1 := by kernel_rfl
theorem ty129 : aggOf Tryd.prog 41 = some false := by kernel_rfl
theorem ty130 : strOf Tryd.prog 41 = false := by kernel_rfl
theorem ty131 : isSlice Tryd.prog 41 = true := by kernel_rfl
theorem ty132 : isBool Tryd.prog 41 = false := by kernel_rfl
theorem ty133 : intOf' Tryd.prog 41 = none := by kernel_rfl
theorem ty134 : elemOf Tryd.prog 41 = some 5 := by kernel_rfl
theorem ty135 : zeroOf Tryd.prog 41 = some (.slice none 0 0) := by kernel_rfl
theorem ty136 : elOf Tryd.prog 41 = some (5, 1, 1, [.int .u8 0]) := by kernel_rfl
theorem ty137 : szOf Tryd.prog 46 = some 1 := by kernel_rfl
theorem ty138 : aggOf Tryd.prog 46 = some false := by kernel_rfl
theorem ty139 : strOf Tryd.prog 46 = false := by kernel_rfl
theorem ty140 : isSlice Tryd.prog 46 = false := by kernel_rfl
theorem ty141 : isBool Tryd.prog 46 = false := by kernel_rfl
theorem ty142 : intOf' Tryd.prog 46 = some .u64 := by kernel_rfl
theorem ty143 : elemOf Tryd.prog 46 = none := by kernel_rfl
theorem ty144 : zeroOf Tryd.prog 46 = some (.int .u64 0) := by kernel_rfl
theorem ty145 : szOf Tryd.prog 54 = some 1 := by kernel_rfl
theorem ty146 : aggOf Tryd.prog 54 = some false := by kernel_rfl
theorem ty147 : strOf Tryd.prog 54 = false := by kernel_rfl
theorem ty148 : isSlice Tryd.prog 54 = false := by kernel_rfl
theorem ty149 : isBool Tryd.prog 54 = false := by kernel_rfl
theorem ty150 : intOf' Tryd.prog 54 = some .u32 := by kernel_rfl
theorem ty151 : elemOf Tryd.prog 54 = none := by kernel_rfl
theorem ty152 : zeroOf Tryd.prog 54 = some (.int .u32 0) := by kernel_rfl
theorem ty153 : szOf Tryd.prog 57 = some 1 := by kernel_rfl
theorem ty154 : aggOf Tryd.prog 57 = some false := by kernel_rfl
theorem ty155 : strOf Tryd.prog 57 = false := by kernel_rfl
theorem ty156 : isSlice Tryd.prog 57 = false := by kernel_rfl
theorem ty157 : isBool Tryd.prog 57 = false := by kernel_rfl
theorem ty158 : intOf' Tryd.prog 57 = some .u64 := by kernel_rfl
theorem ty159 : elemOf Tryd.prog 57 = none := by kernel_rfl
theorem ty160 : zeroOf Tryd.prog 57 = some (.int .u64 0) := by kernel_rfl
theorem ty161 : szOf Tryd.prog 72 = some 1 := by kernel_rfl
theorem ty162 : aggOf Tryd.prog 72 = some false := by kernel_rfl
theorem tys0 : (szOf Tryd.prog 2 = some 1) ∧ (aggOf Tryd.prog 2 = some false) ∧ (strOf Tryd.prog 2 = false) ∧ (isSlice Tryd.prog 2 = false) ∧ (isBool Tryd.prog 2 = false) ∧ (intOf' Tryd.prog 2 = some .i64) ∧ (elemOf Tryd.prog 2 = none) ∧ (zeroOf Tryd.prog 2 = some (.int .i64 0)) ∧ (szOf Tryd.prog 3 = some 1) ∧ (aggOf Tryd.prog 3 = some false) ∧ (strOf Tryd.prog 3 = false) ∧ (isSlice Tryd.prog 3 = false) ∧ (isBool Tryd.prog 3 = false) ∧ (intOf' Tryd.prog 3 = some .i64) ∧ (elemOf Tryd.prog 3 = none) ∧ (zeroOf Tryd.prog 3 = some (.int .i64 0)) ∧ (szOf Tryd.prog 4 = some 1) ∧ (aggOf Tryd.prog 4 = some false) ∧ (strOf Tryd.prog 4 = false) ∧ (isSlice Tryd.prog 4 = false) ∧ (isBool Tryd.prog 4 = true) ∧ (intOf' Tryd.prog 4 = none) ∧ (elemOf Tryd.prog 4 = none) ∧ (zeroOf Tryd.prog 4 = some (.bool false)) ∧ (szOf Tryd.prog 5 = some 1) ∧ (aggOf Tryd.prog 5 = some false) ∧ (strOf Tryd.prog 5 = false) ∧ (isSlice Tryd.prog 5 = false) ∧ (isBool Tryd.prog 5 = false) ∧ (intOf' Tryd.prog 5 = some .u8) ∧ (elemOf Tryd.prog 5 = none) ∧ (zeroOf Tryd.prog 5 = some (.int .u8 0)) ∧ (szOf Tryd.prog 9 = some 1) ∧ (aggOf Tryd.prog 9 = some false) ∧ (strOf Tryd.prog 9 = true) ∧ (isSlice Tryd.prog 9 = false) ∧ (isBool Tryd.prog 9 = false) ∧ (intOf' Tryd.prog 9 = none) ∧ (elemOf Tryd.prog 9 = none) ∧ (zeroOf Tryd.prog 9 = some (.string ⟨#[]⟩)) := ⟨ty0, ty1, ty2, ty3, ty4, ty5, ty6, ty7, ty8, ty9, ty10, ty11, ty12, ty13, ty14, ty15, ty16, ty17, ty18, ty19, ty20, ty21, ty22, ty23, ty24, ty25, ty26, ty27, ty28, ty29, ty30, ty31, ty32, ty33, ty34, ty35, ty36, ty37, ty38, ty39⟩
theorem tys1 : (szOf Tryd.prog 12 = some 1) ∧ (aggOf Tryd.prog 12 = some false) ∧ (strOf Tryd.prog 12 = false) ∧ (isSlice Tryd.prog 12 = false) ∧ (isBool Tryd.prog 12 = false) ∧ (intOf' Tryd.prog 12 = some .u64) ∧ (elemOf Tryd.prog 12 = none) ∧ (zeroOf Tryd.prog 12 = some (.int .u64 0)) ∧ (szOf Tryd.prog 15 = some 1) ∧ (aggOf Tryd.prog 15 = some false) ∧ (szOf Tryd.prog 16 = some 1) ∧ (aggOf Tryd.prog 16 = some false) ∧ (szOf Tryd.prog 17 = some 1) ∧ (aggOf Tryd.prog 17 = some false) ∧ (szOf Tryd.prog 21 = some 1) ∧ (aggOf Tryd.prog 21 = some false) ∧ (strOf Tryd.prog 21 = false) ∧ (isSlice Tryd.prog 21 = false) ∧ (isBool Tryd.prog 21 = false) ∧ (intOf' Tryd.prog 21 = some .i32) ∧ (elemOf Tryd.prog 21 = none) ∧ (zeroOf Tryd.prog 21 = some (.int .i32 0)) ∧ (szOf Tryd.prog 22 = some 1) ∧ (aggOf Tryd.prog 22 = some false) ∧ (strOf Tryd.prog 22 = false) ∧ (isSlice Tryd.prog 22 = true) ∧ (isBool Tryd.prog 22 = false) ∧ (intOf' Tryd.prog 22 = none) ∧ (elemOf Tryd.prog 22 = some 40) ∧ (zeroOf Tryd.prog 22 = some (.slice none 0 0)) ∧ (elOf Tryd.prog 22 = some (40, 4, 48, [.string ⟨#[]⟩, .int .i64 0, .string ⟨#[]⟩, .int .i64 0])) ∧ (szOf Tryd.prog 24 = some 1) ∧ (aggOf Tryd.prog 24 = some true) ∧ (strOf Tryd.prog 24 = false) ∧ (isSlice Tryd.prog 24 = false) ∧ (isBool Tryd.prog 24 = false) ∧ (intOf' Tryd.prog 24 = none) ∧ (elemOf Tryd.prog 24 = none) ∧ (zeroOf Tryd.prog 24 = some (.agg #[.slice none 0 0])) ∧ (fldOf Tryd.prog 24 0 = some (0, 22)) := ⟨ty40, ty41, ty42, ty43, ty44, ty45, ty46, ty47, ty48, ty49, ty50, ty51, ty52, ty53, ty54, ty55, ty56, ty57, ty58, ty59, ty60, ty61, ty62, ty63, ty64, ty65, ty66, ty67, ty68, ty69, ty70, ty71, ty72, ty73, ty74, ty75, ty76, ty77, ty78, ty79⟩
theorem tys2 : (placesOf Tryd.prog 24 = some [(0, 1)]) ∧ (szOf Tryd.prog 27 = some 1) ∧ (aggOf Tryd.prog 27 = some false) ∧ (strOf Tryd.prog 27 = false) ∧ (isSlice Tryd.prog 27 = true) ∧ (isBool Tryd.prog 27 = false) ∧ (intOf' Tryd.prog 27 = none) ∧ (elemOf Tryd.prog 27 = some 35) ∧ (zeroOf Tryd.prog 27 = some (.slice none 0 0)) ∧ (elOf Tryd.prog 27 = some (35, 4, 48, [.string ⟨#[]⟩, .int .i64 0, .string ⟨#[]⟩, .int .i64 0])) ∧ (szOf Tryd.prog 29 = some 1) ∧ (aggOf Tryd.prog 29 = some true) ∧ (strOf Tryd.prog 29 = false) ∧ (isSlice Tryd.prog 29 = false) ∧ (isBool Tryd.prog 29 = false) ∧ (intOf' Tryd.prog 29 = none) ∧ (elemOf Tryd.prog 29 = none) ∧ (zeroOf Tryd.prog 29 = some (.agg #[.slice none 0 0])) ∧ (fldOf Tryd.prog 29 0 = some (0, 27)) ∧ (placesOf Tryd.prog 29 = some [(0, 1)]) ∧ (szOf Tryd.prog 35 = some 4) ∧ (aggOf Tryd.prog 35 = some true) ∧ (strOf Tryd.prog 35 = false) ∧ (isSlice Tryd.prog 35 = false) ∧ (isBool Tryd.prog 35 = false) ∧ (intOf' Tryd.prog 35 = none) ∧ (elemOf Tryd.prog 35 = none) ∧ (zeroOf Tryd.prog 35 = some (.agg #[.string ⟨#[]⟩, .int .i64 0, .string ⟨#[]⟩, .int .i64 0])) ∧ (fldOf Tryd.prog 35 0 = some (0, 9)) ∧ (fldOf Tryd.prog 35 1 = some (1, 3)) ∧ (fldOf Tryd.prog 35 2 = some (2, 9)) ∧ (fldOf Tryd.prog 35 3 = some (3, 3)) ∧ (placesOf Tryd.prog 35 = some [(0, 1), (1, 1), (2, 1), (3, 1)]) ∧ (eqKs Tryd.prog 35 = some [.str, .int, .str, .int]) ∧ (szOf Tryd.prog 40 = some 4) ∧ (aggOf Tryd.prog 40 = some true) ∧ (strOf Tryd.prog 40 = false) ∧ (isSlice Tryd.prog 40 = false) ∧ (isBool Tryd.prog 40 = false) ∧ (intOf' Tryd.prog 40 = none) := ⟨ty80, ty81, ty82, ty83, ty84, ty85, ty86, ty87, ty88, ty89, ty90, ty91, ty92, ty93, ty94, ty95, ty96, ty97, ty98, ty99, ty100, ty101, ty102, ty103, ty104, ty105, ty106, ty107, ty108, ty109, ty110, ty111, ty112, ty113, ty114, ty115, ty116, ty117, ty118, ty119⟩
theorem tys3 : (elemOf Tryd.prog 40 = none) ∧ (zeroOf Tryd.prog 40 = some (.agg #[.string ⟨#[]⟩, .int .i64 0, .string ⟨#[]⟩, .int .i64 0])) ∧ (fldOf Tryd.prog 40 0 = some (0, 9)) ∧ (fldOf Tryd.prog 40 1 = some (1, 3)) ∧ (fldOf Tryd.prog 40 2 = some (2, 9)) ∧ (fldOf Tryd.prog 40 3 = some (3, 3)) ∧ (placesOf Tryd.prog 40 = some [(0, 1), (1, 1), (2, 1), (3, 1)]) ∧ (eqKs Tryd.prog 40 = some [.str, .int, .str, .int]) ∧ (szOf Tryd.prog 41 = some 1) ∧ (aggOf Tryd.prog 41 = some false) ∧ (strOf Tryd.prog 41 = false) ∧ (isSlice Tryd.prog 41 = true) ∧ (isBool Tryd.prog 41 = false) ∧ (intOf' Tryd.prog 41 = none) ∧ (elemOf Tryd.prog 41 = some 5) ∧ (zeroOf Tryd.prog 41 = some (.slice none 0 0)) ∧ (elOf Tryd.prog 41 = some (5, 1, 1, [.int .u8 0])) ∧ (szOf Tryd.prog 46 = some 1) ∧ (aggOf Tryd.prog 46 = some false) ∧ (strOf Tryd.prog 46 = false) ∧ (isSlice Tryd.prog 46 = false) ∧ (isBool Tryd.prog 46 = false) ∧ (intOf' Tryd.prog 46 = some .u64) ∧ (elemOf Tryd.prog 46 = none) ∧ (zeroOf Tryd.prog 46 = some (.int .u64 0)) ∧ (szOf Tryd.prog 54 = some 1) ∧ (aggOf Tryd.prog 54 = some false) ∧ (strOf Tryd.prog 54 = false) ∧ (isSlice Tryd.prog 54 = false) ∧ (isBool Tryd.prog 54 = false) ∧ (intOf' Tryd.prog 54 = some .u32) ∧ (elemOf Tryd.prog 54 = none) ∧ (zeroOf Tryd.prog 54 = some (.int .u32 0)) ∧ (szOf Tryd.prog 57 = some 1) ∧ (aggOf Tryd.prog 57 = some false) ∧ (strOf Tryd.prog 57 = false) ∧ (isSlice Tryd.prog 57 = false) ∧ (isBool Tryd.prog 57 = false) ∧ (intOf' Tryd.prog 57 = some .u64) ∧ (elemOf Tryd.prog 57 = none) := ⟨ty120, ty121, ty122, ty123, ty124, ty125, ty126, ty127, ty128, ty129, ty130, ty131, ty132, ty133, ty134, ty135, ty136, ty137, ty138, ty139, ty140, ty141, ty142, ty143, ty144, ty145, ty146, ty147, ty148, ty149, ty150, ty151, ty152, ty153, ty154, ty155, ty156, ty157, ty158, ty159⟩
theorem tys4 : (zeroOf Tryd.prog 57 = some (.int .u64 0)) ∧ (szOf Tryd.prog 72 = some 1) ∧ (aggOf Tryd.prog 72 = some false) := ⟨ty160, ty161, ty162⟩
theorem TY : ((szOf Tryd.prog 2 = some 1) ∧ (aggOf Tryd.prog 2 = some false) ∧ (strOf Tryd.prog 2 = false) ∧ (isSlice Tryd.prog 2 = false) ∧ (isBool Tryd.prog 2 = false) ∧ (intOf' Tryd.prog 2 = some .i64) ∧ (elemOf Tryd.prog 2 = none) ∧ (zeroOf Tryd.prog 2 = some (.int .i64 0)) ∧ (szOf Tryd.prog 3 = some 1) ∧ (aggOf Tryd.prog 3 = some false) ∧ (strOf Tryd.prog 3 = false) ∧ (isSlice Tryd.prog 3 = false) ∧ (isBool Tryd.prog 3 = false) ∧ (intOf' Tryd.prog 3 = some .i64) ∧ (elemOf Tryd.prog 3 = none) ∧ (zeroOf Tryd.prog 3 = some (.int .i64 0)) ∧ (szOf Tryd.prog 4 = some 1) ∧ (aggOf Tryd.prog 4 = some false) ∧ (strOf Tryd.prog 4 = false) ∧ (isSlice Tryd.prog 4 = false) ∧ (isBool Tryd.prog 4 = true) ∧ (intOf' Tryd.prog 4 = none) ∧ (elemOf Tryd.prog 4 = none) ∧ (zeroOf Tryd.prog 4 = some (.bool false)) ∧ (szOf Tryd.prog 5 = some 1) ∧ (aggOf Tryd.prog 5 = some false) ∧ (strOf Tryd.prog 5 = false) ∧ (isSlice Tryd.prog 5 = false) ∧ (isBool Tryd.prog 5 = false) ∧ (intOf' Tryd.prog 5 = some .u8) ∧ (elemOf Tryd.prog 5 = none) ∧ (zeroOf Tryd.prog 5 = some (.int .u8 0)) ∧ (szOf Tryd.prog 9 = some 1) ∧ (aggOf Tryd.prog 9 = some false) ∧ (strOf Tryd.prog 9 = true) ∧ (isSlice Tryd.prog 9 = false) ∧ (isBool Tryd.prog 9 = false) ∧ (intOf' Tryd.prog 9 = none) ∧ (elemOf Tryd.prog 9 = none) ∧ (zeroOf Tryd.prog 9 = some (.string ⟨#[]⟩))) ∧ ((szOf Tryd.prog 12 = some 1) ∧ (aggOf Tryd.prog 12 = some false) ∧ (strOf Tryd.prog 12 = false) ∧ (isSlice Tryd.prog 12 = false) ∧ (isBool Tryd.prog 12 = false) ∧ (intOf' Tryd.prog 12 = some .u64) ∧ (elemOf Tryd.prog 12 = none) ∧ (zeroOf Tryd.prog 12 = some (.int .u64 0)) ∧ (szOf Tryd.prog 15 = some 1) ∧ (aggOf Tryd.prog 15 = some false) ∧ (szOf Tryd.prog 16 = some 1) ∧ (aggOf Tryd.prog 16 = some false) ∧ (szOf Tryd.prog 17 = some 1) ∧ (aggOf Tryd.prog 17 = some false) ∧ (szOf Tryd.prog 21 = some 1) ∧ (aggOf Tryd.prog 21 = some false) ∧ (strOf Tryd.prog 21 = false) ∧ (isSlice Tryd.prog 21 = false) ∧ (isBool Tryd.prog 21 = false) ∧ (intOf' Tryd.prog 21 = some .i32) ∧ (elemOf Tryd.prog 21 = none) ∧ (zeroOf Tryd.prog 21 = some (.int .i32 0)) ∧ (szOf Tryd.prog 22 = some 1) ∧ (aggOf Tryd.prog 22 = some false) ∧ (strOf Tryd.prog 22 = false) ∧ (isSlice Tryd.prog 22 = true) ∧ (isBool Tryd.prog 22 = false) ∧ (intOf' Tryd.prog 22 = none) ∧ (elemOf Tryd.prog 22 = some 40) ∧ (zeroOf Tryd.prog 22 = some (.slice none 0 0)) ∧ (elOf Tryd.prog 22 = some (40, 4, 48, [.string ⟨#[]⟩, .int .i64 0, .string ⟨#[]⟩, .int .i64 0])) ∧ (szOf Tryd.prog 24 = some 1) ∧ (aggOf Tryd.prog 24 = some true) ∧ (strOf Tryd.prog 24 = false) ∧ (isSlice Tryd.prog 24 = false) ∧ (isBool Tryd.prog 24 = false) ∧ (intOf' Tryd.prog 24 = none) ∧ (elemOf Tryd.prog 24 = none) ∧ (zeroOf Tryd.prog 24 = some (.agg #[.slice none 0 0])) ∧ (fldOf Tryd.prog 24 0 = some (0, 22))) ∧ ((placesOf Tryd.prog 24 = some [(0, 1)]) ∧ (szOf Tryd.prog 27 = some 1) ∧ (aggOf Tryd.prog 27 = some false) ∧ (strOf Tryd.prog 27 = false) ∧ (isSlice Tryd.prog 27 = true) ∧ (isBool Tryd.prog 27 = false) ∧ (intOf' Tryd.prog 27 = none) ∧ (elemOf Tryd.prog 27 = some 35) ∧ (zeroOf Tryd.prog 27 = some (.slice none 0 0)) ∧ (elOf Tryd.prog 27 = some (35, 4, 48, [.string ⟨#[]⟩, .int .i64 0, .string ⟨#[]⟩, .int .i64 0])) ∧ (szOf Tryd.prog 29 = some 1) ∧ (aggOf Tryd.prog 29 = some true) ∧ (strOf Tryd.prog 29 = false) ∧ (isSlice Tryd.prog 29 = false) ∧ (isBool Tryd.prog 29 = false) ∧ (intOf' Tryd.prog 29 = none) ∧ (elemOf Tryd.prog 29 = none) ∧ (zeroOf Tryd.prog 29 = some (.agg #[.slice none 0 0])) ∧ (fldOf Tryd.prog 29 0 = some (0, 27)) ∧ (placesOf Tryd.prog 29 = some [(0, 1)]) ∧ (szOf Tryd.prog 35 = some 4) ∧ (aggOf Tryd.prog 35 = some true) ∧ (strOf Tryd.prog 35 = false) ∧ (isSlice Tryd.prog 35 = false) ∧ (isBool Tryd.prog 35 = false) ∧ (intOf' Tryd.prog 35 = none) ∧ (elemOf Tryd.prog 35 = none) ∧ (zeroOf Tryd.prog 35 = some (.agg #[.string ⟨#[]⟩, .int .i64 0, .string ⟨#[]⟩, .int .i64 0])) ∧ (fldOf Tryd.prog 35 0 = some (0, 9)) ∧ (fldOf Tryd.prog 35 1 = some (1, 3)) ∧ (fldOf Tryd.prog 35 2 = some (2, 9)) ∧ (fldOf Tryd.prog 35 3 = some (3, 3)) ∧ (placesOf Tryd.prog 35 = some [(0, 1), (1, 1), (2, 1), (3, 1)]) ∧ (eqKs Tryd.prog 35 = some [.str, .int, .str, .int]) ∧ (szOf Tryd.prog 40 = some 4) ∧ (aggOf Tryd.prog 40 = some true) ∧ (strOf Tryd.prog 40 = false) ∧ (isSlice Tryd.prog 40 = false) ∧ (isBool Tryd.prog 40 = false) ∧ (intOf' Tryd.prog 40 = none)) ∧ ((elemOf Tryd.prog 40 = none) ∧ (zeroOf Tryd.prog 40 = some (.agg #[.string ⟨#[]⟩, .int .i64 0, .string ⟨#[]⟩, .int .i64 0])) ∧ (fldOf Tryd.prog 40 0 = some (0, 9)) ∧ (fldOf Tryd.prog 40 1 = some (1, 3)) ∧ (fldOf Tryd.prog 40 2 = some (2, 9)) ∧ (fldOf Tryd.prog 40 3 = some (3, 3)) ∧ (placesOf Tryd.prog 40 = some [(0, 1), (1, 1), (2, 1), (3, 1)]) ∧ (eqKs Tryd.prog 40 = some [.str, .int, .str, .int]) ∧ (szOf Tryd.prog 41 = some 1) ∧ (aggOf Tryd.prog 41 = some false) ∧ (strOf Tryd.prog 41 = false) ∧ (isSlice Tryd.prog 41 = true) ∧ (isBool Tryd.prog 41 = false) ∧ (intOf' Tryd.prog 41 = none) ∧ (elemOf Tryd.prog 41 = some 5) ∧ (zeroOf Tryd.prog 41 = some (.slice none 0 0)) ∧ (elOf Tryd.prog 41 = some (5, 1, 1, [.int .u8 0])) ∧ (szOf Tryd.prog 46 = some 1) ∧ (aggOf Tryd.prog 46 = some false) ∧ (strOf Tryd.prog 46 = false) ∧ (isSlice Tryd.prog 46 = false) ∧ (isBool Tryd.prog 46 = false) ∧ (intOf' Tryd.prog 46 = some .u64) ∧ (elemOf Tryd.prog 46 = none) ∧ (zeroOf Tryd.prog 46 = some (.int .u64 0)) ∧ (szOf Tryd.prog 54 = some 1) ∧ (aggOf Tryd.prog 54 = some false) ∧ (strOf Tryd.prog 54 = false) ∧ (isSlice Tryd.prog 54 = false) ∧ (isBool Tryd.prog 54 = false) ∧ (intOf' Tryd.prog 54 = some .u32) ∧ (elemOf Tryd.prog 54 = none) ∧ (zeroOf Tryd.prog 54 = some (.int .u32 0)) ∧ (szOf Tryd.prog 57 = some 1) ∧ (aggOf Tryd.prog 57 = some false) ∧ (strOf Tryd.prog 57 = false) ∧ (isSlice Tryd.prog 57 = false) ∧ (isBool Tryd.prog 57 = false) ∧ (intOf' Tryd.prog 57 = some .u64) ∧ (elemOf Tryd.prog 57 = none)) ∧ ((zeroOf Tryd.prog 57 = some (.int .u64 0)) ∧ (szOf Tryd.prog 72 = some 1) ∧ (aggOf Tryd.prog 72 = some false)) := ⟨tys0, tys1, tys2, tys3, tys4⟩
theorem mixed : Tryd.prog.follows .mixedOrders = true := by kernel_rfl
attribute [simp] TY
end Go.Proofs.YtmpgpkdijfcfhaaDoor.Hz
