/- Contracts of Go's library at this program's dump, laid by the kit's own tools (lay-shelf, lay-plain), those that are used here. -/
import Derived.Shelf.Small.Strs
import Derived.Shelf.Small.Wraps
import Derived.Shelf.Slices.CompactS
import Derived.Shelf.Sort.Plain
import Derived.Shelf.Slices.In.SortNone
import Derived.Shelf.Strings.Cut
import Derived.Shelf.Strings.LastIndex
import Derived.Shelf.Slices.Equal
import Derived.Shelf.Strings.Repeat
import Derived.Shelf.Strings.Replace
import Derived.Shelf.Strings.FieldsFuncAny
import Derived.Shelf.Strings.SlTrimAscii
import Derived.Shelf.Strings.IndexAnyAll
import Derived.Test.YtoandhhkmkgmaaaGreatDoorProg
namespace Go.Proofs
open Go.Shelf
def Tryz.lays161_ren : Go.Shelf.Ren := ⟨fun | 161 => 203 | 231 => 186 | 227 => 138 | 233 => 188 | 235 => 190 | 228 => 139 | 197 => 210 | 151 => 211 | 260 => 232 | 152 => 136 | 137 => 110 | 119 => 183 | 224 => 184 | 225 => 185 | 217 => 164 | 266 => 199 | n => n, fun | 9 => 9 | 4 => 4 | 3 => 3 | 5 => 5 | 117 => 194 | 116 => 193 | 0 => 0 | 124 => 218 | 105 => 234 | 21 => 21 | 119 => 257 | 46 => 216 | 139 => 260 | 138 => 259 | n => n, fun | 3 => 2 | 4 => 3 | n => n⟩
def Tryz.lays162_ren : Go.Shelf.Ren := ⟨fun | 162 => 219 | 232 => 187 | 227 => 138 | 234 => 189 | 236 => 191 | 228 => 139 | 271 => 212 | 151 => 211 | 120 => 233 | 197 => 210 | 152 => 136 | 260 => 232 | 137 => 110 | 119 => 183 | 224 => 184 | 225 => 185 | 217 => 164 | 266 => 199 | n => n, fun | 9 => 9 | 4 => 4 | 3 => 3 | 5 => 5 | 117 => 194 | 116 => 193 | 0 => 0 | 124 => 218 | 21 => 21 | 105 => 234 | 46 => 216 | 119 => 257 | 139 => 260 | 138 => 259 | n => n, fun | 3 => 2 | 4 => 3 | n => n⟩
def Tryz.lays160_ren : Go.Shelf.Ren := ⟨fun | 160 => 140 | 232 => 187 | 231 => 186 | 227 => 138 | 234 => 189 | 233 => 188 | 236 => 191 | 235 => 190 | 228 => 139 | 271 => 212 | 151 => 211 | 197 => 210 | 120 => 233 | 152 => 136 | 260 => 232 | 137 => 110 | 119 => 183 | 224 => 184 | 225 => 185 | 217 => 164 | 266 => 199 | n => n, fun | 9 => 9 | 4 => 4 | 3 => 3 | 5 => 5 | 117 => 194 | 116 => 193 | 0 => 0 | 124 => 218 | 21 => 21 | 105 => 234 | 46 => 216 | 119 => 257 | 139 => 260 | 138 => 259 | n => n, fun | 3 => 2 | 4 => 3 | n => n⟩
theorem Tryz.lays160 : Go.Proofs.Lays.n160 Tryz.prog Tryz.lays160_ren := {
 mixed := by kernel_rfl
 f119 := Tryz.func183.trans (congrArg some (by kernel_rfl))
 f120 := Tryz.func233.trans (congrArg some (by kernel_rfl))
 f137 := Tryz.func110.trans (congrArg some (by kernel_rfl))
 f151 := Tryz.func211.trans (congrArg some (by kernel_rfl))
 f152 := Tryz.func136.trans (congrArg some (by kernel_rfl))
 f160 := Tryz.func140.trans (congrArg some (by kernel_rfl))
 f197 := Tryz.func210.trans (congrArg some (by kernel_rfl))
 f217 := Tryz.func164.trans (congrArg some (by kernel_rfl))
 f224 := Tryz.func184.trans (congrArg some (by kernel_rfl))
 f225 := Tryz.func185.trans (congrArg some (by kernel_rfl))
 f227 := Tryz.func138.trans (congrArg some (by kernel_rfl))
 f228 := Tryz.func139.trans (congrArg some (by kernel_rfl))
 f231 := Tryz.func186.trans (congrArg some (by kernel_rfl))
 f232 := Tryz.func187.trans (congrArg some (by kernel_rfl))
 f233 := Tryz.func188.trans (congrArg some (by kernel_rfl))
 f234 := Tryz.func189.trans (congrArg some (by kernel_rfl))
 f235 := Tryz.func190.trans (congrArg some (by kernel_rfl))
 f236 := Tryz.func191.trans (congrArg some (by kernel_rfl))
 f260 := Tryz.func232.trans (congrArg some (by kernel_rfl))
 f266 := Tryz.func199.trans (congrArg some (by kernel_rfl))
 f271 := Tryz.func212.trans (congrArg some (by kernel_rfl))
 t0 := Tryz.underlying0
 a0 := Tryz.isAgg0
 z0 := Tryz.sizeOf0
 v0 := Tryz.zeroValue0
 t3 := Tryz.underlying3
 a3 := Tryz.isAgg3
 z3 := Tryz.sizeOf3
 v3 := Tryz.zeroValue3
 t4 := Tryz.underlying4
 a4 := Tryz.isAgg4
 z4 := Tryz.sizeOf4
 v4 := Tryz.zeroValue4
 t5 := Tryz.underlying5
 a5 := Tryz.isAgg5
 z5 := Tryz.sizeOf5
 v5 := Tryz.zeroValue5
 t9 := Tryz.underlying9
 a9 := Tryz.isAgg9
 z9 := Tryz.sizeOf9
 v9 := Tryz.zeroValue9
 t21 := Tryz.underlying21
 a21 := Tryz.isAgg21
 z21 := Tryz.sizeOf21
 v21 := Tryz.zeroValue21
 t46 := Tryz.underlying216
 a46 := Tryz.isAgg216
 z46 := Tryz.sizeOf216
 v46 := Tryz.zeroValue216
 t105 := Tryz.underlying234
 a105 := Tryz.isAgg234
 z105 := Tryz.sizeOf234
 v105 := Tryz.zeroValue234
 t116 := Tryz.underlying193
 a116 := Tryz.isAgg193
 z116 := Tryz.sizeOf193
 t117 := Tryz.underlying194
 a117 := Tryz.isAgg194
 z117 := Tryz.sizeOf194
 v117 := Tryz.zeroValue194
 t119 := Tryz.underlying257
 a119 := Tryz.isAgg257
 z119 := Tryz.sizeOf257
 t124 := Tryz.underlying218
 a124 := Tryz.isAgg218
 z124 := Tryz.sizeOf218
 v124 := Tryz.zeroValue218
 t138 := Tryz.underlying259
 a138 := Tryz.isAgg259
 z138 := Tryz.sizeOf259
 v138 := Tryz.zeroValue259
 t139 := Tryz.underlying260
 a139 := Tryz.isAgg260
 z139 := Tryz.sizeOf260
 v139 := Tryz.zeroValue260
 g3 := by kernel_rfl
 g4 := by kernel_rfl }
def Tryz.lays137_ren : Go.Shelf.Ren := ⟨fun | 137 => 110 | 217 => 164 | 266 => 199 | n => n, fun | 9 => 9 | 5 => 5 | 3 => 3 | n => n, fun | n => n⟩
theorem Tryz.lays137 : Go.Proofs.Lays.n137 Tryz.prog Tryz.lays137_ren := {
 mixed := by kernel_rfl
 f137 := Tryz.func110.trans (congrArg some (by kernel_rfl))
 f217 := Tryz.func164.trans (congrArg some (by kernel_rfl))
 f266 := Tryz.func199.trans (congrArg some (by kernel_rfl))
 t3 := Tryz.underlying3
 a3 := Tryz.isAgg3
 z3 := Tryz.sizeOf3
 v3 := Tryz.zeroValue3
 t5 := Tryz.underlying5
 a5 := Tryz.isAgg5
 z5 := Tryz.sizeOf5
 v5 := Tryz.zeroValue5
 t9 := Tryz.underlying9
 a9 := Tryz.isAgg9
 z9 := Tryz.sizeOf9
 v9 := Tryz.zeroValue9 }
open Go.RowKit in
/-- strings.IndexByte: "IndexByte returns the index of the first instance of c in s, or -1 if c is not present in s.": IT RETURNS 'Lib.indexByte s c'; the world is as it was. (LAID: no walk: one application.) -/
theorem Tryz.strings_IndexByte (s : ByteArray) (c : Int) (w : World) :
 Calls Tryz.prog 110 #[.string s, .int .u8 c] w fun e w' => e = .returned (.int .i64 (Lib.indexByte s.data.toList c.toNat.toUInt8)) ∧ w' = w := Any.strings_IndexByte Tryz.lays137 s c w
def Tryz.lays103_ren : Go.Shelf.Ren := ⟨fun | 103 => 52 | 210 => 107 | 206 => 162 | n => n, fun | 9 => 9 | 4 => 4 | 24 => 91 | 3 => 3 | n => n, fun | n => n⟩
theorem Tryz.lays103 : Go.Proofs.Lays.n103 Tryz.prog Tryz.lays103_ren := {
 mixed := by kernel_rfl
 f103 := Tryz.func52.trans (congrArg some (by kernel_rfl))
 f206 := Tryz.func162.trans (congrArg some (by kernel_rfl))
 f210 := Tryz.func107.trans (congrArg some (by kernel_rfl))
 t3 := Tryz.underlying3
 a3 := Tryz.isAgg3
 z3 := Tryz.sizeOf3
 v3 := Tryz.zeroValue3
 t4 := Tryz.underlying4
 a4 := Tryz.isAgg4
 z4 := Tryz.sizeOf4
 v4 := Tryz.zeroValue4
 t9 := Tryz.underlying9
 a9 := Tryz.isAgg9
 z9 := Tryz.sizeOf9
 v9 := Tryz.zeroValue9
 t24 := Tryz.underlying91
 a24 := Tryz.isAgg91
 z24 := Tryz.sizeOf91
 v24 := Tryz.zeroValue91 }
open Go.RowKit in
/-- strings.CutPrefix: "CutPrefix returns s without the provided leading prefix string and reports whether it found the prefix. If s doesn't start with prefix, CutPrefix returns s, false. If prefix is the empty string, CutPrefix returns s, true.": IT RETURNS '(Lib.trimPrefix s p, Lib.hasPrefix s p)'; the world is as it was. (LAID: no walk: one application.) -/
theorem Tryz.strings_CutPrefix (s p : ByteArray) (w : World) :
 Calls Tryz.prog 52 #[.string s, .string p] w fun e w' => e = .returned (.tuple #[.string ⟨(Lib.trimPrefix s.data.toList p.data.toList).toArray⟩, .bool (Lib.hasPrefix s.data.toList p.data.toList)]) ∧ w' = w := Any.strings_CutPrefix Tryz.lays103 s p w
def Tryz.lays145_ren : Go.Shelf.Ren := ⟨fun | 145 => 193 | 220 => 213 | 219 => 202 | 217 => 164 | 225 => 185 | 224 => 184 | 267 => 218 | 266 => 199 | 314 => 234 | n => n, fun | 9 => 9 | 4 => 4 | 59 => 126 | 3 => 3 | 5 => 5 | 46 => 216 | 146 => 249 | 51 => 248 | n => n, fun | 1 => 1 | n => n⟩
theorem Tryz.lays145 : Go.Proofs.Lays.n145 Tryz.prog Tryz.lays145_ren := {
 mixed := by kernel_rfl
 f145 := Tryz.func193.trans (congrArg some (by kernel_rfl))
 f217 := Tryz.func164.trans (congrArg some (by kernel_rfl))
 f219 := Tryz.func202.trans (congrArg some (by kernel_rfl))
 f220 := Tryz.func213.trans (congrArg some (by kernel_rfl))
 f224 := Tryz.func184.trans (congrArg some (by kernel_rfl))
 f225 := Tryz.func185.trans (congrArg some (by kernel_rfl))
 f266 := Tryz.func199.trans (congrArg some (by kernel_rfl))
 f267 := Tryz.func218.trans (congrArg some (by kernel_rfl))
 f314 := Tryz.func234.trans (congrArg some (by kernel_rfl))
 t3 := Tryz.underlying3
 a3 := Tryz.isAgg3
 z3 := Tryz.sizeOf3
 v3 := Tryz.zeroValue3
 t4 := Tryz.underlying4
 a4 := Tryz.isAgg4
 z4 := Tryz.sizeOf4
 v4 := Tryz.zeroValue4
 t5 := Tryz.underlying5
 a5 := Tryz.isAgg5
 z5 := Tryz.sizeOf5
 v5 := Tryz.zeroValue5
 t9 := Tryz.underlying9
 a9 := Tryz.isAgg9
 z9 := Tryz.sizeOf9
 v9 := Tryz.zeroValue9
 t46 := Tryz.underlying216
 a46 := Tryz.isAgg216
 z46 := Tryz.sizeOf216
 v46 := Tryz.zeroValue216
 t51 := Tryz.underlying248
 a51 := Tryz.isAgg248
 z51 := Tryz.sizeOf248
 v51 := Tryz.zeroValue248
 t59 := Tryz.underlying126
 a59 := Tryz.isAgg126
 z59 := Tryz.sizeOf126
 v59 := Tryz.zeroValue126
 t146 := Tryz.underlying249
 a146 := Tryz.isAgg249
 z146 := Tryz.sizeOf249
 v146 := Tryz.zeroValue249
 g1 := by kernel_rfl }
open Go.RowKit Go.Lib in
/-- strings.Cut: "Cut slices s around the first instance of sep, returning the text before and after sep. The found result reports whether sep appears in s. If sep does not appear in s, cut returns s, "", false.": IT RETURNS 'Lib.cut s sep'; the world is as it was but for the count of draws. (LAID: no walk: one application.) -/
theorem Tryz.strings_Cut (s sep : ByteArray) (m : Int) (w : World) (hs : s.size < 4294967281) (hm : w.cell? ⟨1, 0, none⟩ = some (.int .i64 m)) :
 Calls Tryz.prog 193 #[.string s, .string sep] w fun e w' => e = .returned (.tuple #[.string ⟨(Lib.cut s.data.toList sep.data.toList).1.toArray⟩, .string ⟨(Lib.cut s.data.toList sep.data.toList).2.1.toArray⟩, .bool (Lib.cut s.data.toList sep.data.toList).2.2]) ∧ ∃ n, w' = w.drewN n := Any.strings_Cut Tryz.lays145 s sep m w hs hm
def Tryz.lays190_ren : Go.Shelf.Ren := ⟨fun | 190 => 174 | 125 => 209 | 258 => 208 | 128 => 230 | 129 => 231 | 302 => 222 | 303 => 223 | 304 => 224 | 305 => 225 | 306 => 226 | 307 => 227 | 308 => 177 | 309 => 228 | 310 => 229 | 333 => 236 | 329 => 237 | 330 => 238 | 334 => 239 | 335 => 240 | 336 => 195 | 344 => 241 | n => n, fun | 31 => 22 | 9 => 9 | 3 => 3 | 46 => 216 | 0 => 0 | 51 => 248 | 53 => 41 | 4 => 4 | 183 => 242 | 182 => 241 | 131 => 122 | 5 => 5 | 218 => 252 | 222 => 116 | 228 => 261 | 229 => 262 | n => n, fun | n => n⟩
theorem Tryz.lays190 : Go.Proofs.Lays.n190 Tryz.prog Tryz.lays190_ren := {
 mixed := by kernel_rfl
 f125 := Tryz.func209.trans (congrArg some (by kernel_rfl))
 f128 := Tryz.func230.trans (congrArg some (by kernel_rfl))
 f129 := Tryz.func231.trans (congrArg some (by kernel_rfl))
 f190 := Tryz.func174.trans (congrArg some (by kernel_rfl))
 f258 := Tryz.func208.trans (congrArg some (by kernel_rfl))
 f302 := Tryz.func222.trans (congrArg some (by kernel_rfl))
 f303 := Tryz.func223.trans (congrArg some (by kernel_rfl))
 f304 := Tryz.func224.trans (congrArg some (by kernel_rfl))
 f305 := Tryz.func225.trans (congrArg some (by kernel_rfl))
 f306 := Tryz.func226.trans (congrArg some (by kernel_rfl))
 f307 := Tryz.func227.trans (congrArg some (by kernel_rfl))
 f308 := Tryz.func177.trans (congrArg some (by kernel_rfl))
 f309 := Tryz.func228.trans (congrArg some (by kernel_rfl))
 f310 := Tryz.func229.trans (congrArg some (by kernel_rfl))
 f329 := Tryz.func237.trans (congrArg some (by kernel_rfl))
 f330 := Tryz.func238.trans (congrArg some (by kernel_rfl))
 f333 := Tryz.func236.trans (congrArg some (by kernel_rfl))
 f334 := Tryz.func239.trans (congrArg some (by kernel_rfl))
 f335 := Tryz.func240.trans (congrArg some (by kernel_rfl))
 f336 := Tryz.func195.trans (congrArg some (by kernel_rfl))
 f344 := Tryz.func241.trans (congrArg some (by kernel_rfl))
 t0 := Tryz.underlying0
 a0 := Tryz.isAgg0
 z0 := Tryz.sizeOf0
 v0 := Tryz.zeroValue0
 t3 := Tryz.underlying3
 a3 := Tryz.isAgg3
 z3 := Tryz.sizeOf3
 v3 := Tryz.zeroValue3
 t4 := Tryz.underlying4
 a4 := Tryz.isAgg4
 z4 := Tryz.sizeOf4
 v4 := Tryz.zeroValue4
 t5 := Tryz.underlying5
 a5 := Tryz.isAgg5
 z5 := Tryz.sizeOf5
 v5 := Tryz.zeroValue5
 t9 := Tryz.underlying9
 a9 := Tryz.isAgg9
 z9 := Tryz.sizeOf9
 v9 := Tryz.zeroValue9
 t31 := Tryz.underlying22
 a31 := Tryz.isAgg22
 z31 := Tryz.sizeOf22
 v31 := Tryz.zeroValue22
 t46 := Tryz.underlying216
 a46 := Tryz.isAgg216
 z46 := Tryz.sizeOf216
 v46 := Tryz.zeroValue216
 t51 := Tryz.underlying248
 a51 := Tryz.isAgg248
 z51 := Tryz.sizeOf248
 v51 := Tryz.zeroValue248
 t53 := Tryz.underlying41
 a53 := Tryz.isAgg41
 z53 := Tryz.sizeOf41
 v53 := Tryz.zeroValue41
 t131 := Tryz.underlying122
 a131 := Tryz.isAgg122
 z131 := Tryz.sizeOf122
 v131 := Tryz.zeroValue122
 t182 := Tryz.underlying241
 a182 := Tryz.isAgg241
 z182 := Tryz.sizeOf241
 v182 := Tryz.zeroValue241
 t183 := Tryz.underlying242
 a183 := Tryz.isAgg242
 z183 := Tryz.sizeOf242
 v183 := Tryz.zeroValue242
 t218 := Tryz.underlying252
 a218 := Tryz.isAgg252
 z218 := Tryz.sizeOf252
 v218 := Tryz.zeroValue252
 t222 := Tryz.underlying116
 a222 := Tryz.isAgg116
 z222 := Tryz.sizeOf116
 v222 := Tryz.zeroValue116
 t228 := Tryz.underlying261
 a228 := Tryz.isAgg261
 z228 := Tryz.sizeOf261
 v228 := Tryz.zeroValue261
 t229 := Tryz.underlying262
 a229 := Tryz.isAgg262
 z229 := Tryz.sizeOf262
 v229 := Tryz.zeroValue262 }
open Go.Sort Go.RowKit in
theorem Tryz.slices_Sort_string (blk off cap : Nat) (ss : List (List UInt8)) (w : World) (hH : Holds encStr w blk off ss.toArray) (hblk : blk < w.heap.size) (hsz : ss.length < 4611686018427387904) :
 Calls Tryz.prog 174 #[.slice (some ⟨blk, off, none⟩) ss.length cap] w fun e w' =>
  e = .returned (.tuple #[]) ∧ ∃ n os, w' = grow (putRow encStr (Sort.ahead w n) blk off (ss.mergeSort fun x y => decide (x ≤ y)).toArray) os := Any.slices_Sort_string Tryz.lays190 blk off cap ss w hH hblk hsz
def Tryz.lays149_ren : Go.Shelf.Ren := ⟨fun | 149 => 206 | 222 => 221 | n => n, fun | 9 => 9 | 5 => 5 | 3 => 3 | 4 => 4 | n => n, fun | n => n⟩
theorem Tryz.lays149 : Go.Proofs.Lays.n149 Tryz.prog Tryz.lays149_ren := {
 mixed := by kernel_rfl
 f149 := Tryz.func206.trans (congrArg some (by kernel_rfl))
 f222 := Tryz.func221.trans (congrArg some (by kernel_rfl))
 t3 := Tryz.underlying3
 a3 := Tryz.isAgg3
 z3 := Tryz.sizeOf3
 v3 := Tryz.zeroValue3
 t4 := Tryz.underlying4
 a4 := Tryz.isAgg4
 z4 := Tryz.sizeOf4
 v4 := Tryz.zeroValue4
 t5 := Tryz.underlying5
 a5 := Tryz.isAgg5
 z5 := Tryz.sizeOf5
 v5 := Tryz.zeroValue5
 t9 := Tryz.underlying9
 a9 := Tryz.isAgg9
 z9 := Tryz.sizeOf9
 v9 := Tryz.zeroValue9 }
open Go.RowKit Go.Lib in
/-- strings.LastIndexByte: "LastIndexByte returns the index of the last instance of c in s, or -1 if c is not present in s." (LAID: no walk: one application.) -/
theorem Tryz.strings_LastIndexByte (s : ByteArray) (c : Int) (hs : s.size < 4611686018427387904) (w : World) :
 Calls Tryz.prog 206 #[.string s, .int .u8 c] w fun e w' => e = .returned (.int .i64 (Lib.lastIndexByte s c)) ∧ w' = w := Any.strings_LastIndexByte Tryz.lays149 s c hs w
def Tryz.lays153_ren : Go.Shelf.Ren := ⟨fun | 153 => 77 | 152 => 136 | 226 => 137 | 227 => 138 | 228 => 139 | 137 => 110 | 119 => 183 | 224 => 184 | 225 => 185 | 217 => 164 | 266 => 199 | n => n, fun | 9 => 9 | 3 => 3 | 4 => 4 | 5 => 5 | 21 => 21 | 117 => 194 | 116 => 193 | 0 => 0 | 46 => 216 | 124 => 218 | n => n, fun | n => n⟩
theorem Tryz.lays153 : Go.Proofs.Lays.n153 Tryz.prog Tryz.lays153_ren := {
 mixed := by kernel_rfl
 f119 := Tryz.func183.trans (congrArg some (by kernel_rfl))
 f137 := Tryz.func110.trans (congrArg some (by kernel_rfl))
 f152 := Tryz.func136.trans (congrArg some (by kernel_rfl))
 f153 := Tryz.func77.trans (congrArg some (by kernel_rfl))
 f217 := Tryz.func164.trans (congrArg some (by kernel_rfl))
 f224 := Tryz.func184.trans (congrArg some (by kernel_rfl))
 f225 := Tryz.func185.trans (congrArg some (by kernel_rfl))
 f226 := Tryz.func137.trans (congrArg some (by kernel_rfl))
 f227 := Tryz.func138.trans (congrArg some (by kernel_rfl))
 f228 := Tryz.func139.trans (congrArg some (by kernel_rfl))
 f266 := Tryz.func199.trans (congrArg some (by kernel_rfl))
 t0 := Tryz.underlying0
 a0 := Tryz.isAgg0
 z0 := Tryz.sizeOf0
 v0 := Tryz.zeroValue0
 t3 := Tryz.underlying3
 a3 := Tryz.isAgg3
 z3 := Tryz.sizeOf3
 v3 := Tryz.zeroValue3
 t4 := Tryz.underlying4
 a4 := Tryz.isAgg4
 z4 := Tryz.sizeOf4
 v4 := Tryz.zeroValue4
 t5 := Tryz.underlying5
 a5 := Tryz.isAgg5
 z5 := Tryz.sizeOf5
 v5 := Tryz.zeroValue5
 t9 := Tryz.underlying9
 a9 := Tryz.isAgg9
 z9 := Tryz.sizeOf9
 v9 := Tryz.zeroValue9
 t21 := Tryz.underlying21
 a21 := Tryz.isAgg21
 z21 := Tryz.sizeOf21
 v21 := Tryz.zeroValue21
 t46 := Tryz.underlying216
 a46 := Tryz.isAgg216
 z46 := Tryz.sizeOf216
 v46 := Tryz.zeroValue216
 t116 := Tryz.underlying193
 a116 := Tryz.isAgg193
 z116 := Tryz.sizeOf193
 t117 := Tryz.underlying194
 a117 := Tryz.isAgg194
 z117 := Tryz.sizeOf194
 v117 := Tryz.zeroValue194
 t124 := Tryz.underlying218
 a124 := Tryz.isAgg218
 z124 := Tryz.sizeOf218
 v124 := Tryz.zeroValue218 }
open Go.RowKit Go.Lib in
theorem Tryz.strings_IndexAny_long (hv116 : ∀ w, (zeroValue 193).run Tryz.prog w = .ok (.agg (Array.replicate 256 (.bool false))) w) (s chars : ByteArray) (w : World) (h2 : 2 ≤ chars.size) (h8 : 8 < s.size) (hs : s.size < 4294967281) (hcs : chars.size < 4294967281) (hascii : ∀ (j : Nat) b, chars.data.toList[j]? = some b → b.toNat < 128) :
 Calls Tryz.prog 77 #[.string s, .string chars] w fun e w' => e = .returned (.int .i64 (Lib.indexAny s.data.toList chars.data.toList)) ∧ w' = ((w.alloc (.cells (Lib.setCells chars.data.toList) 193)).alloc (.cells (Lib.setCells chars.data.toList) 193)) := Any.strings_IndexAny_long Tryz.lays153 hv116 (by kernel_rfl) s chars w h2 h8 hs hcs hascii
def Tryz.lays229_ren : Go.Shelf.Ren := ⟨fun | 229 => 148 | n => n, fun | 9 => 9 | 40 => 201 | 31 => 22 | 152 => 222 | 3 => 3 | 0 => 0 | 4 => 4 | 21 => 21 | 154 => 224 | n => n, fun | n => n⟩
theorem Tryz.lays229 : Go.Proofs.Lays.n229 Tryz.prog Tryz.lays229_ren := {
 mixed := by kernel_rfl
 f229 := Tryz.func148.trans (congrArg some (by kernel_rfl))
 t0 := Tryz.underlying0
 a0 := Tryz.isAgg0
 z0 := Tryz.sizeOf0
 v0 := Tryz.zeroValue0
 t3 := Tryz.underlying3
 a3 := Tryz.isAgg3
 z3 := Tryz.sizeOf3
 v3 := Tryz.zeroValue3
 t4 := Tryz.underlying4
 a4 := Tryz.isAgg4
 z4 := Tryz.sizeOf4
 v4 := Tryz.zeroValue4
 t9 := Tryz.underlying9
 a9 := Tryz.isAgg9
 z9 := Tryz.sizeOf9
 v9 := Tryz.zeroValue9
 t21 := Tryz.underlying21
 a21 := Tryz.isAgg21
 z21 := Tryz.sizeOf21
 v21 := Tryz.zeroValue21
 t31 := Tryz.underlying22
 a31 := Tryz.isAgg22
 z31 := Tryz.sizeOf22
 v31 := Tryz.zeroValue22
 t40 := Tryz.underlying201
 a40 := Tryz.isAgg201
 z40 := Tryz.sizeOf201
 v40 := Tryz.zeroValue201
 t152 := Tryz.underlying222
 a152 := Tryz.isAgg222
 z152 := Tryz.sizeOf222
 v152 := Tryz.zeroValue222
 t154 := Tryz.underlying224
 a154 := Tryz.isAgg224
 z154 := Tryz.sizeOf224
 v154 := Tryz.zeroValue224 }
open Go.RowKit Go.Lib in
theorem Tryz.strings_FieldsFunc_runes (g : Nat) (lb : Array Value) (eg : ∀ args w, (callFunc g args).run Tryz.prog w = .ok (.enter g args) w) (p : Nat → Bool) (s : ByteArray) (w : World) (hs : s.size ≤ 4294967296) (hp : PredAtRunes Tryz.prog g lb p w) :
 Calls Tryz.prog 148 #[.string s, .func (.func g) #[] lb] w fun e w' => ∃ A, e = .returned (.slice (some ⟨A, 0, none⟩) (Lib.goFieldsP p s).length (Lib.goFieldsP p s).length) ∧ w.heap.size ≤ A ∧
  w'.ownsRow w.heap.size 9 1 (.slice (some ⟨A, 0, none⟩) (Lib.goFieldsP p s).length (Lib.goFieldsP p s).length) (Lib.goFieldsP p s).length ((Lib.goFieldsP p s).map Value.string) ∧ Below w.heap.size w w' := Any.strings_FieldsFunc_runes Tryz.lays229 g lb eg p s w hs hp (by kernel_rfl) (by kernel_rfl)
def Tryz.lays194_ren : Go.Shelf.Ren := ⟨fun | 194 => 127 | n => n, fun | 31 => 22 | 9 => 9 | 3 => 3 | 4 => 4 | 0 => 0 | n => n, fun | n => n⟩
theorem Tryz.lays194 : Go.Proofs.Lays.n194 Tryz.prog Tryz.lays194_ren := {
 mixed := by kernel_rfl
 f194 := Tryz.func127.trans (congrArg some (by kernel_rfl))
 t0 := Tryz.underlying0
 a0 := Tryz.isAgg0
 z0 := Tryz.sizeOf0
 v0 := Tryz.zeroValue0
 t3 := Tryz.underlying3
 a3 := Tryz.isAgg3
 z3 := Tryz.sizeOf3
 v3 := Tryz.zeroValue3
 t4 := Tryz.underlying4
 a4 := Tryz.isAgg4
 z4 := Tryz.sizeOf4
 v4 := Tryz.zeroValue4
 t9 := Tryz.underlying9
 a9 := Tryz.isAgg9
 z9 := Tryz.sizeOf9
 v9 := Tryz.zeroValue9
 t31 := Tryz.underlying22
 a31 := Tryz.isAgg22
 z31 := Tryz.sizeOf22
 v31 := Tryz.zeroValue22 }
open Go.RowKit Go.Lib Go.Sort in
/-- slices.Compact at []string: "Compact replaces consecutive runs of equal elements with a single copy. This is like the uniq command found on Unix. Compact modifies the contents of the slice s and returns the modified slice, which may have a smaller length. Compact zeroes the elements between the new length and the original length. The result preserves the nilness of s.": IT RETURNS THE SLICE CUT TO 'Lib.compact zs'; ITS CELLS HOLD 'Lib.compact zs', THEN ZERO VALUES up to the old length; all else is as it was, but for the count of draws. IN THE WORDS OF slices.Sort's CONTRACT ('Holds', 'putRow'): so the everyday 'slices.Sort(xs); xs = slices.Compact(xs)' goes from the one contract to the other. It asks 'zs.length ≤ cap' (every slice's: the reslicing 's[:k]' looks at it). Length 0, nil: '.._empty'. (LAID: no walk: one application.) -/
theorem Tryz.slices_Compact_string (blk off cap : Nat) (zs : List (List UInt8)) (w : World) (hH : Holds encStr w blk off zs.toArray) (hsz : zs.length ≤ 9223372036854775807) (hcap : zs.length ≤ cap) :
 Calls Tryz.prog 127 #[.slice (some ⟨blk, off, none⟩) zs.length cap] w fun e w' => e = .returned (.slice (some ⟨blk, off, none⟩) (Lib.compact zs).length cap) ∧ ∃ q, w' = putRow encStr (Sort.ahead w q) blk off (Lib.compact zs ++ List.replicate (zs.length - (Lib.compact zs).length) []).toArray := Any.slices_Compact_string Tryz.lays194 blk off cap zs w hH hsz hcap
open Go.RowKit Go.Lib Go.Sort in
/-- The same at a slice of length 0, a nil one too: it comes back as it is. (LAID: no walk: one application.) -/
theorem Tryz.slices_Compact_string_empty (a : Option Addr) (cap : Nat) (w : World) :
 Calls Tryz.prog 127 #[.slice a 0 cap] w fun e w' => e = .returned (.slice a 0 cap) ∧ w' = w := Any.slices_Compact_string_empty Tryz.lays194 a cap w
open Go.RowKit Go.Sort in
/-- .. and plain. (LAID: no walk: one application.) -/
theorem Tryz.slices_Sort_string_none (p : Option Addr) (cap : Nat) (w : World) :
 Calls Tryz.prog 174 #[.slice p 0 cap] w fun e w' => e = .returned (.tuple #[]) ∧ w' = w := Any.slices_Sort_string_none Tryz.lays190 p cap w
end Go.Proofs
