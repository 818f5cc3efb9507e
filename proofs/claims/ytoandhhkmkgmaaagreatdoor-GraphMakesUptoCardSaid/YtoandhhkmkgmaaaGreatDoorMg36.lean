/- Contracts that the law's proof leans on, and plain lemmas to them, merged. No condition beyond each contract's own hypotheses. -/
import Derived.Shelf.Strings.IndexAnyAll
import Derived.Test.YtoandhhkmkgmaaaGreatDoorProg
import Derived.Shelf.SlIter.Nil
import Derived.Shelf.SlIter.Sorted
import Derived.Ground.GgzProg
import Derived.Test.YtoandhhkmkgmaaaGreatDoorShelf
namespace Go.Proofs
open Go.Shelf
def Tryz.laysAn150_ren : Go.Shelf.Ren := ⟨fun | 150 => 205 | 153 => 77 | 152 => 136 | 226 => 137 | 227 => 138 | 228 => 139 | 137 => 110 | 119 => 183 | 224 => 184 | 225 => 185 | 217 => 164 | 266 => 199 | n => n, fun | 9 => 9 | 4 => 4 | 3 => 3 | 5 => 5 | 21 => 21 | 117 => 194 | 116 => 193 | 0 => 0 | 46 => 216 | 124 => 218 | n => n, fun | n => n⟩
theorem Tryz.laysAn150 : Go.Proofs.Lays.n150 Tryz.prog Tryz.laysAn150_ren := {
 mixed := by kernel_rfl
 f119 := Tryz.func183.trans (congrArg some (by kernel_rfl))
 f137 := Tryz.func110.trans (congrArg some (by kernel_rfl))
 f150 := Tryz.func205.trans (congrArg some (by kernel_rfl))
 f152 := Tryz.func136.trans (congrArg some (by kernel_rfl))
 f153 := Tryz.func77.trans (congrArg some (by kernel_rfl))
 f217 := Tryz.func164.trans (congrArg some (by kernel_rfl))
 f224 := Tryz.func184.trans (congrArg some (by kernel_rfl))
 f225 := Tryz.func185.trans (congrArg some (by kernel_rfl))
 f226 := Tryz.func137.trans (congrArg some (by kernel_rfl))
 f227 := Tryz.func138.trans (congrArg some (by kernel_rfl))
 f228 := Tryz.func139.trans (congrArg some (by kernel_rfl))
 f266 := Tryz.func199.trans (congrArg some (by kernel_rfl))
 t0 := Tryz.underlying0
 a0 := Tryz.isAgg0
 z0 := Tryz.sizeOf0
 v0 := Tryz.zeroValue0
 t3 := Tryz.underlying3
 a3 := Tryz.isAgg3
 z3 := Tryz.sizeOf3
 v3 := Tryz.zeroValue3
 t4 := Tryz.underlying4
 a4 := Tryz.isAgg4
 z4 := Tryz.sizeOf4
 v4 := Tryz.zeroValue4
 t5 := Tryz.underlying5
 a5 := Tryz.isAgg5
 z5 := Tryz.sizeOf5
 v5 := Tryz.zeroValue5
 t9 := Tryz.underlying9
 a9 := Tryz.isAgg9
 z9 := Tryz.sizeOf9
 v9 := Tryz.zeroValue9
 t21 := Tryz.underlying21
 a21 := Tryz.isAgg21
 z21 := Tryz.sizeOf21
 v21 := Tryz.zeroValue21
 t46 := Tryz.underlying216
 a46 := Tryz.isAgg216
 z46 := Tryz.sizeOf216
 v46 := Tryz.zeroValue216
 t116 := Tryz.underlying193
 a116 := Tryz.isAgg193
 z116 := Tryz.sizeOf193
 t117 := Tryz.underlying194
 a117 := Tryz.isAgg194
 z117 := Tryz.sizeOf194
 v117 := Tryz.zeroValue194
 t124 := Tryz.underlying218
 a124 := Tryz.isAgg218
 z124 := Tryz.sizeOf218
 v124 := Tryz.zeroValue218 }
open Go.RowKit Go.Lib in
theorem Tryz.strings_ContainsAny (hv116 : ∀ w, (zeroValue 193).run Tryz.prog w = .ok (.agg (Array.replicate 256 (.bool false))) w) (s chars : ByteArray) (w : World) (hs : s.size < 4294967281) (hcs : chars.size < 4294967281) (has : ∀ (j : Nat) b, s.data.toList[j]? = some b → b.toNat < 128) (hac : ∀ (j : Nat) b, chars.data.toList[j]? = some b → b.toNat < 128) :
 Calls Tryz.prog 205 #[.string s, .string chars] w fun e w' => e = .returned (.bool (Lib.containsAny s.data.toList chars.data.toList)) ∧ Below w.heap.size w w' := Any.strings_ContainsAny Tryz.laysAn150 hv116 (by kernel_rfl) s chars w hs hcs has hac
end Go.Proofs
namespace Go.Proofs
open Go.Shelf
def Tryz.keys125_ren : Go.Shelf.Ren := ⟨fun | 7 => 125 | 10 => 175 | n => n, fun | 23 => 180 | 26 => 9 | 3 => 22 | 28 => 94 | 0 => 0 | 27 => 93 | 33 => 29 | 4 => 4 | n => n, fun | n => n⟩
theorem Tryz.keys125 : Go.Proofs.SlLaysZ.n7 Tryz.prog Tryz.keys125_ren := {
 mixed := by kernel_rfl
 f7 := ⟨Tryz.f125.name, by decide, Tryz.func125.trans (congrArg some (by kernel_rfl))⟩
 f10 := ⟨Tryz.f175.name, by decide, Tryz.func175.trans (congrArg some (by kernel_rfl))⟩
 t0 := Tryz.underlying0
 a0 := Tryz.isAgg0
 z0 := Tryz.sizeOf0
 v0 := Tryz.zeroValue0
 t4 := Tryz.underlying4
 a4 := Tryz.isAgg4
 z4 := Tryz.sizeOf4
 v4 := Tryz.zeroValue4
 t23 := Tryz.underlying180
 a23 := Tryz.isAgg180
 z23 := Tryz.sizeOf180
 v23 := Tryz.zeroValue180
 t26 := Tryz.underlying9
 a26 := Tryz.isAgg9
 z26 := Tryz.sizeOf9
 v26 := Tryz.zeroValue9
 t27 := Tryz.underlying93
 a27 := Tryz.isAgg93
 z27 := Tryz.sizeOf93
 v27 := Tryz.zeroValue93
 t28 := Tryz.underlying94
 a28 := Tryz.isAgg94
 z28 := Tryz.sizeOf94
 v28 := Tryz.zeroValue94
 t33 := Tryz.underlying29
 a33 := Tryz.isAgg29
 z33 := Tryz.sizeOf29
 v33 := Tryz.zeroValue29 }
def Tryz.sorted124_ren : Go.Shelf.Ren := ⟨fun | 6 => 124 | 8 => 173 | 9 => 174 | 11 => 207 | 13 => 209 | 12 => 208 | 23 => 230 | 24 => 231 | 14 => 222 | 15 => 223 | 16 => 224 | 17 => 225 | 18 => 226 | 19 => 227 | 20 => 177 | 21 => 228 | 22 => 229 | 25 => 236 | 26 => 237 | 27 => 238 | 28 => 239 | 29 => 240 | 30 => 195 | 31 => 241 | n => n, fun | 26 => 9 | 28 => 94 | 24 => 22 | 0 => 0 | 3 => 3 | 37 => 216 | 48 => 248 | 50 => 41 | 4 => 4 | 40 => 242 | 39 => 241 | 45 => 122 | 5 => 5 | 9 => 9 | 51 => 252 | 55 => 116 | 57 => 261 | 58 => 262 | 33 => 29 | n => n, fun | n => n⟩
theorem Tryz.sorted124 : Go.Proofs.SlLaysZ.n6 Tryz.prog Tryz.sorted124_ren := {
 mixed := by kernel_rfl
 f6 := ⟨Tryz.f124.name, by decide, Tryz.func124.trans (congrArg some (by kernel_rfl))⟩
 f8 := ⟨Tryz.f173.name, by decide, Tryz.func173.trans (congrArg some (by kernel_rfl))⟩
 f11 := ⟨Tryz.f207.name, by decide, Tryz.func207.trans (congrArg some (by kernel_rfl))⟩
 t0 := Tryz.underlying0
 a0 := Tryz.isAgg0
 z0 := Tryz.sizeOf0
 v0 := Tryz.zeroValue0
 t24 := Tryz.underlying22
 a24 := Tryz.isAgg22
 z24 := Tryz.sizeOf22
 v24 := Tryz.zeroValue22
 t26 := Tryz.underlying9
 a26 := Tryz.isAgg9
 z26 := Tryz.sizeOf9
 v26 := Tryz.zeroValue9
 t28 := Tryz.underlying94
 a28 := Tryz.isAgg94
 z28 := Tryz.sizeOf94
 v28 := Tryz.zeroValue94
 i26 := by kernel_rfl }
open Go.RowKit Go.Maps Go.Sort in
theorem Tryz.sorts124 (m : Nat) : AnyZ.SortsIn Tryz.prog Tryz.sorted124_ren Fence.wide m :=
 ⟨fun blk off cap ss W hH hblk hsz => callsIn_wide.2 ((Tryz.slices_Sort_string blk off cap ss W hH hblk hsz).mono fun _ _ h => h),
  fun p cap W => callsIn_wide.2 (Tryz.slices_Sort_string_none p cap W)⟩
open Go.RowKit Go.Maps Go.Sort in
theorem Tryz.maps_Keys_125 (mb : Option Nat) (W : World) : CallsIn Fence.wide 5 Tryz.prog 125 #[.map mb] W fun e w' => e = .returned (.func (.func 175) #[] #[.pointer (some ⟨W.heap.size, 0, none⟩)]) ∧ w' = W.alloc (.cells #[.map mb] 180) :=
 AnyZ.keys_in Tryz.keys125 Fence.wide 5 trivial rfl mb W
open Go.RowKit Go.Maps Go.Sort in
theorem Tryz.slices_Sorted_keys_124_125 {H : Type} (b nn : Nat) (D0 : DataW H) (R : Value → Option (DataW H × List MemPlace)) (w : World) (hown : w.ownsMap Tryz.prog 9 R b nn D0) (hmax : Maps.size D0 ≤ maxLen) (hbytes : Maps.size D0 * 16 ≤ 140737488355328) :
 CallsIn Fence.wide 5 Tryz.prog 124 #[.func (.func 175) #[] #[.pointer (some ⟨w.heap.size, 0, none⟩)]] (w.alloc (.cells #[.map (some b)] 180)) fun e w' => ∃ (v : Value) (ss : List (List UInt8)), e = .returned v ∧ ss.Perm (strKeys D0) ∧
  w'.ownsRow (w.alloc (.cells #[.map (some b)] 180)).heap.size 9 1 v ss.length ((ss.mergeSort (fun x y => decide (x ≤ y))).map encStr) ∧ (v = .slice none 0 0 ↔ ss = []) ∧ Below (w.alloc (.cells #[.map (some b)] 180)).heap.size (w.alloc (.cells #[.map (some b)] 180)) w' := by
 have hbl := hown.lt
 have hseq : SeqGives Fence.wide 2 Tryz.prog 175 #[.pointer (some ⟨w.heap.size, 0, none⟩)] encStr (fun ss => ss.Perm (strKeys D0)) (Maps.size D0) (w.alloc (.cells #[.map (some b)] 180)) :=
  AnyZ.keys_gives (ρ := Tryz.keys125_ren) { Tryz.keys125 with } Fence.wide _ trivial rfl (by omega) w.heap.size b nn D0 _ (by simp) (by simp) (by
   obtain ⟨es, clock, hb, Ft, hs, hD⟩ := hown
   exact ⟨es, clock, (Below.heap_alloc _ _ b hbl).trans hb, Ft, hs, hD⟩)
 exact AnyZ.sorted_in Tryz.sorted124 Fence.wide 5 trivial trivial trivial trivial rfl (by omega) (Tryz.sorts124 _) (enters_of Tryz.func174 (by kernel_rfl) rfl) 175 #[.pointer (some ⟨w.heap.size, 0, none⟩)] trivial (enters_of Tryz.func175 (by kernel_rfl) rfl) _ _ hmax hbytes _ hseq
end Go.Proofs
