/- Contracts of Go's library at this program's dump, laid by the kit's own tools (lay-shelf, lay-plain), those that are used here. -/
import Derived.Shelf.Strings.IndexAnyAll
import Derived.Test.YtoandhhkmkgmaaaProg
namespace Go.Proofs
open Go.Shelf
def Try.laysAn150_ren : Go.Shelf.Ren := ⟨fun | 150 => 76 | 153 => 89 | 152 => 106 | 226 => 107 | 227 => 108 | 228 => 109 | 137 => 81 | 119 => 120 | 224 => 111 | 225 => 110 | 217 => 93 | 266 => 113 | n => n, fun | 9 => 9 | 4 => 4 | 3 => 3 | 5 => 5 | 21 => 21 | 117 => 143 | 116 => 142 | 0 => 0 | 46 => 124 | 124 => 153 | n => n, fun | n => n⟩
theorem Try.laysAn150 : Go.Proofs.Lays.n150 Try.prog Try.laysAn150_ren := {
  mixed := by kernel_rfl
  f119 := Try.func120.trans (congrArg some (by kernel_rfl))
  f137 := Try.func81.trans (congrArg some (by kernel_rfl))
  f150 := Try.func76.trans (congrArg some (by kernel_rfl))
  f152 := Try.func106.trans (congrArg some (by kernel_rfl))
  f153 := Try.func89.trans (congrArg some (by kernel_rfl))
  f217 := Try.func93.trans (congrArg some (by kernel_rfl))
  f224 := Try.func111.trans (congrArg some (by kernel_rfl))
  f225 := Try.func110.trans (congrArg some (by kernel_rfl))
  f226 := Try.func107.trans (congrArg some (by kernel_rfl))
  f227 := Try.func108.trans (congrArg some (by kernel_rfl))
  f228 := Try.func109.trans (congrArg some (by kernel_rfl))
  f266 := Try.func113.trans (congrArg some (by kernel_rfl))
  t0 := Try.underlying0
  a0 := Try.isAgg0
  z0 := Try.sizeOf0
  v0 := Try.zeroValue0
  t3 := Try.underlying3
  a3 := Try.isAgg3
  z3 := Try.sizeOf3
  v3 := Try.zeroValue3
  t4 := Try.underlying4
  a4 := Try.isAgg4
  z4 := Try.sizeOf4
  v4 := Try.zeroValue4
  t5 := Try.underlying5
  a5 := Try.isAgg5
  z5 := Try.sizeOf5
  v5 := Try.zeroValue5
  t9 := Try.underlying9
  a9 := Try.isAgg9
  z9 := Try.sizeOf9
  v9 := Try.zeroValue9
  t21 := Try.underlying21
  a21 := Try.isAgg21
  z21 := Try.sizeOf21
  v21 := Try.zeroValue21
  t46 := Try.underlying124
  a46 := Try.isAgg124
  z46 := Try.sizeOf124
  v46 := Try.zeroValue124
  t116 := Try.underlying142
  a116 := Try.isAgg142
  z116 := Try.sizeOf142
  t117 := Try.underlying143
  a117 := Try.isAgg143
  z117 := Try.sizeOf143
  v117 := Try.zeroValue143
  t124 := Try.underlying153
  a124 := Try.isAgg153
  z124 := Try.sizeOf153
  v124 := Try.zeroValue153 }
open Go.RowKit Go.Lib in
/-- strings.ContainsAny ON ASCII BYTES. (LAID: no walk: one application.) -/
theorem Try.strings_ContainsAny (hv116 : ∀ w, (zeroValue 142).run Try.prog w = .ok (.agg (Array.replicate 256 (.bool false))) w) (s chars : ByteArray) (w : World) (hs : s.size < 4294967281) (hcs : chars.size < 4294967281) (has : ∀ (j : Nat) b, s.data.toList[j]? = some b → b.toNat < 128) (hac : ∀ (j : Nat) b, chars.data.toList[j]? = some b → b.toNat < 128) :
    Calls Try.prog 76 #[.string s, .string chars] w fun e w' => e = .returned (.bool (Lib.containsAny s.data.toList chars.data.toList)) ∧ Below w.heap.size w w' := Any.strings_ContainsAny Try.laysAn150 hv116 (by kernel_rfl) s chars w hs hcs has hac
end Go.Proofs
