/- Contract: the law's helper good: are all errors none? Lengths below 2^63. -/
import Derived.Test.YtonmkmghpiagjaaDoorCf
import Derived.Shelf.Abstract
namespace Go.Proofs.YtonmkmghpiagjaaDoor
open Go.RowKit

theorem allOk_any {A : Option Addr} {n c : Nat} (xs : List Int) (w : World) (hx : Rd w A (xs.map (.int .i64))) (hn : xs.length = n) (hb : n ≤ 9223372036854775807) :
    Calls Tryd.prog 18 #[.slice A n c] w fun e w' => e = .returned (.bool (!xs.any fun x => x != 0)) ∧ Below w.heap.size w w' := by
  have eg : ∀ args w, (callFunc 70 args).run Tryd.prog w = .ok (.enter 70 args) w := fun args w => enters_of Tryd.func70 (by kernel_rfl) rfl args w
  have hp : ∀ x, x ∈ xs → ∀ W, Below w.heap.size w W → Calls Tryd.prog 70 (#[Value.int .i64 x] ++ #[]) W fun e w' => e = .returned (.bool (x != 0)) ∧ Below W.heap.size W w' := fun x _ W _ => by
    show Calls Tryd.prog 70 #[Value.int .i64 x] W _
    go_enter Tryd.func70, Tryd.ntmps70
    go_wp2_with fail
    go_ret
    exact ⟨rfl, Below.refl _ _⟩
  have H := Lib.hid (cf_Err (c := c) (Value.int .i64) (fun x => x != 0) 70 #[] eg xs w hx hn hb hp)
  clear hx hn hp eg
  generalize hr : xs.any (fun x => x != 0) = r at H ⊢
  clear hr
  go_enter Tryd.func18, Tryd.ntmps18
  go_wp2_with fail
  refine H.out.mono ?_
  rintro e w2 ⟨rfl, hb2⟩
  go_wp2_with fail
  go_ret
  exact ⟨rfl, hb2⟩
end Go.Proofs.YtonmkmghpiagjaaDoor
