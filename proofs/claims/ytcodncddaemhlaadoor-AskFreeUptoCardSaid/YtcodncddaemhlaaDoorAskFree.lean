/- The law AskFree, walked: for every ask as it lies, of at most 2^20 bytes in each name, over the tables of ask and of utf8, it returns true. -/
import Derived.Test.YtcodncddaemhlaaDoorAskF2
import Derived.Test.YtcodncddaemhlaaDoorAskF3
import Derived.Test.YtcodncddaemhlaaDoorAskR2
import Derived.Test.YtcodncddaemhlaaDoorName12
namespace Go.Proofs.YtcodncddaemhlaaDoor
open Go.RowKit

set_option maxRecDepth 100000 in
set_option maxHeartbeats 2000000 in
theorem askFree_walk (x : AskT) (A : Option Addr) (c : Nat) (w : World) (hA : AskAt w x A c) (hok : AskOk x) (hs : sizeA x ≤ 1152921504606846976) (hF : FTab w) :
    Calls Tryd.prog 4 #[askV x A c] w fun e w' => e = .returned (.bool true) ∧ Below w.heap.size w w' := by
  obtain ⟨y, hy⟩ := boxA_new w (.int .i64 x.kind) (.string ⟨x.name.toArray⟩) (.int .i64 x.n) (.slice A x.X.length c) 24
  have Y := Lib.hid y
  have HY := Lib.hid hy
  have CF := Lib.hid (aFreeTop_any x A c _ (AskAt.keep hy _ _ _ hA) hok hs (hF.below hy))
  have CA := Lib.hid (fun W (hb : Below w.heap.size w W) => rAskFault_any x A c W (AskAt.keep hb _ _ _ hA) hok hs)
  have CV := Lib.hid (fun (h : askE x = 0) W (hb : Below w.heap.size w W) => rFree_any x A c W (AskAt.keep hb _ _ _ hA) (by have := (askE_ok h).1; omega))
  have HL0 : Hid (askE x ≠ 0 → freeL x = []) := Lib.hid (fun h => if_neg h)
  have HL1 : Hid (askE x = 0 → freeL x = fvA x) := Lib.hid (fun h => by unfold freeL; rw [if_pos h, rising_free (askE_ok h).2])
  have HFL : Hid (askE x = 0 → (fvA x).length ≤ 60) := Lib.hid (fun h => Nat.le_trans (sizeA_fv x) (askE_ok h).1)
  clear hA hok hs hF y hy
  unfold askV at *
  unfold CntPost at CA
  unfold FreeTop at CF
  generalize hbs : (⟨x.name.toArray⟩ : ByteArray) = bs at *
  clear hbs
  generalize freeL x = FL at *
  generalize fvA x = FV at *
  generalize askE x = E at *
  generalize x.kind = xk at *
  generalize x.n = xn at *
  generalize x.X.length = xm at *
  go_enter Tryd.func4, Tryd.ntmps4
  go_upto_region 1 with fail
  generalize w.alloc (.cells #[.int .i64 xk, .string bs, .int .i64 xn, .slice A xm c] 24) = w1 at *
  obtain ⟨y1, y2, y3, y4⟩ := Y.out
  go_wp2_with fail
  refine CF.out.mono ?_
  rintro e w2 ⟨A2, c2, rfl, hr2, hb2⟩
  have HR2 := Lib.hid hr2
  have HB2 := Lib.hid (below_then HY.out hb2)
  have Y2 := Lib.hid (Y.out.below hb2)
  clear hr2 hb2 y1 y2 y3 y4
  obtain ⟨y1, y2, y3, y4⟩ := Y2.out
  go_upto_region 2 with fail
  have CA2 := Lib.hid (CA.out w2 HB2.out)
  go_wp2_with fail
  refine CA2.out.mono ?_
  rintro e w3 ⟨rfl, hb3⟩
  have HR3 := Lib.hid (HR2.out.below hb3)
  have HB3 := Lib.hid (below_then HB2.out hb3)
  have Y3 := Lib.hid (Y2.out.below hb3)
  clear hb3 y1 y2 y3 y4
  by_cases h0 : E = 0
  · have HC := Lib.hid (CV.out h0 w3 HB3.out)
    have HL := Lib.hid (HL1.out h0)
    have HFL1 := Lib.hid (HFL.out h0)
    rw [HL.out] at HR3
    obtain rfl := HL.out
    subst h0
    unfold FVPost at HC
    obtain ⟨y1, y2, y3, y4⟩ := Y3.out
    go_wp2_with fail
    refine HC.out.mono ?_
    rintro e w4 ⟨A4, c4, rfl, hr4, hb4, _⟩
    have HEQ := Lib.hid (slSelf_any (c1 := c2) (c2 := c4) FL w4 (HR3.out.below hb4) hr4 rfl (by have := HFL1.out; omega))
    have HB4 := Lib.hid (below_then HB3.out hb4)
    clear hr4 hb4 y1 y2 y3 y4
    go_wp2_with fail
    refine HEQ.out.mono ?_
    rintro e w5 ⟨rfl, hb5⟩
    have HB5 := Lib.hid (below_then HB4.out hb5)
    clear hb5
    go_wp2_with fail
    go_ret
    exact ⟨rfl, HB5.out⟩
  · have hne : (((E : Nat) : Int) != 0) = true := by simp; omega
    have HL : Hid (FL = []) := Lib.hid (HL0.out h0)
    obtain rfl := HL.out
    clear h0
    go_wp2_with fail
    go_ret
    exact ⟨ret_bool (by simp), HB3.out⟩
end Go.Proofs.YtcodncddaemhlaaDoor
