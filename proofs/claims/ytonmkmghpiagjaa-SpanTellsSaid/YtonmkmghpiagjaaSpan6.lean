/- Contract: times sorted by the library. Lengths below 2^43. -/
import Derived.Test.YtonmkmghpiagjaaSpan5
import Derived.Test.YtonmkmghpiagjaaSortOwn
import Derived.Test.YtonmkmghpiagjaaShelf
import Derived.Shelf.Abstract
namespace Go.Proofs.Ytonmkmghpiagjaa
open Go.RowKit Go.Sort Go.Lib

set_option maxHeartbeats 1000000 in
theorem tSort_any {A : Option Addr} {n c : Nat} (l : List UInt64) (w : World) (hr : Rd w A (l.map fv)) (hn : l.length = n) (hb : n * 8 ≤ 140737488355328) :
    Calls Try.prog 13 #[.slice A n c] w (OwnP 22 n ((tsort l).map fv) w) := by
  have H := Lib.hid (tClone_any (c := c) l w hr hn hb)
  have eg : ∀ args w, (callFunc 7 args).run Try.prog w = .ok (.enter 7 args) w := fun args w => enters_of Try.func7 (by kernel_rfl) rfl args w
  have HN := Lib.hid hn
  have HEG := Lib.hid eg
  clear hr hn eg
  go_enter Try.func13, Try.ntmps13
  go_wp2_with fail
  refine H.out.mono ?_
  rintro e w1 ⟨A1, c1, rfl, hown, hb1⟩
  have HO := Lib.hid hown
  have HB := Lib.hid hb1
  clear hown hb1
  rcases Nat.eq_zero_or_pos n with h0 | h0
  · subst h0
    have hl : l = [] := List.eq_nil_of_length_eq_zero HN.out
    subst hl
    go_wp2_with fail
    refine (Try.slices_SortFunc_none (α := UInt64) _ _ _ _).mono ?_
    rintro e w' ⟨rfl, rfl⟩
    go_wp2_with fail
    go_ret
    exact ⟨A1, c1, rfl, by simpa [tsort] using HO.out, HB.out⟩
  · obtain ⟨g, rfl, hg1, hg2, hH⟩ := own_holds HO.out h0
    have hsz : l.toArray.size = n := by simpa using HN.out
    have hcmp : CmpLays1 Try.prog 7 #[] fv cfT g 0 l.toArray.size w1 := fun m os dk _ x y => (tOrder_any x y _).mono fun e w' ⟨he, hw⟩ => ⟨he, 0, #[], by rw [← hw]; simp [World.drewN, grow]⟩
    have HT := Lib.hid (Try.slices_SortFunc_total fv (fun _ => rfl) cfT swoT 7 #[] g 0 c1 l.toArray w1 HEG.out hcmp hH hg2 (by omega) totT)
    rw [hsz] at HT
    clear hcmp hH hsz
    go_wp2_with fail
    refine HT.out.mono ?_
    rintro e w2 ⟨rfl, q, os, rfl⟩
    have e1 : (l.toArray.toList.mergeSort fun x y => !(ltOf cfT) y x) = tsort l := by simp [tsort]
    have HS := Lib.hid (own_sorted HO.out (tsort_len l) q os)
    have HSB := Lib.hid (own_sorted_below HO.out (tsort_len l) HB.out.size q os)
    rw [e1]
    clear e1
    generalize sortWorld fv w1 g 0 q (tsort l).toArray os = w2 at HS HSB ⊢
    go_wp2_with fail
    go_ret
    exact ⟨_, c1, rfl, HS.out.1, HB.out.trans HSB.out⟩
end Go.Proofs.Ytonmkmghpiagjaa
